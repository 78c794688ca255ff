/- Chapter 20, plain: what the laws say. -/
import Derived.Test.YtgcjhcefpkbheaaSwD
namespace Go.Proofs.Ytgcjhcefpkbheaa.Sp
open Go.Proofs.Ytgcjhcefpkbheaa.Lg Go
def fewP (pts : List Pt) : List Pt := (pts.take 20).map fun x => ((x.1 : List Nt).take 10, ())
/-- Does each one touch one ahead? -/
def chainA (l : List T3) : List Gr → List Gr → Bool
  | _, [] => true
  | pre, x :: r => pre.any (fun y => touchR l y x) && chainA l (pre ++ [x]) r
def chainP (l : List T3) (g : List Gr) : Bool := chainA l (g.take 1) (g.drop 1)
def cntP (x : Gr) (b : List Gr) : Int := ((b.filter (sameG1 x)).length : Int)
def sameP (a b : List Gr) : Bool := (a.all fun x => decide (cntP x b = 1)) && decide (a.length = b.length)

/-! ### Touching -/
theorem hasS_app (a b : List (RowE [.str])) (v : List UInt8) : hasS (a ++ b) v = (hasS a v || hasS b v) := by
  unfold hasS; exact List.any_append
theorem varsG_any (l : List T3) (q : RowE [.str] → Bool) : ∀ r : List Nt, (varsG l r).any q = r.any fun i => inR l i && (varsS (getR tpS l i.1)).any q
  | [] => rfl
  | i :: r => by
    rw [varsG, List.any_append, varsG_any l q r, List.any_cons]
    congr 1
    by_cases h : 0 ≤ (i.1 : Int) ∧ (i.1 : Int) < l.length
    · rw [if_pos h]
      have : inR l i = true := by unfold inR; rw [decide_eq_true h.1, decide_eq_true h.2]; rfl
      rw [this, Bool.true_and]
    · rw [if_neg h]
      have : inR l i = false := by
        unfold inR
        by_cases h1 : 0 ≤ (i.1 : Int)
        · rw [decide_eq_false (fun q => h ⟨h1, q⟩), Bool.and_false]
        · rw [decide_eq_false h1, Bool.false_and]
      rw [this, Bool.false_and]; rfl
theorem hasS_any (a : List (RowE [.str])) (v : List UInt8) : hasS a v = a.any fun x => x.1 == v := rfl
theorem touch_eq (l : List T3) (a b : Gr) : touchR l a b = touchP l a b := by
  unfold touchR touchP
  rw [varsG_any]
  congr 1
  funext i
  have h1 : ∀ v : RowE [.str], hasS (varsG l b.1) v.1 = (b.1 : List Nt).any fun k => inR l k && hasS (varsS (getR tpS l k.1)) v.1 := fun v => varsG_any l _ b.1
  rw [show (fun v : RowE [.str] => hasS (varsG l b.1) v.1) = fun v => (b.1 : List Nt).any fun k => inR l k && hasS (varsS (getR tpS l k.1)) v.1 from funext h1]
  rw [Bool.eq_iff_iff]
  simp only [sharedP, List.any_eq_true, Bool.and_eq_true]
  constructor
  · rintro ⟨k, hk, ⟨hi, hk2⟩, v, hv, hv2⟩
    exact ⟨hi, v, hv, k, hk, hk2, hv2⟩
  · rintro ⟨hi, v, hv, k, hk, hk2, hv2⟩
    exact ⟨k, hk, ⟨hi, hk2⟩, v, hv, hv2⟩
theorem shared_symm (l : List T3) (i k : Nt) : sharedP l i k = true → sharedP l k i = true := by
  simp only [sharedP, Bool.and_eq_true, List.any_eq_true, hasS_any, beq_iff_eq]
  rintro ⟨⟨h1, h2⟩, v, hv, x, hx, e⟩
  exact ⟨⟨h2, h1⟩, x, hx, v, hv, e.symm⟩
theorem touch_symm (l : List T3) (a b : Gr) : touchR l a b = true → touchR l b a = true := by
  simp only [touchR, List.any_eq_true]
  rintro ⟨i, hi, k, hk, h⟩
  exact ⟨k, hk, i, hi, shared_symm l i k h⟩
/-! ### The same -/
theorem sameI_iff : ∀ a b : List Nt, sameI a b = true ↔ a = b
  | [], [] => by simp [sameI]
  | [], _ :: _ => by simp [sameI]
  | _ :: _, [] => by simp [sameI]
  | x :: a, y :: b => by
    rw [sameI, Bool.and_eq_true, decide_eq_true_eq, sameI_iff a b]
    constructor
    · rintro ⟨h1, h2⟩
      rw [h2, show x = y from Prod.ext h1 rfl]
    · intro h
      simp only [List.cons.injEq] at h
      exact ⟨by rw [h.1], h.2⟩
theorem sameG1_iff (x y : Gr) : sameG1 x y = true ↔ x = y := by
  unfold sameG1
  rw [Bool.and_eq_true, sameI_iff, sameI_iff]
  constructor
  · rintro ⟨h1, h2⟩
    exact Prod.ext h1 (Prod.ext h2 rfl)
  · rintro rfl; exact ⟨rfl, rfl⟩
theorem sameG_self : ∀ a : List Gr, sameG a a = true
  | [] => rfl
  | x :: a => by rw [sameG, (sameG1_iff x x).2 rfl, sameG_self a]; rfl
theorem cnt_one {x : Gr} : ∀ {b : List Gr}, b.Nodup → x ∈ b → cntP x b = 1
  | [], _, h => by cases h
  | y :: b, hn, h => by
    simp only [List.nodup_cons] at hn
    unfold cntP
    rcases List.mem_cons.1 h with rfl | h
    · have : b.filter (sameG1 x) = [] := List.filter_eq_nil_iff.2 fun z hz q => hn.1 (by rw [(sameG1_iff x z).1 q]; exact hz)
      rw [List.filter_cons, (sameG1_iff x x).2 rfl, if_pos rfl, this]; rfl
    · have hne : sameG1 x y ≠ true := fun q => hn.1 (by rw [← (sameG1_iff x y).1 q]; exact h)
      rw [List.filter_cons, if_neg hne]
      exact cnt_one hn.2 h
theorem sameP_perm {a b : List Gr} (h : a.Perm b) (hn : b.Nodup) : sameP a b = true := by
  unfold sameP
  rw [Bool.and_eq_true]
  refine ⟨List.all_eq_true.2 fun x hx => decide_eq_true (cnt_one hn (h.mem_iff.1 hx)), decide_eq_true h.length_eq⟩
/-! ### The arrangement is the document's -/
def pickB (T : Nt → Bool) : Int → List Nt → Int
  | nx, [] => nx
  | nx, i :: r => bif T i then (i.1 : Int) else pickB T (if nx < 0 then (i.1 : Int) else nx) r
theorem pick_filter (l : List T3) (gs out : List Gr) (t : TM) : ∀ (r : List Nt) (nx : Int), pickA l gs out t nx r = pickB (fun i => out.any fun g => touchP l g (getR grS gs i.1)) nx (r.filter fun i => !tkn t i.1)
  | [], nx => rfl
  | i :: r, nx => by
    rw [pickA]
    simp only [List.filter_cons]
    cases h : tkn t i.1
    · simp only [cond_false, Bool.not_false, if_true]
      rw [pickB, pick_filter l gs out t r]
    · simp only [cond_true, Bool.not_true, Bool.false_eq_true, if_false]
      rw [pick_filter l gs out t r]
theorem pickB_none {T : Nt → Bool} : ∀ (r : List Nt) (nx : Int), 0 ≤ nx → r.any T = false → pickB T nx r = nx
  | [], _, _, _ => rfl
  | i :: r, nx, h0, h => by
    rw [List.any_cons, Bool.or_eq_false_iff] at h
    rw [pickB, h.1, cond_false, if_neg (by omega), pickB_none r nx h0 h.2]
theorem pickB_some {T : Nt → Bool} {f : Nt → Gr} {p : Gr → Bool} (hT : ∀ i, T i = p (f i)) : ∀ (r : List Nt) (nx k : Int), r.any T = true → ∃ n, ∃ h : n < r.length, firstG p (r.map f) k = k + n ∧ pickB T nx r = r[n].1
  | [], _, _, h => by simp at h
  | i :: r, nx, k, h => by
    rw [List.map_cons, firstG, pickB, ← hT i]
    cases q : T i
    · rw [List.any_cons, q, Bool.false_or] at h
      obtain ⟨n, hn, h1, h2⟩ := pickB_some hT r (if nx < 0 then (i.1 : Int) else nx) (k + 1) h
      refine ⟨n + 1, by simpa using hn, ?_, ?_⟩
      · rw [if_neg (by simp), h1]; omega
      · rw [cond_false, h2]; rfl
    · exact ⟨0, by simp, by rw [if_pos rfl]; omega, by rw [cond_true]; rfl⟩
theorem tkn_put (t : TM) (i j : Int) : tkn (mput (.int .i64) [.bool] t i (true, ())) j = (decide (j = i) || tkn t j) := by
  classical
  unfold tkn
  rw [mget_look, mget_look, look_mput rfl]
  by_cases h : j = i
  · rw [if_pos h, decide_eq_true h]; rfl
  · rw [if_neg h, decide_eq_false h, Bool.false_or]
theorem filter_erase1 : ∀ (L : List Nt) (n : Nat) (h : n < L.length), (L.map Prod.fst).Nodup → L.filter (fun i => !decide ((i.1 : Int) = L[n].1)) = L.eraseIdx n
  | [], _, h, _ => by simp at h
  | x :: L, 0, _, hn => by
    simp only [List.map_cons, List.nodup_cons] at hn
    simp only [List.getElem_cons_zero, List.eraseIdx_cons_zero]
    rw [List.filter_cons, if_neg (by simp)]
    refine List.filter_eq_self.2 fun y hy => ?_
    simp only [Bool.not_eq_true', decide_eq_false_iff_not]
    intro e
    exact hn.1 (e ▸ List.mem_map_of_mem hy)
  | x :: L, n + 1, h, hn => by
    simp only [List.map_cons, List.nodup_cons] at hn
    simp only [List.getElem_cons_succ, List.eraseIdx_cons_succ]
    have h' : n < L.length := by simpa using h
    rw [List.filter_cons, if_pos (by
      simp only [Bool.not_eq_true', decide_eq_false_iff_not]
      intro e
      exact hn.1 (e ▸ List.mem_map_of_mem (List.getElem_mem h'))), filter_erase1 L n h' hn.2]
theorem map_erase {α β : Type} (f : α → β) : ∀ (L : List α) (n : Nat), (L.eraseIdx n).map f = (L.map f).eraseIdx n
  | [], _ => rfl
  | x :: L, 0 => rfl
  | x :: L, n + 1 => by simp only [List.eraseIdx_cons_succ, List.map_cons, map_erase f L n]
theorem arr_ref (l : List T3) (gs : List Gr) (ord : List Nt) (hn : (ord.map Prod.fst).Nodup) (h0 : ∀ i ∈ ord, 0 ≤ (i.1 : Int)) : ∀ (k : Nat) (t : TM) (out : List Gr), (ord.filter fun i => !tkn t i.1).length = k →
    arrA l gs ord k t out = refArr l k ((ord.filter fun i => !tkn t i.1).map fun i => getR grS gs i.1) out
  | 0, _, _, _ => rfl
  | k + 1, t, out, hk => by
    rw [arrA, refArr, pick_filter]
    generalize hL : (ord.filter fun i => !tkn t i.1) = L at hk ⊢
    have hLn : (L.map Prod.fst).Nodup := by rw [← hL]; exact hn.sublist (List.filter_sublist.map _)
    have hL0 : ∀ i ∈ L, 0 ≤ (i.1 : Int) := fun i hi => h0 i (List.mem_filter.1 (hL ▸ hi : i ∈ ord.filter fun i => !tkn t i.1)).1
    have key : ∃ n, ∃ h : n < L.length, nextP l out (L.map fun i => getR grS gs i.1) = n ∧ pickB (fun i => out.any fun g => touchP l g (getR grS gs i.1)) (-1) L = L[n].1 := by
      have hT : ∀ i : Nt, (out.any fun g => touchP l g (getR grS gs i.1)) = touchesP l out (getR grS gs i.1) := fun i => by
        unfold touchesP
        simp only [touch_eq]
      unfold nextP
      have ha : (L.map fun i : Nt => getR grS gs i.1).any (touchesP l out) = L.any fun i => out.any fun g => touchP l g (getR grS gs i.1) := by
        rw [List.any_map]
        congr 1
        funext i
        exact (hT i).symm
      rw [ha]
      cases q : L.any fun i => out.any fun g => touchP l g (getR grS gs i.1)
      · rw [cond_false]
        match L, hk, hL0, q with
        | i :: L', _, hL0, q =>
          rw [List.any_cons, Bool.or_eq_false_iff] at q
          refine ⟨0, by simp, rfl, ?_⟩
          rw [pickB, q.1, cond_false, if_pos (by decide), pickB_none L' _ (hL0 i List.mem_cons_self) q.2]; rfl
      · rw [cond_true]
        obtain ⟨n, h, h1, h2⟩ := pickB_some (f := fun i : Nt => getR grS gs i.1) hT L (-1) 0 q
        exact ⟨n, h, by rw [h1]; omega, h2⟩
    obtain ⟨n, h, h1, h2⟩ := key
    rw [h1, h2, Int.toNat_natCast]
    have e1 : getR grS (L.map fun i => getR grS gs i.1) (n : Int) = getR grS gs L[n].1 := getR_of (by rw [List.getElem?_map, List.getElem?_eq_getElem h]; rfl)
    have e2 : (ord.filter fun i => !tkn (mput (.int .i64) [.bool] t L[n].1 (true, ())) i.1) = L.eraseIdx n := by
      rw [← filter_erase1 L n h hLn]
      generalize (L[n].1 : Int) = j
      rw [← hL, List.filter_filter]
      refine List.filter_congr fun i _ => ?_
      rw [tkn_put, Bool.not_or]
    have ih := arr_ref l gs ord hn h0 k (mput (.int .i64) [.bool] t L[n].1 (true, ())) (out ++ [getR grS gs L[n].1]) (by rw [e2, List.length_eraseIdx, if_pos h]; omega)
    rw [ih, e1, e2]
    congr 1
    rw [map_erase]
theorem arrange_eq (l : List T3) (gs : List Gr) (rev : Bool) : arrangeP l gs rev = refArr l gs.length (lefts gs rev) [] := by
  unfold arrangeP
  have hf : ((ordP gs.length rev).filter fun i => !tkn [] i.1) = ordP gs.length rev := List.filter_eq_self.2 fun i _ => rfl
  rw [arr_ref l gs (ordP gs.length rev) (ord_nodup _ _) (fun i hi => (ord_mem hi).1) gs.length [] [] (by rw [hf, ord_len]), hf]
  congr 1
  apply List.ext_getElem
  · rw [List.length_map, ord_len]; unfold lefts; cases rev <;> simp
  · intro m h1 h2
    rw [List.length_map, ord_len] at h1
    have := lefts_at (gs := gs) (rev := rev) h1
    rw [List.drop_eq_getElem_cons (i := m) h2] at this
    simp only [List.cons.injEq] at this
    rw [this.1, List.getElem_map]
    simp [ordP]
end Go.Proofs.Ytgcjhcefpkbheaa.Sp
