/- Chapter 20, plain: chains and covers. -/
import Derived.Test.YtgcjhcefpkbheaaSwE
namespace Go.Proofs.Ytgcjhcefpkbheaa.Sp
open Go.Proofs.Ytgcjhcefpkbheaa.Lg Go
/-! ### Arrangements hang together or not, from either end on -/
theorem chainA_app (l : List T3) (x : Gr) : ∀ (r pre : List Gr), chainA l pre (r ++ [x]) = (chainA l pre r && (pre ++ r).any fun y => touchR l y x)
  | [], pre => by simp [chainA]
  | y :: r, pre => by
    rw [List.cons_append, chainA, chainA, chainA_app l x r (pre ++ [y]), Bool.and_assoc]
    simp only [List.append_assoc, List.singleton_append]
theorem chainP_snoc (l : List T3) {out : List Gr} (x : Gr) (h : out ≠ []) : chainP l (out ++ [x]) = (chainP l out && out.any fun y => touchR l y x) := by
  match out, h with
  | a :: r, _ =>
    unfold chainP
    show chainA l [a] (r ++ [x]) = (chainA l [a] r && _)
    rw [chainA_app]; rfl
def Conn (l : List T3) (gs : List Gr) : Prop := ∀ S : Gr → Bool, (∃ x ∈ gs, S x = true) → (∃ y ∈ gs, S y = false) → ∃ x ∈ gs, ∃ y ∈ gs, S x = true ∧ S y = false ∧ touchR l x y = true
theorem Conn.perm {l : List T3} {gs gs' : List Gr} (h : Conn l gs) (p : gs.Perm gs') : Conn l gs' := by
  intro S ⟨x, hx, h1⟩ ⟨y, hy, h2⟩
  obtain ⟨x', hx', y', hy', k⟩ := h S ⟨x, p.mem_iff.2 hx, h1⟩ ⟨y, p.mem_iff.2 hy, h2⟩
  exact ⟨x', p.mem_iff.1 hx', y', p.mem_iff.1 hy', k⟩
theorem chain_cross {l : List T3} {S : Gr → Bool} {s : Bool} : ∀ (r pre : List Gr), chainA l pre r = true → (∀ x ∈ pre, S x = s) → (∃ y ∈ r, S y = !s) → ∃ x ∈ pre ++ r, ∃ y ∈ pre ++ r, S x = s ∧ S y = (!s) ∧ touchR l x y = true
  | [], _, _, _, ⟨y, hy, _⟩ => by cases hy
  | z :: r, pre, h, hp, ⟨y, hy, hs⟩ => by
    rw [chainA, Bool.and_eq_true] at h
    by_cases q : S z = !s
    · obtain ⟨x, hx, ht⟩ := List.any_eq_true.1 h.1
      exact ⟨x, List.mem_append_left _ hx, z, by simp, hp x hx, q, ht⟩
    · have q' : S z = s := by cases s <;> cases hz : S z <;> simp_all
      obtain ⟨x, hx, y', hy', k⟩ := chain_cross (S := S) (s := s) r (pre ++ [z]) h.2 (fun x hx => by
        rcases List.mem_append.1 hx with hx | hx
        · exact hp x hx
        · rw [List.mem_singleton.1 hx]; exact q') ⟨y, by
          rcases List.mem_cons.1 hy with rfl | hy
          · exact absurd hs q
          · exact hy, hs⟩
      exact ⟨x, by simpa using hx, y', by simpa using hy', k⟩
theorem chain_conn {l : List T3} {g : List Gr} (h : chainP l g = true) : Conn l g := by
  match g, h with
  | [], _ => intro S ⟨x, hx, _⟩; cases hx
  | a :: r, h =>
    intro S ⟨x, hx, h1⟩ ⟨y, hy, h2⟩
    have h : chainA l [a] r = true := h
    cases q : S a
    · have hx' : x ∈ r := by
        rcases List.mem_cons.1 hx with rfl | hx
        · rw [q] at h1; cases h1
        · exact hx
      obtain ⟨u, hu, v, hv, k1, k2, k3⟩ := chain_cross (S := S) (s := false) r [a] h (by simpa using q) ⟨x, hx', h1⟩
      exact ⟨v, hv, u, hu, k2, k1, touch_symm l u v k3⟩
    · have hy' : y ∈ r := by
        rcases List.mem_cons.1 hy with rfl | hy
        · rw [q] at h2; cases h2
        · exact hy
      obtain ⟨u, hu, v, hv, k1, k2, k3⟩ := chain_cross (S := S) (s := true) r [a] h (by simpa using q) ⟨y, hy', h2⟩
      exact ⟨u, hu, v, hv, k1, k2, k3⟩
theorem firstG_hits (p : Gr → Bool) : ∀ (l : List Gr) (i : Int), l.any p = true → ∃ n, ∃ h : n < l.length, firstG p l i = i + n ∧ p l[n] = true
  | [], _, h => by simp at h
  | x :: l, i, h => by
    rw [firstG]
    by_cases q : p x = true
    · exact ⟨0, by simp, by rw [if_pos q]; omega, q⟩
    · rw [if_neg q]
      simp only [Bool.not_eq_true] at q
      rw [List.any_cons, q, Bool.false_or] at h
      obtain ⟨n, hn, h1, h2⟩ := firstG_hits p l (i + 1) h
      exact ⟨n + 1, by simpa using hn, by rw [h1]; omega, h2⟩
theorem getR_nat {es : List Sh} {l : List (RowE es)} {n : Nat} (h : n < l.length) : getR es l (n : Int) = l[n] := getR_of (List.getElem?_eq_getElem h)
theorem next_hits (l : List T3) (taken left : List Gr) (h : left.any (touchesP l taken) = true) : touchesP l taken (getR grS left (nextP l taken left)) = true := by
  unfold nextP
  rw [h, cond_true]
  obtain ⟨n, hn, h1, h2⟩ := firstG_hits (touchesP l taken) left 0 h
  rw [h1, Int.zero_add, getR_nat hn]; exact h2
theorem perm_step {left out : List Gr} {n : Nat} (h : n < left.length) : ((out ++ [left[n]]) ++ left.eraseIdx n).Perm (out ++ left) := by
  rw [List.append_assoc]
  refine List.Perm.append_left _ ?_
  rw [List.eraseIdx_eq_take_drop_succ]
  have e : left = left.take n ++ left[n] :: left.drop (n + 1) := by
    rw [← List.drop_eq_getElem_cons h, List.take_append_drop]
  conv => rhs; rw [e]
  show (left[n] :: (left.take n ++ left.drop (n + 1))).Perm _
  exact List.perm_middle.symm
theorem ref_perm (l : List T3) : ∀ (k : Nat) (left out : List Gr), left.length = k → (refArr l k left out).Perm (out ++ left)
  | 0, left, out, h => by
    have : left = [] := List.length_eq_zero_iff.1 h
    subst this; rw [refArr, List.append_nil]
  | k + 1, left, out, h => by
    have hn := next_in l out left (by omega)
    obtain ⟨n, hnn⟩ := Int.eq_ofNat_of_zero_le hn.1
    rw [refArr, hnn, Int.toNat_natCast]
    have hlt : n < left.length := by omega
    rw [getR_nat hlt]
    exact (ref_perm l k (left.eraseIdx n) _ (by rw [List.length_eraseIdx, if_pos hlt]; omega)).trans (perm_step hlt)
theorem conn_chain (l : List T3) : ∀ (k : Nat) (left out : List Gr), left.length = k → (out ++ left).Nodup → Conn l (out ++ left) → chainP l out = true → chainP l (refArr l k left out) = true
  | 0, _, _, _, _, _, h => h
  | k + 1, left, out, h, hd, hc, hp => by
    have hn := next_in l out left (by omega)
    have hit := next_hits l out left
    rw [refArr]
    obtain ⟨n, hnn⟩ := Int.eq_ofNat_of_zero_le hn.1
    rw [hnn] at hit
    rw [hnn, Int.toNat_natCast]
    have hlt : n < left.length := by omega
    rw [getR_nat hlt] at hit ⊢
    have pm := perm_step (out := out) hlt
    refine conn_chain l k (left.eraseIdx n) _ (by rw [List.length_eraseIdx, if_pos hlt]; omega) (pm.nodup_iff.2 hd) (hc.perm pm.symm) ?_
    by_cases ho : out = []
    · subst ho; rfl
    · rw [chainP_snoc l _ ho, hp, Bool.true_and]
      refine hit ?_
      classical
      obtain ⟨x, hx⟩ := List.exists_mem_of_ne_nil out ho
      obtain ⟨u, hu, v, hv, k1, k2, k3⟩ := hc (fun z => decide (z ∈ out)) ⟨x, List.mem_append_left _ hx, decide_eq_true hx⟩ ⟨left[n], List.mem_append_right _ (List.getElem_mem hlt), by
        rw [decide_eq_false_iff_not]
        intro q
        exact (List.nodup_append.1 hd).2.2 _ q _ (List.getElem_mem hlt) rfl⟩
      simp only [decide_eq_true_eq, decide_eq_false_iff_not] at k1 k2
      refine List.any_eq_true.2 ⟨v, (List.mem_append.1 hv).resolve_left k2, ?_⟩
      exact List.any_eq_true.2 ⟨u, k1, k3⟩
theorem lefts_perm (gs : List Gr) (rev : Bool) : (lefts gs rev).Perm gs := by
  unfold lefts
  cases rev
  · exact List.Perm.refl _
  · exact List.reverse_perm _
theorem arr_perm (l : List T3) (gs : List Gr) (rev : Bool) : (arrangeP l gs rev).Perm gs := by
  rw [arrange_eq]
  have := ref_perm l gs.length (lefts gs rev) [] (lefts_perm gs rev).length_eq
  exact this.trans (lefts_perm gs rev)
theorem arr_chain (l : List T3) {gs : List Gr} (hn : gs.Nodup) (rev : Bool) : chainP l (arrangeP l gs rev) = true ↔ Conn l gs := by
  constructor
  · intro h; exact (chain_conn h).perm (arr_perm l gs rev)
  · intro h
    rw [arrange_eq]
    have p := lefts_perm gs rev
    exact conn_chain l gs.length (lefts gs rev) [] p.length_eq (p.nodup_iff.2 hn) (h.perm p.symm) rfl
theorem chain_both (l : List T3) {gs : List Gr} (hn : gs.Nodup) (a b : Bool) : chainP l (arrangeP l gs a) = chainP l (arrangeP l gs b) := by
  rw [Bool.eq_iff_iff, arr_chain l hn a, arr_chain l hn b]
/-! ### The groups are all there is -/
theorem groups_nodup (ex : Bool) (pts : List Pt) : (groupsP ex pts).Nodup := (newG_keys ex pts [] 0).1.imp fun {a b} h e => by rw [e] at h; omega
def nv (q : Nt) : Int := q.1
theorem nv_mk (i : CE (.int .i64)) (u : RowE []) : nv (@Prod.mk (CE (.int .i64)) (RowE []) i u) = i := rfl
theorem idxs_at (p : Int) : ∀ (r : List Pt) (i : Int) (q : Nt), q ∈ idxs p r i → i ≤ nv q ∧ nv q < i + r.length ∧ one1 (getR [.sl ntS] r (nv q - i)) = true ∧ hd1 (getR [.sl ntS] r (nv q - i)) = p
  | [], _, _, h => by simp [idxs] at h
  | x :: r, i, q, h => by
    rw [idxs] at h
    rcases List.mem_append.1 h with h | h
    · split at h
      · rename_i c
        have e : nv q = i := by rw [List.mem_singleton.1 h]; rfl
        rw [e]
        refine ⟨Int.le_refl _, by simp only [List.length_cons]; omega, ?_⟩
        rw [Int.sub_self]; exact c
      · cases h
    · obtain ⟨h1, h2, h3⟩ := idxs_at p r (i + 1) q h
      refine ⟨by omega, by simp only [List.length_cons]; omega, ?_⟩
      have e : getR [.sl ntS] (x :: r) (nv q - i) = getR [.sl ntS] r (nv q - (i + 1)) := by
        obtain ⟨n, hn⟩ := Int.eq_ofNat_of_zero_le (show (0 : Int) ≤ nv q - (i + 1) by omega)
        have : nv q - i = ((n + 1 : Nat) : Int) := by omega
        rw [this, hn]; rfl
      rw [e]; exact h3
theorem getR_cons {es : List Sh} (x : RowE es) (r : List (RowE es)) {j : Int} (h : 0 ≤ j) : getR es (x :: r) (j + 1) = getR es r j := by
  obtain ⟨n, hn⟩ := Int.eq_ofNat_of_zero_le h
  subst hn; rfl
theorem newG_at (ex : Bool) : ∀ (r : List Pt) (K : List Int) (i : Int) (g : Gr), g ∈ newG ex K i r → ∀ q ∈ (g.1 : List Nt), i ≤ nv q ∧ nv q < i + r.length ∧ (getR [.sl ntS] r (nv q - i)).1 = g.2.1
  | [], _, _, _, h => by simp [newG] at h
  | x :: r, K, i, g, h => by
    intro q hq
    have later : ∀ K', g ∈ newG ex K' (i + 1) r → i ≤ nv q ∧ nv q < i + (x :: r).length ∧ (getR [.sl ntS] (x :: r) (nv q - i)).1 = g.2.1 := fun K' h => by
      obtain ⟨h1, h2, h3⟩ := newG_at ex r K' (i + 1) g h q hq
      refine ⟨by omega, by simp only [List.length_cons]; omega, ?_⟩
      rw [show nv q - i = (nv q - (i + 1)) + 1 by omega, getR_cons x r (by omega)]; exact h3
    have first : q = ((i, ()) : Nt) → g.2.1 = x.1 → i ≤ nv q ∧ nv q < i + (x :: r).length ∧ (getR [.sl ntS] (x :: r) (nv q - i)).1 = g.2.1 := fun e e2 => by
      have e : nv q = i := by rw [e]; rfl
      rw [e]
      refine ⟨Int.le_refl _, by simp only [List.length_cons]; omega, ?_⟩
      rw [Int.sub_self, e2]; rfl
    rw [newG] at h
    split at h
    · rename_i c
      split at h
      · exact later _ h
      · rcases List.mem_cons.1 h with rfl | h
        · rcases List.mem_cons.1 hq with hq | hq
          · exact first hq rfl
          · obtain ⟨h1, h2, h3, h4⟩ := idxs_at _ _ _ _ hq
            refine ⟨by omega, by simp only [List.length_cons]; omega, ?_⟩
            rw [show nv q - i = (nv q - (i + 1)) + 1 by omega, getR_cons x r (by omega), one1_pt h3, h4]
            exact (one1_pt c.2).symm
        · exact later _ h
    · rcases List.mem_cons.1 h with rfl | h
      · exact first (List.mem_singleton.1 hq) rfl
      · exact later _ h
def cntI (j : Int) : List Nt → Nat
  | [] => 0
  | x :: l => (if nv x = j then 1 else 0) + cntI j l
theorem cntI_app (j : Int) : ∀ (a b : List Nt), cntI j (a ++ b) = cntI j a + cntI j b
  | [], b => by simp [cntI]
  | x :: a, b => by rw [List.cons_append, cntI, cntI, cntI_app j a b]; omega
theorem cntI_lt {j : Int} : ∀ {a : List Nt}, (∀ q ∈ a, j < nv q) → cntI j a = 0
  | [], _ => rfl
  | x :: a, h => by
    rw [cntI, if_neg (by have := h x List.mem_cons_self; omega), cntI_lt fun q hq => h q (List.mem_cons_of_mem _ hq)]
def patsG (gs : List Gr) : List Nt := gs.flatMap fun g => g.1
theorem idxs_cnt (p : Int) : ∀ (r : List Pt) (i j : Int), 0 ≤ j → j < r.length → cntI (i + j) (idxs p r i) = if one1 (getR [.sl ntS] r j) = true ∧ hd1 (getR [.sl ntS] r j) = p then 1 else 0
  | [], _, _, h0, h => by simp at h; omega
  | x :: r, i, j, h0, h => by
    rw [idxs, cntI_app]
    by_cases hj : j = 0
    · subst hj
      rw [Int.add_zero, cntI_lt (a := idxs p r (i + 1)) fun q hq => by have := idxs_at p r (i + 1) q hq; omega]
      show _ = if one1 x = true ∧ hd1 x = p then 1 else 0
      split
      · rw [cntI, nv_mk, if_pos rfl]; rfl
      · rfl
    · have e := idxs_cnt p r (i + 1) (j - 1) (by omega) (by simp only [List.length_cons] at h; omega)
      rw [show i + 1 + (j - 1) = i + j by omega] at e
      rw [e, show j = (j - 1) + 1 by omega, getR_cons x r (by omega), show j - 1 + 1 - 1 = j - 1 by omega]
      split
      · simp only [cntI]; rw [nv_mk, if_neg (show ¬ i = i + (j - 1 + 1) by omega)]; omega
      · simp [cntI]
theorem newG_cnt (ex : Bool) : ∀ (r : List Pt) (K : List Int) (i j : Int), 0 ≤ j → j < r.length → cntI (i + j) (patsG (newG ex K i r)) = if ex = true ∧ one1 (getR [.sl ntS] r j) = true ∧ hd1 (getR [.sl ntS] r j) ∈ K then 0 else 1
  | [], _, _, _, h0, h => by simp at h; omega
  | x :: r, K, i, j, h0, h => by
    have low : ∀ K', cntI i (patsG (newG ex K' (i + 1) r)) = 0 := fun K' => cntI_lt fun q hq => by
      obtain ⟨g, hg, hq⟩ := List.mem_flatMap.1 hq
      have := newG_at ex r K' (i + 1) g hg q hq; omega
    by_cases hj : j = 0
    · subst hj
      rw [Int.add_zero]
      show _ = if ex = true ∧ one1 x = true ∧ hd1 x ∈ K then 0 else 1
      rw [newG]
      by_cases c : ex = true ∧ one1 x = true
      · rw [if_pos c]
        by_cases m : hd1 x ∈ K
        · rw [if_pos m, low, if_pos ⟨c.1, c.2, m⟩]
        · rw [if_neg m, if_neg fun z => m z.2.2, patsG, List.flatMap_cons, cntI_app]
          have := low (hd1 x :: K)
          unfold patsG at this
          rw [this, cntI, nv_mk, if_pos rfl, cntI_lt (a := idxs (hd1 x) r (i + 1)) fun q hq => by have := idxs_at _ r (i + 1) q hq; omega]
      · rw [if_neg c, if_neg fun z => c ⟨z.1, z.2.1⟩, patsG, List.flatMap_cons, cntI_app]
        have := low K
        unfold patsG at this
        rw [this, cntI, nv_mk, if_pos rfl]; rfl
    · have hr : j - 1 < r.length := by simp only [List.length_cons] at h; omega
      have ih := fun K' => newG_cnt ex r K' (i + 1) (j - 1) (by omega) hr
      rw [show i + 1 + (j - 1) = i + j by omega] at ih
      have eg : getR [.sl ntS] (x :: r) j = getR [.sl ntS] r (j - 1) := by
        conv => lhs; rw [show j = (j - 1) + 1 by omega]
        exact getR_cons x r (by omega)
      rw [eg, newG]
      by_cases c : ex = true ∧ one1 x = true
      · rw [if_pos c]
        by_cases m : hd1 x ∈ K
        · rw [if_pos m, ih]
        · rw [if_neg m, patsG, List.flatMap_cons, cntI_app]
          have ih := ih (hd1 x :: K)
          unfold patsG at ih
          have hi := idxs_cnt (hd1 x) r (i + 1) (j - 1) (by omega) hr
          rw [show i + 1 + (j - 1) = i + j by omega] at hi
          rw [ih, cntI, nv_mk, if_neg (show ¬ i = i + j by omega), hi]
          simp only [c.1, true_and, List.mem_cons]
          by_cases o : one1 (getR [.sl ntS] r (j - 1)) = true
          · by_cases q : hd1 (getR [.sl ntS] r (j - 1)) = hd1 x
            · rw [if_pos ⟨o, q⟩, if_pos ⟨o, .inl q⟩, if_neg fun z => m (q ▸ z.2)]
            · rw [if_neg fun z => q z.2]
              by_cases k : hd1 (getR [.sl ntS] r (j - 1)) ∈ K
              · rw [if_pos ⟨o, .inr k⟩, if_pos ⟨o, k⟩]
              · rw [if_neg fun z => z.2.elim q k, if_neg fun z => k z.2]
          · rw [if_neg fun z => o z.1, if_neg fun z => o z.1, if_neg fun z => o z.1]
      · rw [if_neg c, patsG, List.flatMap_cons, cntI_app]
        have ih := ih K
        unfold patsG at ih
        rw [ih]
        simp only [cntI]
        rw [nv_mk, if_neg (show ¬ i = i + j by omega)]; omega
def bump1 (t : List Nt) (p : Nt) : List Nt := t.set (nv p).toNat ((nv (getR ntS t (nv p)) + 1, ()) : Nt)
def bumpL (t : List Nt) (ps : List Nt) : List Nt := ps.foldl bump1 t
theorem bumpL_len : ∀ (ps t : List Nt), (bumpL t ps).length = t.length
  | [], t => rfl
  | p :: ps, t => by
    show (bumpL (bump1 t p) ps).length = _
    rw [bumpL_len ps]; simp [bump1]
theorem bumpL_at : ∀ (ps t : List Nt), (∀ p ∈ ps, 0 ≤ nv p) → ∀ j : Nat, j < t.length → nv (getR ntS (bumpL t ps) (j : Int)) = nv (getR ntS t (j : Int)) + cntI (j : Int) ps
  | [], t, _, j, _ => by simp [bumpL, cntI]
  | p :: ps, t, h, j, hj => by
    show nv (getR ntS (bumpL (bump1 t p) ps) (j : Int)) = _
    rw [bumpL_at ps (bump1 t p) (fun q hq => h q (List.mem_cons_of_mem _ hq)) j (by simpa [bump1] using hj), cntI]
    obtain ⟨n, hn⟩ := Int.eq_ofNat_of_zero_le (h p List.mem_cons_self)
    have hs : getR ntS (bump1 t p) (j : Int) = if n = j then ((nv (getR ntS t (n : Int)) + 1, ()) : Nt) else getR ntS t (j : Int) := by
      unfold bump1
      rw [hn, Int.toNat_natCast]
      simp only [getR, Int.toNat_natCast, List.getElem?_set]
      by_cases e : n = j
      · subst e; simp [hj]
      · simp [e]
    rw [hs, hn]
    by_cases e : n = j
    · subst e
      rw [if_pos rfl, if_pos rfl]
      show nv (getR ntS t (n : Int)) + 1 + _ = _
      omega
    · rw [if_neg e, if_neg (by omega)]; omega
/-- Each pattern is in just one group. -/
theorem cover_all (ex : Bool) (pts : List Pt) : bumpL (List.replicate pts.length ((0, ()) : Nt)) (patsG (groupsP ex pts)) = List.replicate pts.length ((1, ()) : Nt) := by
  apply List.ext_getElem
  · rw [bumpL_len]; simp
  · intro j h1 h2
    have hj : j < pts.length := by simpa using h2
    have hp : ∀ p ∈ patsG (groupsP ex pts), 0 ≤ nv p := fun p hp => by
      obtain ⟨g, hg, hq⟩ := List.mem_flatMap.1 hp
      exact (newG_at ex pts [] 0 g hg p hq).1
    have h := bumpL_at (patsG (groupsP ex pts)) (List.replicate pts.length ((0, ()) : Nt)) hp j (by simpa using hj)
    rw [getR_nat (by rw [bumpL_len]; simpa using hj), getR_nat (by simpa using hj)] at h
    have hc := newG_cnt ex pts [] 0 (j : Int) (by omega) (by omega)
    rw [Int.zero_add, if_neg (by simp)] at hc
    unfold groupsP at h
    rw [hc] at h
    rw [List.getElem_replicate]
    refine Prod.ext ?_ rfl
    rw [List.getElem_replicate] at h
    exact h
theorem idxs_len (p : Int) : ∀ (r : List Pt) (i : Int), (idxs p r i).length ≤ r.length
  | [], _ => by simp [idxs]
  | x :: r, i => by
    have := idxs_len p r (i + 1)
    rw [idxs, List.length_append, List.length_cons]
    split
    · simp only [List.length_cons, List.length_nil]; omega
    · simp only [List.length_nil]; omega
theorem newG_sz (ex : Bool) : ∀ (r : List Pt) (K : List Int) (i : Int) (g : Gr), g ∈ newG ex K i r → (g.1 : List Nt).length ≤ r.length ∧ ∃ x ∈ r, g.2.1 = x.1
  | [], _, _, _, h => by simp [newG] at h
  | x :: r, K, i, g, h => by
    have later : ∀ K', g ∈ newG ex K' (i + 1) r → (g.1 : List Nt).length ≤ (x :: r).length ∧ ∃ y ∈ x :: r, g.2.1 = y.1 := fun K' h => by
      obtain ⟨h1, y, h2, h3⟩ := newG_sz ex r K' (i + 1) g h
      exact ⟨by simp only [List.length_cons]; omega, y, List.mem_cons_of_mem _ h2, h3⟩
    rw [newG] at h
    split at h
    · split at h
      · exact later _ h
      · rcases List.mem_cons.1 h with rfl | h
        · refine ⟨?_, x, List.mem_cons_self, rfl⟩
          have := idxs_len (hd1 x) r (i + 1)
          simp only [List.length_cons]; omega
        · exact later _ h
    · rcases List.mem_cons.1 h with rfl | h
      · exact ⟨by simp, x, List.mem_cons_self, rfl⟩
      · exact later _ h
theorem newG_len (ex : Bool) : ∀ (r : List Pt) (K : List Int) (i : Int), (newG ex K i r).length ≤ r.length
  | [], K, i => by simp [newG]
  | x :: r, K, i => by
    rw [newG]
    split
    · split
      · have := newG_len ex r K (i + 1); simp only [List.length_cons]; omega
      · have := newG_len ex r (hd1 x :: K) (i + 1); simp only [List.length_cons]; omega
    · have := newG_len ex r K (i + 1); simp only [List.length_cons]; omega
theorem few_sz (pts : List Pt) : (fewP pts).length ≤ 20 ∧ ∀ x ∈ fewP pts, (x.1 : List Nt).length ≤ 10 := by
  unfold fewP
  refine ⟨by rw [List.length_map, List.length_take]; omega, fun x hx => ?_⟩
  obtain ⟨y, _, rfl⟩ := List.mem_map.1 hx
  show ((y.1 : List Nt).take 10).length ≤ 10
  rw [List.length_take]; omega
theorem groups_sz (ex : Bool) {pts : List Pt} (h1 : pts.length ≤ 20) (h2 : ∀ x ∈ pts, (x.1 : List Nt).length ≤ 10) : (groupsP ex pts).length ≤ 20 ∧ ∀ g ∈ groupsP ex pts, szGp g := by
  refine ⟨Nat.le_trans (newG_len ex pts [] 0) h1, fun g hg => ?_⟩
  obtain ⟨k1, x, hx, k2⟩ := newG_sz ex pts [] 0 g hg
  have := h2 x hx
  exact ⟨by omega, by rw [k2]; omega⟩
theorem take_min (l : List Nt) : (0 : Int) ≤ min2I (l.length : Int) 10 ∧ min2I (l.length : Int) 10 ≤ (l.length : Int) ∧ l.take (min2I (l.length : Int) 10).toNat = l.take 10 := by
  unfold min2I
  split
  · exact ⟨by omega, by omega, rfl⟩
  · refine ⟨by omega, by omega, ?_⟩
    rw [Int.toNat_natCast, List.take_length, List.take_of_length_le (by omega)]
theorem cntP_cons (x y : Gr) (b : List Gr) : cntP x (y :: b) = (if sameG1 x y = true then 1 else 0) + cntP x b := by
  unfold cntP
  rw [List.filter_cons]
  split
  · rw [List.length_cons]; omega
  · omega
theorem cntP_le (x : Gr) (b : List Gr) : 0 ≤ cntP x b ∧ cntP x b ≤ b.length := by
  unfold cntP
  have := List.length_filter_le (sameG1 x) b
  omega
theorem trueAt_len : ∀ (l : List (RowE [.bool])) (i : Int), (trueAt l i).length ≤ l.length
  | [], _ => by simp [trueAt]
  | x :: l, i => by
    have := trueAt_len l (i + 1)
    rw [trueAt, List.length_append, List.length_cons]
    cases (x.1 : Bool)
    · simp only [cond_false, List.length_nil]; omega
    · simp only [cond_true, List.length_cons, List.length_nil]; omega
theorem points_sz {ans : List An} {n : Int} (h : ∀ x ∈ ans, (x.1 : List (RowE [.bool])).length ≤ 140737488355328) : (pointsP ans n).1.length ≤ ans.length ∧ ∀ x ∈ (pointsP ans n).1, (x.1 : List Nt).length ≤ 140737488355328 := by
  unfold pointsP
  split
  · exact ⟨by simp, fun x hx => by cases hx⟩
  · cases ans.all (lenIs n)
    · exact ⟨by simp, fun x hx => by cases hx⟩
    · refine ⟨by simp, fun x hx => ?_⟩
      obtain ⟨y, hy, rfl⟩ := List.mem_map.1 hx
      exact Nat.le_trans (trueAt_len _ _) (h y hy)
theorem bump_bound {t : List Nt} {N : Int} (h : ∀ x ∈ t, 0 ≤ nv x ∧ nv x ≤ N) (h0 : 0 ≤ N) (p : Nt) : ∀ x ∈ bump1 t p, 0 ≤ nv x ∧ nv x ≤ N + 1 := by
  intro x hx
  unfold bump1 at hx
  have hg : 0 ≤ nv (getR ntS t (nv p)) ∧ nv (getR ntS t (nv p)) ≤ N := by
    unfold getR
    cases q : t[(nv p).toNat]? with
    | none => exact ⟨Int.le_refl 0, h0⟩
    | some y => exact h y (List.mem_of_getElem? q)
  rcases List.mem_or_eq_of_mem_set hx with hx | hx
  · have := h x hx; omega
  · rw [hx, nv_mk]; omega
theorem bumpL_bound : ∀ (ps t : List Nt) (N : Int), (∀ x ∈ t, 0 ≤ nv x ∧ nv x ≤ N) → 0 ≤ N → ∀ x ∈ bumpL t ps, 0 ≤ nv x ∧ nv x ≤ N + ps.length
  | [], t, N, h, _ => fun x hx => by have := h x hx; simp only [List.length_nil]; omega
  | p :: ps, t, N, h, h0 => fun x hx => by
    have := bumpL_bound ps (bump1 t p) (N + 1) (bump_bound h h0 p) (by omega) x hx
    simp only [List.length_cons]; omega
theorem bumpL_app (t a b : List Nt) : bumpL t (a ++ b) = bumpL (bumpL t a) b := List.foldl_append ..
theorem groups_pats (ex : Bool) (pts : List Pt) : ∀ g ∈ groupsP ex pts, (g.1 : List Nt) ≠ [] ∧ ∀ q ∈ (g.1 : List Nt), 0 ≤ nv q ∧ nv q < pts.length ∧ (getR [.sl ntS] pts (nv q)).1 = g.2.1 := fun g hg => by
  refine ⟨((newG_keys ex pts [] 0).2 g hg).2.2, fun q hq => ?_⟩
  obtain ⟨h1, h2, h3⟩ := newG_at ex pts [] 0 g hg q hq
  rw [Int.sub_zero] at h3
  exact ⟨h1, by omega, h3⟩
theorem arr_sz {l : List T3} {gs : List Gr} (rev : Bool) (h : gs.length ≤ 2000000) (h2 : ∀ g ∈ gs, szGp g) : (arrangeP l gs rev).length = gs.length ∧ (∀ g ∈ arrangeP l gs rev, szGp g) := by
  have p := arr_perm l gs rev
  exact ⟨p.length_eq, fun g hg => h2 g (p.mem_iff.1 hg)⟩
end Go.Proofs.Ytgcjhcefpkbheaa.Sp
