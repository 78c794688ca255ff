/- Chapter 20, plain: the groups. -/
import Derived.Test.YtgcjhcefpkbheaaSwA
import Derived.Test.YtgcjhcefpkbheaaSpV
import Derived.Test.YtgcjhcefpkbheaaLgS2
namespace Go.Proofs.Ytgcjhcefpkbheaa.Sp
open Go.Proofs.Ytgcjhcefpkbheaa.Lg Go
abbrev Pt := RowE [.sl ntS]
abbrev GM := List (CE (.int .i64) × RowE [.sl ntS])
def keyG (g : Gr) : Int := (getR ntS g.1 0).1
def okG (g : Gr) : Bool := decide (0 < (g.1 : List Nt).length ∧ 0 ≤ keyG g ∧ keyG g < 1099511627776)
def one1 (x : Pt) : Bool := Nat.beq (x.1 : List Nt).length 1
def hd1 (x : Pt) : Int := (getR ntS x.1 0).1
/-- The places, from i on, of those that have just this endpoint. -/
def idxs (p : Int) : List Pt → Int → List Nt
  | [], _ => []
  | x :: r, i => (if one1 x = true ∧ hd1 x = p then [((i, ()) : Nt)] else []) ++ idxs p r (i + 1)
def newG (ex : Bool) : List Int → Int → List Pt → List Gr
  | _, _, [] => []
  | K, i, x :: r => if ex = true ∧ one1 x = true then (if hd1 x ∈ K then newG ex K (i + 1) r else (((i, ()) : Nt) :: idxs (hd1 x) r (i + 1), (x.1, ())) :: newG ex (hd1 x :: K) (i + 1) r) else ([((i, ()) : Nt)], (x.1, ())) :: newG ex K (i + 1) r
def foldG (ex : Bool) : Int → GM → List Gr → List Pt → GM × List Gr
  | _, m, out, [] => (m, out)
  | i, m, out, x :: r => if ex = true ∧ one1 x = true then foldG ex (i + 1) (mput (.int .i64) [.sl ntS] m (hd1 x) ((mget (.int .i64) [.sl ntS] m (hd1 x)).1 ++ [((i, ()) : Nt)], ())) out r else foldG ex (i + 1) m (out ++ [([((i, ()) : Nt)], (x.1, ()))]) r
def grpE (e : CE (.int .i64) × RowE [.sl ntS]) : Gr := (e.2.1, ([((e.1, ()) : Nt)], ()))
/-- What an entry comes to be. -/
def endE (r : List Pt) (i : Int) (e : CE (.int .i64) × RowE [.sl ntS]) : Gr := (e.2.1 ++ idxs e.1 r i, ([((e.1, ()) : Nt)], ()))
theorem one1_pt {x : Pt} (h : one1 x = true) : (x.1 : List Nt) = [((hd1 x, ()) : Nt)] := by
  have h : (x.1 : List Nt).length = 1 := Nat.eq_of_beq_eq_true h
  match hx : (x.1 : List Nt), h with
  | [y], _ => unfold hd1; rw [hx]; rfl
theorem endE_ne {x : Pt} {r : List Pt} {i : Int} {e : CE (.int .i64) × RowE [.sl ntS]} (h : ¬ (one1 x = true ∧ hd1 x = e.1)) : endE (x :: r) i e = endE r (i + 1) e := by
  unfold endE
  rw [idxs, if_neg h, List.nil_append]
theorem mset_map {β : Type} (f : CE (.int .i64) × RowE [.sl ntS] → β) (key : Int) (v : RowE [.sl ntS]) : ∀ m : GM, (m.map Prod.fst).Nodup → (mset (.int .i64) [.sl ntS] key v m).map f = m.map fun e => if e.1 = key then f (key, v) else f e
  | [], _ => rfl
  | x :: m, h => by
    have hk : simpleK (.int .i64) = true := rfl
    simp only [List.map_cons, List.nodup_cons] at h
    simp only [mset]
    by_cases q : key = x.1
    · rw [(eqE_iff hk _ _).2 q, cond_true, List.map_cons, List.map_cons, if_pos q.symm, q]
      congr 1
      refine List.map_congr_left fun e he => ?_
      rw [if_neg]
      intro z
      exact h.1 (z ▸ List.mem_map_of_mem he)
    · rw [eqE_ne hk q, cond_false, List.map_cons, List.map_cons, if_neg (fun z => q z.symm), mset_map f key v m h.2]
theorem newG_mem (ex : Bool) : ∀ (r : List Pt) (i : Int) (K K' : List Int), (∀ q, q ∈ K ↔ q ∈ K') → newG ex K i r = newG ex K' i r
  | [], _, _, _, _ => rfl
  | x :: r, i, K, K', h => by
    simp only [newG, h (hd1 x)]
    rw [newG_mem ex r (i + 1) K K' h, newG_mem ex r (i + 1) (hd1 x :: K) (hd1 x :: K') (fun q => by simp only [List.mem_cons, h q])]
theorem fold_perm (ex : Bool) : ∀ (r : List Pt) (i : Int) (m : GM) (out : List Gr), (ex = false → m = []) → Srt (.int .i64) [.sl ntS] m →
    ((foldG ex i m out r).2 ++ (foldG ex i m out r).1.map grpE).Perm (out ++ m.map (endE r i) ++ newG ex (m.map Prod.fst) i r)
  | [], i, m, out, _, _ => by
    have : m.map (endE [] i) = m.map grpE := List.map_congr_left fun e _ => by simp [endE, idxs, grpE]
    simp only [foldG, newG, this, List.append_nil]; exact List.Perm.refl _
  | x :: r, i, m, out, h0, hs => by
    have hk : simpleK (.int .i64) = true := rfl
    rw [foldG, newG]
    by_cases c : ex = true ∧ one1 x = true
    · rw [if_pos c, if_pos c]
      have ih := fold_perm ex r (i + 1) (mput (.int .i64) [.sl ntS] m (hd1 x) ((mget (.int .i64) [.sl ntS] m (hd1 x)).1 ++ [((i, ()) : Nt)], ())) out (fun q => by rw [q] at c; exact absurd c.1 (by simp)) (srt_mput hk hs _ _)
      by_cases hm : hd1 x ∈ m.map Prod.fst
      · rw [if_pos hm]
        have hh : mhas (.int .i64) [.sl ntS] m (hd1 x) = true := by
          rw [mhas_look]
          cases q : look (.int .i64) [.sl ntS] m (hd1 x) with
          | none => exact absurd hm ((look_none hk).1 q)
          | some _ => rfl
        have e1 : (mput (.int .i64) [.sl ntS] m (hd1 x) ((mget (.int .i64) [.sl ntS] m (hd1 x)).1 ++ [((i, ()) : Nt)], ())).map Prod.fst = m.map Prod.fst := by
          unfold mput; rw [hh, cond_true, mset_keys]
        have e2 : (mput (.int .i64) [.sl ntS] m (hd1 x) ((mget (.int .i64) [.sl ntS] m (hd1 x)).1 ++ [((i, ()) : Nt)], ())).map (endE r (i + 1)) = m.map (endE (x :: r) i) := by
          unfold mput; rw [hh, cond_true]
          rw [mset_map _ _ _ m hs.nodup]
          refine List.map_congr_left fun e he => ?_
          by_cases q : e.1 = hd1 x
          · rw [if_pos q]
            have hl : look (.int .i64) [.sl ntS] m (hd1 x) = some e.2 := (look_some hk hs.nodup).2 (q ▸ he)
            rw [mget_look, hl]
            unfold endE
            rw [idxs, if_pos ⟨c.2, q.symm⟩]
            simp only [Option.getD_some, List.append_assoc]
            rw [q]
          · rw [if_neg q, endE_ne fun z => q z.2.symm]
        rw [e1, e2] at ih; exact ih
      · rw [if_neg hm]
        have hh : mhas (.int .i64) [.sl ntS] m (hd1 x) = false := by
          rw [mhas_look, (look_none hk).2 hm]; rfl
        have hg : mget (.int .i64) [.sl ntS] m (hd1 x) = RowE.dflt [.sl ntS] := by
          rw [mget_look, (look_none hk).2 hm]; rfl
        rw [hg] at ih ⊢
        generalize hv : (((RowE.dflt [.sl ntS]).1 ++ [((i, ()) : Nt)], ()) : RowE [.sl ntS]) = v at ih ⊢
        have hv' : v = ([((i, ()) : Nt)], ()) := by rw [← hv]; rfl
        have hp : (mput (.int .i64) [.sl ntS] m (hd1 x) v).Perm ((hd1 x, v) :: m) := by
          unfold mput; rw [hh, cond_false]; exact mins_perm _ _ _
        have e1 : m.map (endE (x :: r) i) = m.map (endE r (i + 1)) := List.map_congr_left fun e he => endE_ne fun z => hm (z.2 ▸ List.mem_map_of_mem he)
        have e2 : newG ex ((mput (.int .i64) [.sl ntS] m (hd1 x) v).map Prod.fst) (i + 1) r = newG ex (hd1 x :: m.map Prod.fst) (i + 1) r := newG_mem ex r _ _ _ fun q => by
          rw [(hp.map Prod.fst).mem_iff]; rfl
        rw [e1]
        rw [e2] at ih
        refine ih.trans ?_
        simp only [List.append_assoc]
        refine List.Perm.append_left _ ?_
        refine ((hp.map _).append_right _).trans ?_
        rw [List.map_cons, List.cons_append]
        have e3 : endE r (i + 1) (hd1 x, v) = (((i, ()) : Nt) :: idxs (hd1 x) r (i + 1), (x.1, ())) := by
          rw [one1_pt c.2, hv']; rfl
        rw [e3]
        exact List.perm_middle.symm
    · rw [if_neg c, if_neg c]
      have ih := fold_perm ex r (i + 1) m (out ++ [([((i, ()) : Nt)], (x.1, ()))]) h0 hs
      have e1 : m.map (endE (x :: r) i) = m.map (endE r (i + 1)) := by
        rcases Bool.eq_false_or_eq_true ex with q | q
        · exact List.map_congr_left fun e _ => endE_ne fun z => c ⟨q, z.1⟩
        · rw [h0 q]; rfl
      rw [e1]
      refine ih.trans ?_
      simp only [List.append_assoc]
      refine List.Perm.append_left _ ?_
      exact List.perm_append_comm_assoc _ _ _
/-- No entry has too many places. -/
def smE (m : GM) (n : Int) : Prop := ∀ e ∈ m, ((e.2.1 : List Nt).length : Int) ≤ n
def szP (l : List Pt) : Prop := ∀ x ∈ l, (x.1 : List Nt).length ≤ 2000000
theorem smE.mono {m : GM} {n n' : Int} (h : smE m n) (k : n ≤ n') : smE m n' := fun e he => by have := h e he; omega
theorem smE.get {m : GM} {n : Int} (h : smE m n) (h0 : 0 ≤ n) (key : Int) : ((mget (.int .i64) [.sl ntS] m key).1.length : Int) ≤ n := by
  induction m with
  | nil => simpa [mget, RowE.dflt, CE.dflt] using h0
  | cons x m ih =>
    simp only [mget]
    cases eqE (.int .i64) key x.1
    · rw [cond_false]; exact ih fun e he => h e (List.mem_cons_of_mem _ he)
    · rw [cond_true]; exact h x List.mem_cons_self
theorem smE.put {m : GM} {n : Int} (h : smE m n) (key : Int) (v : RowE [.sl ntS]) (hv : ((v.1 : List Nt).length : Int) ≤ n) : smE (mput (.int .i64) [.sl ntS] m key v) n := by
  unfold mput
  cases mhas (.int .i64) [.sl ntS] m key
  · rw [cond_false]
    intro e he
    rcases List.mem_cons.1 ((mins_perm key v m).mem_iff.1 he) with rfl | he
    · exact hv
    · exact h e he
  · rw [cond_true]
    induction m with
    | nil => exact h
    | cons x m ih =>
      simp only [mset]
      cases eqE (.int .i64) key x.1
      · rw [cond_false]
        intro e he
        rcases List.mem_cons.1 he with rfl | he
        · exact h _ List.mem_cons_self
        · exact ih (fun e he => h e (List.mem_cons_of_mem _ he)) e he
      · rw [cond_true]
        intro e he
        rcases List.mem_cons.1 he with rfl | he
        · exact hv
        · exact h e (List.mem_cons_of_mem _ he)
/-- The first places rise. -/
theorem newG_keys (ex : Bool) : ∀ (r : List Pt) (K : List Int) (i : Int), (newG ex K i r).Pairwise (fun a b => keyG a < keyG b) ∧ ∀ g ∈ newG ex K i r, i ≤ keyG g ∧ keyG g < i + r.length ∧ (g.1 : List Nt) ≠ []
  | [], K, i => by simp [newG]
  | x :: r, K, i => by
    have step : ∀ (K' : List Int) (g0 : Gr), keyG g0 = i → (g0.1 : List Nt) ≠ [] → (g0 :: newG ex K' (i + 1) r).Pairwise (fun a b => keyG a < keyG b) ∧ ∀ g ∈ g0 :: newG ex K' (i + 1) r, i ≤ keyG g ∧ keyG g < i + (x :: r).length ∧ (g.1 : List Nt) ≠ [] := by
      intro K' g0 h0 h1
      obtain ⟨p, q⟩ := newG_keys ex r K' (i + 1)
      refine ⟨List.pairwise_cons.2 ⟨fun b hb => by have := q b hb; omega, p⟩, fun g hg => ?_⟩
      rcases List.mem_cons.1 hg with rfl | hg
      · exact ⟨by omega, by rw [h0]; simp only [List.length_cons]; omega, h1⟩
      · have := q g hg
        exact ⟨by omega, by simp only [List.length_cons]; omega, this.2.2⟩
    rw [newG]
    by_cases c : ex = true ∧ one1 x = true
    · rw [if_pos c]
      by_cases m : hd1 x ∈ K
      · rw [if_pos m]
        obtain ⟨p, q⟩ := newG_keys ex r K (i + 1)
        refine ⟨p, fun g hg => ?_⟩
        have := q g hg
        exact ⟨by omega, by simp only [List.length_cons]; omega, this.2.2⟩
      · rw [if_neg m]; exact step _ _ rfl (by simp)
    · rw [if_neg c]; exact step _ _ rfl (by simp)
theorem mput_len1 (m : GM) (key : Int) (v : RowE [.sl ntS]) : (mput (.int .i64) [.sl ntS] m key v).length ≤ m.length + 1 := by
  unfold mput
  cases mhas (.int .i64) [.sl ntS] m key
  · rw [cond_false, (mins_perm key v m).length_eq]; simp
  · rw [cond_true]
    have := congrArg List.length (mset_keys key v m)
    simp only [List.length_map] at this
    omega
theorem fold_len (ex : Bool) : ∀ (r : List Pt) (i : Int) (m : GM) (out : List Gr), (foldG ex i m out r).2.length + (foldG ex i m out r).1.length ≤ out.length + m.length + r.length
  | [], i, m, out => by simp [foldG]
  | x :: r, i, m, out => by
    rw [foldG]
    split
    · have := fold_len ex r (i + 1) (mput (.int .i64) [.sl ntS] m (hd1 x) ((mget (.int .i64) [.sl ntS] m (hd1 x)).1 ++ [((i, ()) : Nt)], ())) out
      have := mput_len1 m (hd1 x) ((mget (.int .i64) [.sl ntS] m (hd1 x)).1 ++ [((i, ()) : Nt)], ())
      simp only [List.length_cons]; omega
    · have := fold_len ex r (i + 1) m (out ++ [([((i, ()) : Nt)], (x.1, ()))])
      simp only [List.length_append, List.length_cons, List.length_nil] at this ⊢; omega
/-- The groups. -/
def groupsP (ex : Bool) (pts : List Pt) : List Gr := newG ex [] 0 pts
theorem groups_of (ex : Bool) (pts : List Pt) (hl : pts.length ≤ 2000000) {l : List Gr} (h : l.Perm ((foldG ex 0 [] [] pts).2 ++ (foldG ex 0 [] [] pts).1.map grpE)) :
    (l.length < 4611686018427387904 ∧ (∀ r ∈ l, okG r = true) ∧ (l.map keyG).Nodup) ∧ srtK keyG l = groupsP ex pts := by
  have hp : l.Perm (groupsP ex pts) := by
    have := h.trans (fold_perm ex pts 0 [] [] (fun _ => rfl) srt_nil)
    simpa [groupsP] using this
  obtain ⟨k1, k2⟩ := newG_keys ex pts [] 0
  have hn : ((groupsP ex pts).map keyG).Nodup := by
    rw [List.Nodup, List.pairwise_map]
    exact k1.imp fun h => by omega
  refine ⟨⟨?_, fun r hr => ?_, (hp.map keyG).nodup_iff.2 hn⟩, (srtK_unique hp.symm (k1.imp fun h => by omega) ((hp.map keyG).nodup_iff.2 hn)).symm⟩
  · rw [hp.length_eq]
    have : ∀ (r : List Pt) (K : List Int) (i : Int), (newG ex K i r).length ≤ r.length := by
      intro r
      induction r with
      | nil => intro K i; simp [newG]
      | cons x r ih =>
        intro K i
        rw [newG]
        split
        · split
          · have := ih K (i + 1); simp only [List.length_cons]; omega
          · have := ih (hd1 x :: K) (i + 1); simp only [List.length_cons]; omega
        · have := ih K (i + 1); simp only [List.length_cons]; omega
    have := this pts [] 0
    unfold groupsP; omega
  · have := k2 r (hp.mem_iff.1 hr)
    have h0 : 0 < (r.1 : List Nt).length := List.length_pos_iff.2 this.2.2
    unfold okG
    exact decide_eq_true ⟨h0, by omega, by omega⟩
end Go.Proofs.Ytgcjhcefpkbheaa.Sp
