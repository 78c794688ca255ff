/- Chapter 7, plain: what is told of a code. -/
import Derived.Test.YtfpojhphmgnfhaaSvC
import Derived.Test.YtfpojhphmgnfhaaLgS1
section
namespace Go.Proofs.Ytfpojhphmgnfhaa.Sp
open Go.Proofs.Ytfpojhphmgnfhaa.Lg Go
theorem mput_len (m : M7) (k : B) (v : RowE [.bool]) : (mput .str [.bool] m k v).length ≤ m.length + 1 := by
  unfold mput
  cases mhas .str [.bool] m k
  · rw [cond_false, (mins_perm (k := .str) (es := [.bool]) k v m).length_eq]; simp
  · rw [cond_true]
    have := congrArg List.length (mset_keys (k := .str) (es := [.bool]) k v m)
    simp only [List.length_map] at this
    omega
theorem put7_len (p f) : ∀ (l m : M7), (put7 p f l m).length ≤ m.length + l.length
  | [], m => Nat.le_refl _
  | x :: l, m => by
    have := put7_len p f l (if p x then mput .str [.bool] m x.1 (f x, ()) else m)
    have h2 : (if p x then mput .str [.bool] m x.1 (f x, ()) else m).length ≤ m.length + 1 := by
      split
      · exact mput_len _ _ _
      · omega
    show (put7 p f l (if p x then mput .str [.bool] m x.1 (f x, ()) else m)).length ≤ _
    simp only [List.length_cons]; omega
theorem both_len (f) (a b : M7) : (bothS f a b).length ≤ a.length + b.length := by
  unfold bothS
  have h1 := put7_len (fun _ => true) (bothA f b) a []
  have h2 := put7_len (fun e => !(mh7 a e.1)) (bothB f a) b (put7 (fun _ => true) (bothA f b) a [])
  simp only [List.length_nil] at h1
  omega
theorem one_len (o : Op) (a : M7) : (oneS o a).length ≤ a.length + 1 := by
  unfold oneS; dsimp only
  have h1 := put7_len (fun _ => true) (oneA o) a []
  simp only [List.length_nil] at h1
  split
  · have := mput_len (put7 (fun _ => true) (oneA o) a []) o.2.2.2.2.2.1 (false, ()); omega
  · omega
theorem two_len (o : Op) (a b : M7) : (twoS o a b).length ≤ a.length + b.length := by
  unfold twoS
  split
  · exact both_len _ _ _
  · split
    · exact both_len _ _ _
    · split
      · exact both_len _ _ _
      · omega
theorem leafV_len : ∀ (l : List (RowE [.str])) (m : M7), (leafV l m).length ≤ m.length + l.length
  | [], m => Nat.le_refl _
  | v :: l, m => by
    have h1 := leafV_len l (mput .str [.bool] m v.1 (true, ()))
    have h2 := mput_len m v.1 (true, ())
    show (leafV l (mput .str [.bool] m v.1 (true, ()))).length ≤ _
    simp only [List.length_cons]; omega
theorem leafT_len : ∀ (l : List (RowE t9S)) (m : M7), (leafT l m).length ≤ m.length + 3 * l.length
  | [], m => Nat.le_refl _
  | t :: l, m => by
    have h1 := leafT_len l (leafV (varsS t) m)
    have h2 := leafV_len (varsS t) m
    have h3 := varsS_len t
    show (leafT l (leafV (varsS t) m)).length ≤ _
    simp only [List.length_cons]; omega
theorem leafC_len (rows) : ∀ (l : List (RowE [.str])) (i : Nat) (m : M7), (leafC rows i l m).length ≤ m.length + l.length
  | [], i, m => Nat.le_refl _
  | v :: l, i, m => by
    have h1 := leafC_len rows l (i + 1) (mput .str [.bool] m v.1 (full rows i, ()))
    have h2 := mput_len m v.1 (full rows i, ())
    show (leafC rows (i + 1) l (mput .str [.bool] m v.1 (full rows i, ()))).length ≤ _
    simp only [List.length_cons]; omega
theorem right_leaf {o : Op} (h : rightO o = true) (h0 : needsK o.1 = 0) : (leafS o).length ≤ 128 := by
  obtain ⟨(k : Int), (tr : List (RowE t9S)), (vs : List (RowE [.str])), (rows : List (RowE [.sl [.int .i64, .str, .str, .str]])), f, (name : B), (sil : Bool), _⟩ := o
  have hk : k = 1 ∨ k = 2 := by
    by_cases q : k = 1 ∨ k = 2
    · exact q
    · exfalso
      have h0 : needsK k = 0 := h0
      unfold needsK at h0
      rw [if_neg q] at h0
      split at h0
      · omega
      · split at h0 <;> omega
  have hb : tr.length ≤ 32 ∧ vs.length ≤ 32 := by
    rcases hk with rfl | rfl
    · have h : (decide (vs.length = 0) && decide (rows.length = 0) && decide (List.length f = 0) && (decide (name = []) && !sil) && basicS tr) = true := h
      simp only [Bool.and_eq_true, decide_eq_true_eq, basicS] at h
      exact ⟨h.2.2, by omega⟩
    · have h : (decide (tr.length = 0) && decide (List.length f = 0) && (decide (name = []) && !sil) && tableS vs rows) = true := h
      simp only [Bool.and_eq_true, decide_eq_true_eq, tableS] at h
      exact ⟨by omega, h.2.1.1.1⟩
  have h1 := leafT_len tr []
  have h2 := leafC_len rows vs 0 (leafT tr [])
  show (leafC rows 0 vs (leafT tr [])).length ≤ 128
  simp only [List.length_nil] at h1
  omega
def sumL (l : List Rs7) : Nat := (l.map fun x => (x.1 : M7).length).sum
theorem sumL_app (a b : List Rs7) : sumL (a ++ b) = sumL a + sumL b := by simp [sumL]
theorem at7_get {l : List Rs7} {i : Nat} (h : i < l.length) : at7 l i = l[i] := getR_of (List.getElem?_eq_getElem h)
theorem nd_one {o : Op} {l : List Rs7} (h : needsK o.1 = 1) (hl : 1 ≤ l.length) : nd7 o l = [at7 l (l.length - 1)] := by
  unfold nd7
  rw [h]
  show List.drop (l.length - 1) l = _
  rw [List.drop_eq_getElem_cons (by omega), List.drop_of_length_le (by omega), at7_get (by omega)]
theorem nd_two {o : Op} {l : List Rs7} (h : needsK o.1 = 2) (hl : 2 ≤ l.length) : nd7 o l = [at7 l (l.length - 2), at7 l (l.length - 1)] := by
  unfold nd7
  rw [h]
  show List.drop (l.length - 2) l = _
  rw [List.drop_eq_getElem_cons (by omega), List.drop_eq_getElem_cons (by omega), List.drop_of_length_le (by omega), at7_get (by omega), at7_get (by omega)]
  simp only [show l.length - 2 + 1 = l.length - 1 by omega]
theorem names_len {o : Op} {l : List Rs7} (h : ok7 o l = true) : (names7 o l).length ≤ sumL (nd7 o l) + 128 := by
  unfold ok7 at h
  simp only [Bool.and_eq_true, decide_eq_true_eq] at h
  obtain ⟨⟨h1, h2⟩, _⟩ := h
  have h0 := right_needs h1
  have h3 := needsK_le o.1
  unfold names7
  split
  · rename_i e; have := right_leaf h1 e; omega
  · split
    · rename_i e
      rw [nd_one e (by omega)]
      have := one_len o (at7 l (l.length - 1)).1
      simp only [sumL, List.map_cons, List.map_nil, List.sum_cons, List.sum_nil]
      omega
    · rename_i e0 e1
      rw [nd_two (by omega) (by omega)]
      have := two_len o (at7 l (l.length - 2)).1 (at7 l (l.length - 1)).1
      simp only [sumL, List.map_cons, List.map_nil, List.sum_cons, List.sum_nil]
      omega
theorem runR_inv (N : Nat) : ∀ (c : List Op) (i : Int) (n : Nat) (out l : List Rs7) (bad : Int) (s : List Rs7 × List Rs7 × Int), runR i c out l bad = some s → (∀ x ∈ l, Srt7 x.1) → sumL l ≤ 128 * n →
    (∀ x ∈ out, Srt7 x.1 ∧ (x.1 : M7).length ≤ 128 * N) → n + c.length ≤ N → (∀ x ∈ s.1, Srt7 x.1 ∧ (x.1 : M7).length ≤ 128 * N) ∧ s.1.length = out.length + c.length ∧ (s.2.2 = bad ∨ s.2.2 = 6)
  | [], i, n, out, l, bad, s, h, _, _, ho, _ => by
    simp only [runR, Option.some.injEq] at h
    subst h
    exact ⟨ho, rfl, .inl rfl⟩
  | o :: c, i, n, out, l, bad, s, h, hs, hl, ho, hn => by
    simp only [runR] at h
    split at h
    · rename_i hok
      have hsum : sumL l = sumL (l.take (l.length - (needsK o.1).toNat)) + sumL (nd7 o l) := by
        rw [← sumL_app]; unfold nd7; rw [List.take_append_drop]
      have hnew : ((newR i o l).1 : M7).length ≤ sumL (nd7 o l) + 128 := names_len hok
      have hle : sumL (nd7 o l) ≤ sumL l := by omega
      simp only [List.length_cons] at hn
      obtain ⟨q1, q2, q3⟩ := runR_inv N c (i + 1) (n + 1) _ _ _ s h (fun x hx => by
        rcases List.mem_append.1 hx with hx | hx
        · exact hs x (List.mem_of_mem_take hx)
        · rw [List.mem_singleton] at hx; subst hx; exact srt_names o l hs) (by
        rw [sumL_app]
        have : sumL [newR i o l] = ((newR i o l).1 : M7).length := by simp [sumL]
        omega) (fun x hx => by
        rcases List.mem_append.1 hx with hx | hx
        · exact ho x hx
        · rw [List.mem_singleton] at hx; subst hx; exact ⟨srt_names o l hs, by omega⟩) (by omega)
      refine ⟨q1, by rw [q2]; simp only [List.length_append, List.length_cons, List.length_nil]; omega, ?_⟩
      rcases q3 with q | q
      · rw [q]; split
        · exact .inr rfl
        · exact .inl rfl
      · exact .inr q
    · cases h
theorem resS_inv (c : List Op) : (∀ x ∈ (resS c).1, Srt7 x.1 ∧ (x.1 : M7).length ≤ 16384) ∧ ((resS c).2 = 0 → (resS c).1.length = c.length ∧ c.length ≤ 128) ∧ ((resS c).2 = 0 ∨ (resS c).2 = 2 ∨ (resS c).2 = 3 ∨ (resS c).2 = 6) := by
  unfold resS
  split
  · exact ⟨by simp, fun h => by simp at h, .inr (.inr (.inl rfl))⟩
  · rename_i hlen
    cases hr : runR 0 c [] [] 0 with
    | none => exact ⟨by simp, fun h => by simp at h, .inr (.inl rfl)⟩
    | some s =>
      obtain ⟨out, l, bad⟩ := s
      obtain ⟨q1, q2, q3⟩ := runR_inv 128 c 0 0 [] [] 0 (out, l, bad) hr (by simp) (by simp [sumL]) (by simp) (by omega)
      dsimp only
      split
      · refine ⟨q1, fun _ => ⟨by simpa using q2, by omega⟩, ?_⟩
        rcases q3 with q | q
        · exact .inl q
        · exact .inr (.inr (.inr q))
      · exact ⟨by simp, fun h => by simp at h, .inr (.inl rfl)⟩
def zeroR : Rs7 := RowE.dflt rsS
def atS (c : List Op) (i : Int) : Rs7 × Int :=
  if (resS c).2 ≠ 0 then (zeroR, (resS c).2) else if i < 0 ∨ (c.length : Int) ≤ i then (zeroR, 1) else (getR rsS (resS c).1 i, 0)
theorem atS_inv (c : List Op) (i : Int) : Srt7 (atS c i).1.1 ∧ ((atS c i).1.1 : M7).length ≤ 16384 := by
  unfold atS
  split
  · exact ⟨srt_nil, by show 0 ≤ _; omega⟩
  · split
    · exact ⟨srt_nil, by show 0 ≤ _; omega⟩
    · unfold getR
      cases he : (resS c).1[i.toNat]? with
      | none => exact ⟨srt_nil, by show 0 ≤ _; omega⟩
      | some x => exact (resS_inv c).1 x (List.mem_of_getElem? he)
def keyR (e : B × RowE [.bool]) : RowE [.str] := (e.1, ())
def keys7 (m : M7) : List (RowE [.str]) := m.map keyR
def certs7 (m : M7) : List (RowE [.str]) := (m.filter fun e => e.2.1).map keyR
end Go.Proofs.Ytfpojhphmgnfhaa.Sp
end

section
namespace Go.Proofs.Ytfpojhphmgnfhaa.Sp
open Go.Proofs.Ytfpojhphmgnfhaa.Lg Go
theorem bl_lt : ∀ a b : List UInt8, bytesLess a b = true ↔ a < b
  | _, [] => by simp [bytesLess]
  | [], b :: y => by simp [bytesLess]
  | a :: x, b :: y => by
    rw [List.cons_lt_cons_iff]
    simp only [bytesLess, Bool.or_eq_true, decide_eq_true_eq, Bool.and_eq_true, beq_iff_eq, bl_lt x y]
theorem le_bl : (fun x y : List UInt8 => decide (x ≤ y)) = fun x y => !(bytesLess y x) := by
  funext x y
  cases h : bytesLess y x
  · have : ¬ y < x := fun q => by rw [(bl_lt y x).2 q] at h; cases h
    exact decide_eq_true (show x ≤ y from this)
  · have : y < x := (bl_lt y x).1 h
    exact decide_eq_false (fun q : x ≤ y => q this)
theorem nbl_trans (a b c : List UInt8) (h : (!(bytesLess b a)) = true) (k : (!(bytesLess c b)) = true) : (!(bytesLess c a)) = true := by
  simp only [Bool.not_eq_true'] at h k ⊢
  cases q : bytesLess c a
  · rfl
  · exfalso
    cases p : bytesLess a b
    · have := bl_tri a b p h
      subst this
      rw [q] at k; cases k
    · rw [bl_trans c a b q p] at k; cases k
theorem nbl_total (a b : List UInt8) : ((!(bytesLess b a)) || (!(bytesLess a b))) = true := by
  cases h : bytesLess b a
  · rfl
  · cases k : bytesLess a b
    · rfl
    · have := bl_trans a b a k h
      rw [bl_irr] at this; cases this
/-- By rising texts. -/
def asc (l : List (RowE [.str])) : Prop := (l.map fun r => (r.1 : B)).Pairwise fun a b => bytesLess a b = true
theorem srtS_asc {l l' : List (RowE [.str])} (h : asc l) (hp : l'.Perm l) : srtS l' = l := by
  unfold srtS
  rw [le_bl]
  have e : ((l'.map fun r => (r.1 : B)).mergeSort fun x y => !(bytesLess y x)) = l.map fun r => (r.1 : B) := by
    refine List.Perm.eq_of_pairwise (le := fun a b => (!(bytesLess b a)) = true) (fun a b _ _ h1 h2 => ?_) (List.pairwise_mergeSort nbl_trans nbl_total _) ?_ ((List.mergeSort_perm _ _).trans (hp.map _))
    · simp only [Bool.not_eq_true'] at h1 h2
      exact bl_tri a b h2 h1
    · refine List.Pairwise.imp (fun {a b} hab => ?_) h
      cases q : bytesLess b a
      · rfl
      · have := bl_trans a b a hab q
        rw [bl_irr] at this; cases this
  rw [e, List.map_map]
  have : ((fun s : B => ((s, ()) : RowE [.str])) ∘ fun r : RowE [.str] => (r.1 : B)) = id := by funext r; rfl
  rw [this, List.map_id]
theorem keys_asc {m : M7} (h : Srt7 m) : asc (keys7 m) := by
  unfold asc keys7
  rw [List.map_map]
  exact h
theorem certs_asc {m : M7} (h : Srt7 m) : asc (certs7 m) := by
  unfold asc certs7
  rw [List.map_map]
  exact List.Pairwise.sublist ((List.filter_sublist).map Prod.fst) h
theorem srt_keys {m : M7} (h : Srt7 m) {l : M7} (hp : l.Perm m) : srtS (l.map keyR) = keys7 m := srtS_asc (keys_asc h) (hp.map keyR)
theorem srt_certs {m : M7} (h : Srt7 m) {l : M7} (hp : l.Perm m) : srtS ((l.filter fun e => e.2.1).map keyR) = certs7 m := srtS_asc (certs_asc h) ((hp.filter _).map keyR)
end Go.Proofs.Ytfpojhphmgnfhaa.Sp
end
