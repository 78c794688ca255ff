/- Maps by what is found in them: sorted lists of entries. -/
import Derived.Test.YtgcjhcefpkbheaaLgB13
namespace Go.Proofs.Ytgcjhcefpkbheaa.Sp
open Go.Proofs.Ytgcjhcefpkbheaa.Lg Go
/-- The order of keys. -/
theorem bl_irr : ∀ a : List UInt8, bytesLess a a = false
  | [] => rfl
  | a :: x => by simp [bytesLess, bl_irr x]
theorem bl_trans : ∀ a b c : List UInt8, bytesLess a b = true → bytesLess b c = true → bytesLess a c = true
  | _, [], _, h, _ => by simp [bytesLess] at h
  | _, _ :: _, [], _, h => by simp [bytesLess] at h
  | [], _ :: _, _ :: _, _, _ => by simp [bytesLess]
  | a :: x, b :: y, c :: z, h, k => by
    simp only [bytesLess, Bool.or_eq_true, decide_eq_true_eq, Bool.and_eq_true, beq_iff_eq] at h k ⊢
    rcases h with h | ⟨rfl, h⟩
    · rcases k with k | ⟨rfl, k⟩
      · exact .inl (UInt8.lt_trans h k)
      · exact .inl h
    · rcases k with k | ⟨rfl, k⟩
      · exact .inl k
      · exact .inr ⟨rfl, bl_trans x y z h k⟩
theorem bl_tri : ∀ a b : List UInt8, bytesLess a b = false → bytesLess b a = false → a = b
  | [], [], _, _ => rfl
  | [], _ :: _, h, _ => by simp [bytesLess] at h
  | _ :: _, [], _, h => by simp [bytesLess] at h
  | a :: x, b :: y, h, k => by
    simp only [bytesLess, Bool.or_eq_false_iff, decide_eq_false_iff_not, Bool.and_eq_false_iff, beq_eq_false_iff_ne] at h k
    have e : a = b := UInt8.le_antisymm (UInt8.not_lt.1 k.1) (UInt8.not_lt.1 h.1)
    subst e
    rw [bl_tri x y (h.2.resolve_left fun q => q rfl) (k.2.resolve_left fun q => q rfl)]
theorem lt_irr {k : Sh} (a : CE k) : ltE k a a = false := by
  cases k <;> simp only [ltE]
  · simp
  · cases (a : Bool) <;> rfl
  · exact bl_irr a
theorem lt_trn {k : Sh} {a b c : CE k} (h : ltE k a b = true) (q : ltE k b c = true) : ltE k a c = true := by
  cases k <;> simp only [ltE] at h q ⊢
  · simp only [decide_eq_true_eq] at h q ⊢; exact Int.lt_trans h q
  · cases (a : Bool) <;> cases (b : Bool) <;> cases (c : Bool) <;> simp_all
  · exact bl_trans _ _ _ h q
  · cases h
  · cases h
theorem lt_tri {k : Sh} (hk : simpleK k = true) {a b : CE k} (h : ltE k a b = false) (q : ltE k b a = false) : a = b := by
  cases k <;> simp only [simpleK] at hk <;> simp only [ltE] at h q <;> first | (cases hk; done) | skip
  · simp only [decide_eq_false_iff_not] at h q; exact Int.le_antisymm (Int.not_lt.1 q) (Int.not_lt.1 h)
  · cases (a : Bool) <;> cases (b : Bool) <;> simp_all
  · exact bl_tri _ _ h q

section
variable {k : Sh} {es : List Sh}
def look (k : Sh) (es : List Sh) : List (CE k × RowE es) → CE k → Option (RowE es)
  | [], _ => none
  | x :: m, q => bif eqE k q x.1 then some x.2 else look k es m q
theorem mget_look (m : List (CE k × RowE es)) (q : CE k) : mget k es m q = (look k es m q).getD (RowE.dflt es) := by
  induction m with
  | nil => rfl
  | cons x m ih => simp only [mget, look]; cases eqE k q x.1 <;> simp [ih]
theorem mhas_look (m : List (CE k × RowE es)) (q : CE k) : mhas k es m q = (look k es m q).isSome := by
  induction m with
  | nil => rfl
  | cons x m ih => simp only [mhas, look]; cases eqE k q x.1 <;> simp [ih]
theorem look_cons (hk : simpleK k = true) (x : CE k × RowE es) (m : List (CE k × RowE es)) (q : CE k) [Decidable (q = x.1)] : look k es (x :: m) q = if q = x.1 then some x.2 else look k es m q := by
  simp only [look]
  by_cases e : q = x.1
  · rw [(eqE_iff hk q x.1).2 e, if_pos e]; rfl
  · rw [eqE_ne hk e, if_neg e]; rfl
open Classical in
theorem look_mset (hk : simpleK k = true) (key : CE k) (v : RowE es) (q : CE k) : ∀ m : List (CE k × RowE es), look k es (mset k es key v m) q = if q = key then (look k es m q).map fun _ => v else look k es m q
  | [] => by simp [mset, look]
  | x :: m => by
    simp only [mset]
    by_cases e : key = x.1
    · rw [(eqE_iff hk key x.1).2 e, cond_true, look_cons hk, look_cons hk]
      by_cases f : q = key
      · rw [if_pos (f.trans e), if_pos f, if_pos (f.trans e)]; rfl
      · rw [if_neg (fun z => f (z.trans e.symm)), if_neg f, if_neg (fun z => f (z.trans e.symm))]
    · rw [eqE_ne hk e, cond_false, look_cons hk, look_cons hk, look_mset hk key v q m]
      by_cases f : q = key
      · subst f; rw [if_neg e, if_pos rfl, if_pos rfl, if_neg e]
      · rw [if_neg f, if_neg f]
open Classical in
theorem look_mins (hk : simpleK k = true) (key : CE k) (v : RowE es) (q : CE k) : ∀ m : List (CE k × RowE es), mhas k es m key = false → look k es (mins k es key v m) q = if q = key then some v else look k es m q
  | [], _ => by simp only [mins]; rw [look_cons hk]
  | x :: m, h => by
    simp only [mhas] at h
    have hne : key ≠ x.1 := fun e => by rw [(eqE_iff hk _ _).2 e] at h; cases h
    rw [eqE_ne hk hne, cond_false] at h
    simp only [mins]
    cases ltE k key x.1
    · rw [cond_false, look_cons hk, look_cons hk, look_mins hk key v q m h]
      by_cases f : q = key
      · subst f; rw [if_neg hne, if_pos rfl, if_pos rfl]
      · rw [if_neg f, if_neg f]
    · rw [cond_true, look_cons hk]
open Classical in
theorem look_mput (hk : simpleK k = true) (m : List (CE k × RowE es)) (key : CE k) (v : RowE es) (q : CE k) : look k es (mput k es m key v) q = if q = key then some v else look k es m q := by
  unfold mput
  cases h : mhas k es m key
  · rw [cond_false]; exact look_mins hk key v q m h
  · rw [cond_true, look_mset hk]
    by_cases f : q = key
    · subst f
      rw [if_pos rfl, if_pos rfl]
      rw [mhas_look] at h
      cases hl : look k es m q with
      | none => rw [hl] at h; cases h
      | some _ => rfl
    · rw [if_neg f, if_neg f]
/-- The entries lie by rising keys. -/
def Srt (k : Sh) (es : List Sh) (m : List (CE k × RowE es)) : Prop := (m.map Prod.fst).Pairwise fun a b => ltE k a b = true
theorem srt_nil : Srt k es [] := List.Pairwise.nil
theorem Srt.nodup {m : List (CE k × RowE es)} (h : Srt k es m) : (m.map Prod.fst).Nodup := h.imp fun {a b} hab e => by subst e; rw [lt_irr] at hab; cases hab
theorem srt_mins (hk : simpleK k = true) (key : CE k) (v : RowE es) : ∀ m : List (CE k × RowE es), Srt k es m → mhas k es m key = false → Srt k es (mins k es key v m)
  | [], _, _ => by simp [mins, Srt]
  | x :: m, h, hn => by
    simp only [mhas] at hn
    have hne : key ≠ x.1 := fun e => by rw [(eqE_iff hk _ _).2 e] at hn; cases hn
    rw [eqE_ne hk hne, cond_false] at hn
    have h0 := h
    simp only [Srt, List.map_cons, List.pairwise_cons] at h
    simp only [mins]
    cases hl : ltE k key x.1
    · rw [cond_false]
      have hx : ltE k x.1 key = true := by
        cases q : ltE k x.1 key
        · exact absurd (lt_tri hk hl q) hne
        · rfl
      simp only [Srt, List.map_cons, List.pairwise_cons]
      refine ⟨fun y hy => ?_, srt_mins hk key v m h.2 hn⟩
      have := ((mins_perm key v m).map Prod.fst).mem_iff.1 hy
      simp only [List.map_cons, List.mem_cons] at this
      rcases this with rfl | hy
      · exact hx
      · exact h.1 y hy
    · rw [cond_true]
      simp only [Srt, List.map_cons, List.pairwise_cons]
      refine ⟨fun y hy => ?_, h.1, h.2⟩
      rcases List.mem_cons.1 hy with rfl | hy
      · exact hl
      · exact lt_trn hl (h.1 y hy)
theorem srt_mput (hk : simpleK k = true) {m : List (CE k × RowE es)} (h : Srt k es m) (key : CE k) (v : RowE es) : Srt k es (mput k es m key v) := by
  unfold mput
  cases hh : mhas k es m key
  · rw [cond_false]; exact srt_mins hk key v m h hh
  · rw [cond_true]; unfold Srt; rw [mset_keys]; exact h
theorem look_none (hk : simpleK k = true) {m : List (CE k × RowE es)} {q : CE k} : look k es m q = none ↔ q ∉ m.map Prod.fst := by
  classical
  induction m with
  | nil => simp [look]
  | cons x m ih =>
    rw [look_cons hk]
    by_cases e : q = x.1
    · rw [if_pos e]; simp [e]
    · rw [if_neg e, ih]; simp [e]
theorem look_some (hk : simpleK k = true) {m : List (CE k × RowE es)} (hn : (m.map Prod.fst).Nodup) {q : CE k} {v : RowE es} : look k es m q = some v ↔ (q, v) ∈ m := by
  classical
  induction m with
  | nil => simp [look]
  | cons x m ih =>
    simp only [List.map_cons, List.nodup_cons] at hn
    rw [look_cons hk]
    by_cases e : q = x.1
    · subst e
      rw [if_pos rfl]
      constructor
      · intro h; cases h; exact List.mem_cons_self
      · intro h
        rcases List.mem_cons.1 h with h | h
        · rw [← h]
        · exact absurd (List.mem_map_of_mem (f := Prod.fst) h) hn.1
    · rw [if_neg e, ih hn.2]
      constructor
      · exact List.mem_cons_of_mem _
      · intro h
        rcases List.mem_cons.1 h with h | h
        · exact absurd (by rw [← h]) e
        · exact h
theorem look_perm (hk : simpleK k = true) {m m' : List (CE k × RowE es)} (h : m.Perm m') (hn : (m.map Prod.fst).Nodup) (q : CE k) : look k es m q = look k es m' q := by
  have hn' := (h.map Prod.fst).nodup_iff.1 hn
  cases e : look k es m' q with
  | none =>
    rw [look_none hk] at e ⊢
    exact fun z => e ((h.map Prod.fst).mem_iff.1 z)
  | some v => rw [look_some hk hn'] at e; rw [look_some hk hn]; exact h.mem_iff.2 e
/-- What is found tells a sorted list. -/
theorem srt_ext (hk : simpleK k = true) : ∀ {m m' : List (CE k × RowE es)}, Srt k es m → Srt k es m' → (∀ q, look k es m q = look k es m' q) → m = m'
  | [], [], _, _, _ => rfl
  | [], y :: m', _, _, h => by
    have := h y.1
    rw [show look k es (y :: m') y.1 = some y.2 by simp [look, eqE_self hk]] at this
    simp [look] at this
  | x :: m, [], _, _, h => by
    have := h x.1
    rw [show look k es (x :: m) x.1 = some x.2 by simp [look, eqE_self hk]] at this
    simp [look] at this
  | x :: m, y :: m', hm, hm', h => by
    classical
    have h1 := hm
    have h2 := hm'
    simp only [Srt, List.map_cons, List.pairwise_cons] at h1 h2
    have hx := h x.1
    have hy := h y.1
    rw [look_cons hk, if_pos rfl, look_cons hk] at hx
    rw [look_cons hk, look_cons hk, if_pos rfl] at hy
    have e : x.1 = y.1 := by
      by_cases e : x.1 = y.1
      · exact e
      · exfalso
        rw [if_neg e] at hx
        rw [if_neg (Ne.symm e)] at hy
        have m1 : x.1 ∈ m'.map Prod.fst := by
          by_cases z : x.1 ∈ m'.map Prod.fst
          · exact z
          · rw [(look_none hk).2 z] at hx; cases hx
        have m2 : y.1 ∈ m.map Prod.fst := by
          by_cases z : y.1 ∈ m.map Prod.fst
          · exact z
          · rw [(look_none hk).2 z] at hy; cases hy
        have := lt_trn (h1.1 _ m2) (h2.1 _ m1)
        rw [lt_irr] at this; cases this
    rw [if_pos e] at hx
    simp only [Option.some.injEq] at hx
    have hxy : x = y := Prod.ext e hx
    subst hxy
    rw [srt_ext hk h1.2 h2.2 fun q => ?_]
    have hq := h q
    rw [look_cons hk, look_cons hk] at hq
    by_cases z : q = x.1
    · subst z
      have n1 : x.1 ∉ m.map Prod.fst := fun w => by have := h1.1 _ w; rw [lt_irr] at this; cases this
      have n2 : x.1 ∉ m'.map Prod.fst := fun w => by have := h2.1 _ w; rw [lt_irr] at this; cases this
      rw [(look_none hk).2 n1, (look_none hk).2 n2]
    · rw [if_neg z, if_neg z] at hq; exact hq
/-- Entries are put, one behind the other, those for which something holds. -/
def putIf (p : CE k × RowE es → Bool) {fs : List Sh} (f : CE k × RowE es → RowE fs) (l : List (CE k × RowE es)) (m : List (CE k × RowE fs)) : List (CE k × RowE fs) :=
  l.foldl (fun m x => if p x then mput k fs m x.1 (f x) else m) m
theorem putIf_cons (p : CE k × RowE es → Bool) {fs : List Sh} (f : CE k × RowE es → RowE fs) (x : CE k × RowE es) (l : List (CE k × RowE es)) (m : List (CE k × RowE fs)) : putIf p f (x :: l) m = putIf p f l (if p x then mput k fs m x.1 (f x) else m) := rfl
theorem srt_putIf (hk : simpleK k = true) (p : CE k × RowE es → Bool) {fs : List Sh} (f : CE k × RowE es → RowE fs) : ∀ (l : List (CE k × RowE es)) (m : List (CE k × RowE fs)), Srt k fs m → Srt k fs (putIf p f l m)
  | [], m, h => h
  | x :: l, m, h => by
    rw [putIf_cons]
    refine srt_putIf hk p f l _ ?_
    split
    · exact srt_mput hk h _ _
    · exact h
theorem look_putIf (hk : simpleK k = true) (p : CE k × RowE es → Bool) {fs : List Sh} (f : CE k × RowE es → RowE fs) (q : CE k) : ∀ (l : List (CE k × RowE es)) (m : List (CE k × RowE fs)), (l.map Prod.fst).Nodup →
    look k fs (putIf p f l m) q = match look k es l q with | some v => if p (q, v) then some (f (q, v)) else look k fs m q | none => look k fs m q
  | [], m, _ => rfl
  | x :: l, m, hn => by
    classical
    simp only [List.map_cons, List.nodup_cons] at hn
    rw [putIf_cons, look_putIf hk p f q l _ hn.2, look_cons hk]
    by_cases e : q = x.1
    · subst e
      rw [if_pos rfl, (look_none hk).2 hn.1]
      simp only
      cases hp : p x
      · simp [show p (x.1, x.2) = false from hp]
      · simp only [if_true]; rw [look_mput hk, if_pos rfl]
    · rw [if_neg e]
      cases look k es l q with
      | none =>
        simp only
        split
        · rw [look_mput hk, if_neg e]
        · rfl
      | some v =>
        simp only
        split
        · rfl
        · split
          · rw [look_mput hk, if_neg e]
          · rfl
theorem putIf_perm (hk : simpleK k = true) (p : CE k × RowE es → Bool) {fs : List Sh} (f : CE k × RowE es → RowE fs) {l l' : List (CE k × RowE es)} (h : l.Perm l') (hn : (l.map Prod.fst).Nodup) {m : List (CE k × RowE fs)} (hm : Srt k fs m) : putIf p f l m = putIf p f l' m := by
  refine srt_ext hk (srt_putIf hk p f l m hm) (srt_putIf hk p f l' m hm) fun q => ?_
  rw [look_putIf hk p f q l m hn, look_putIf hk p f q l' m ((h.map Prod.fst).nodup_iff.1 hn), look_perm hk h hn]
end
theorem perm_at {α : Type} : ∀ (l : List α) (i : Nat) (x : α), l[i]? = some x → l.Perm (x :: l.eraseIdx i)
  | [], i, x, h => by simp at h
  | y :: l, 0, x, h => by simp at h; subst h; exact .refl _
  | y :: l, i + 1, x, h => by
    simp only [List.getElem?_cons_succ] at h
    exact ((perm_at l i x h).cons y).trans (.swap _ _ _)
theorem nodup_erase {α β : Type} {l : List α} {f : α → β} (h : (l.map f).Nodup) (i : Nat) : ((l.eraseIdx i).map f).Nodup := ((List.eraseIdx_sublist l i).map f).nodup h
/-- One of the entries that are left is put first. -/
theorem putIf_erase {k : Sh} {es : List Sh} (hk : simpleK k = true) (p : CE k × RowE es → Bool) {fs : List Sh} (f : CE k × RowE es → RowE fs) {l : List (CE k × RowE es)} (hn : (l.map Prod.fst).Nodup) {m : List (CE k × RowE fs)} (hm : Srt k fs m) {i : Nat} {x : CE k × RowE es} (hx : l[i]? = some x) :
    putIf p f (l.eraseIdx i) (if p x then mput k fs m x.1 (f x) else m) = putIf p f l m := by
  rw [putIf_perm hk p f (perm_at l i x hx) hn hm, putIf_cons]
/-! Orders, by number. -/
def fac : Nat → Nat
  | 0 => 1
  | n + 1 => (n + 1) * fac n
theorem fac_pos : ∀ n, 0 < fac n
  | 0 => Nat.one_pos
  | n + 1 => Nat.mul_pos (by omega) (fac_pos n)
def pkN {α : Type} : Nat → List α → Nat → List α
  | 0, _, _ => []
  | n + 1, l, i => match l[i % (n + 1)]? with | some x => x :: pkN n (l.eraseIdx (i % (n + 1))) (i / (n + 1)) | none => []
theorem pkN_perm {α : Type} : ∀ (n : Nat) (l : List α) (i : Nat), l.length = n → (pkN n l i).Perm l
  | 0, l, i, h => by have : l = [] := List.length_eq_zero_iff.1 h; subst this; exact .refl _
  | n + 1, l, i, h => by
    have hj : i % (n + 1) < l.length := by rw [h]; exact Nat.mod_lt _ (by omega)
    simp only [pkN, List.getElem?_eq_getElem hj]
    exact ((pkN_perm n _ _ (by rw [List.length_eraseIdx, if_pos hj, h]; omega)).cons _).trans (perm_at l _ _ (List.getElem?_eq_getElem hj)).symm
theorem pkN_step {α : Type} {n : Nat} {l : List α} (j i : Nat) (hj : j < n + 1) {x : α} (hx : l[j]? = some x) : pkN (n + 1) l (i * (n + 1) + j) = x :: pkN n (l.eraseIdx j) i := by
  have e1 : (i * (n + 1) + j) % (n + 1) = j := by rw [Nat.mul_comm, Nat.mul_add_mod, Nat.mod_eq_of_lt hj]
  have e2 : (i * (n + 1) + j) / (n + 1) = i := by rw [Nat.mul_comm, Nat.mul_add_div (by omega), Nat.div_eq_of_lt hj]; rfl
  simp only [pkN, e1, e2, hx]
theorem fac_step {n i j : Nat} (hi : i < fac n) (hj : j < n + 1) : i * (n + 1) + j < fac (n + 1) := by
  show _ < (n + 1) * fac n
  have : (i + 1) * (n + 1) ≤ fac n * (n + 1) := Nat.mul_le_mul_right _ hi
  rw [Nat.add_mul] at this
  rw [Nat.mul_comm (n + 1)]
  omega
end Go.Proofs.Ytgcjhcefpkbheaa.Sp
