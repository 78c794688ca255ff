/- Lists of texts: where one is. -/
import Derived.Test.YtoopcfjmmhmamaaSpD
import Derived.Test.YtoopcfjmmhmamaaSpL
import Derived.Test.YtoopcfjmmhmamaaSpT
section
set_option maxRecDepth 100000
namespace Go.Proofs.Ytoopcfjmmhmamaa.Sp
open Go.Proofs.Ytoopcfjmmhmamaa.Lg Go
open Go.Lib
/- Chapter 3: triples and their texts. -/
abbrev T3 := Int × B × B × B × Int × B × B × B × Int × B × B × B × Unit
def tS (t : T3) : TR := (t.1, t.2.1, t.2.2.1, t.2.2.2.1, ())
def tP (t : T3) : TR := (t.2.2.2.2.1, t.2.2.2.2.2.1, t.2.2.2.2.2.2.1, t.2.2.2.2.2.2.2.1, ())
def tO (t : T3) : TR := (t.2.2.2.2.2.2.2.2.1, t.2.2.2.2.2.2.2.2.2.1, t.2.2.2.2.2.2.2.2.2.2.1, t.2.2.2.2.2.2.2.2.2.2.2.1, ())
def mk3 (a b c : TR) : T3 := (a.1, a.2.1, a.2.2.1, a.2.2.2.1, b.1, b.2.1, b.2.2.1, b.2.2.2.1, c.1, c.2.1, c.2.2.1, c.2.2.2.1, ())
def zero3 : T3 := (0, [], [], [], 0, [], [], [], 0, [], [], [], ())
def all3 (t : T3) : Bool := rightT (tS t) && rightT (tP t) && rightT (tO t)
def triK (a b c : Int) : Bool := (decide (a = 1) || decide (a = 3)) && decide (b = 1) && (decide (c = 1) || decide (c = 3) || decide (c = 2))
def patK (a b c : Int) : Bool := (decide (a = 1) || decide (a = 4)) && (decide (b = 1) || decide (b = 4)) && (decide (c = 1) || decide (c = 2) || decide (c = 4))
def tri (t : T3) : Bool := all3 t && triK t.1 t.2.2.2.2.1 t.2.2.2.2.2.2.2.2.1
def pat (t : T3) : Bool := all3 t && patK t.1 t.2.2.2.2.1 t.2.2.2.2.2.2.2.2.1
def sz3 (n : Nat) (t : T3) : Prop := (t.2.1.length ≤ n ∧ t.2.2.1.length ≤ n ∧ t.2.2.2.1.length ≤ n) ∧ (t.2.2.2.2.2.1.length ≤ n ∧ t.2.2.2.2.2.2.1.length ≤ n ∧ t.2.2.2.2.2.2.2.1.length ≤ n) ∧ (t.2.2.2.2.2.2.2.2.2.1.length ≤ n ∧ t.2.2.2.2.2.2.2.2.2.2.1.length ≤ n ∧ t.2.2.2.2.2.2.2.2.2.2.2.1.length ≤ n)
theorem triK_t {a b c : Int} (h1 : a = 1 ∨ a = 3) (h2 : b = 1) (h3 : 1 ≤ c) (h4 : c ≤ 3) : triK a b c = true := by
  simp [triK]; omega
theorem triK_a {a b c : Int} (h1 : ¬ a = 1) (h2 : ¬ a = 3) : triK a b c = false := by simp [triK, h1, h2]
theorem triK_b {a b c : Int} (h1 : ¬ b = 1) : triK a b c = false := by simp [triK, h1]
theorem triK_c {a b c : Int} (h : c < 1) : triK a b c = false := by simp [triK]; omega
theorem triK_d {a b c : Int} (h : c > 3) : triK a b c = false := by simp [triK]; omega
theorem triK_e {a b c : Int} (h1 : a = 1 ∨ a = 3) (h2 : b = 1) (h3 : ¬ c = 1) (h4 : ¬ c = 3) : triK a b c = decide (c = 2) := by
  rcases h1 with h1 | h1 <;> simp [triK, h1, h2, h3, h4]
theorem triK_1 {a b c : Int} (h1 : a = 1 ∨ a = 3) (h2 : b = 1) (h3 : c = 1) : triK a b c = true := by rcases h1 with h1 | h1 <;> simp [triK, h1, h2, h3]
theorem triK_3 {a b c : Int} (h1 : a = 1 ∨ a = 3) (h2 : b = 1) (h3 : c = 3) : triK a b c = true := by rcases h1 with h1 | h1 <;> simp [triK, h1, h2, h3]
theorem patK_a {a b c : Int} (h1 : ¬ a = 1) (h2 : ¬ a = 4) : patK a b c = false := by simp [patK, h1, h2]
theorem patK_b {a b c : Int} (h1 : ¬ b = 1) (h2 : ¬ b = 4) : patK a b c = false := by simp [patK, h1, h2]
theorem patK_t {a b c : Int} (h1 : a = 1 ∨ a = 4) (h2 : b = 1 ∨ b = 4) : patK a b c = (decide (c = 1) || decide (c = 2) || decide (c = 4)) := by
  rcases h1 with h1 | h1 <;> rcases h2 with h2 | h2 <;> simp [patK, h1, h2]
theorem patK_1 {a b c : Int} (h1 : a = 1 ∨ a = 4) (h2 : b = 1 ∨ b = 4) (h3 : c = 1) : patK a b c = true := by rw [patK_t h1 h2]; simp [h3]
theorem patK_2 {a b c : Int} (h1 : a = 1 ∨ a = 4) (h2 : b = 1 ∨ b = 4) (h3 : c = 2) : patK a b c = true := by rw [patK_t h1 h2]; simp [h3]
theorem patK_e {a b c : Int} (h1 : a = 1 ∨ a = 4) (h2 : b = 1 ∨ b = 4) (h3 : ¬ c = 1) (h4 : ¬ c = 2) : patK a b c = decide (c = 4) := by rw [patK_t h1 h2]; simp [h3, h4]
theorem tri_of {t : T3} (q : all3 t = true) : tri t = triK t.1 t.2.2.2.2.1 t.2.2.2.2.2.2.2.2.1 := by simp [tri, q]
theorem pat_of {t : T3} (q : all3 t = true) : pat t = patK t.1 t.2.2.2.2.1 t.2.2.2.2.2.2.2.2.1 := by simp [pat, q]
theorem tri_no {t : T3} (q : all3 t = false) : tri t = false := by simp [tri, q]
theorem pat_no {t : T3} (q : all3 t = false) : pat t = false := by simp [pat, q]
theorem all3_t {t : T3} (h1 : right t.1 t.2.1 t.2.2.1 t.2.2.2.1 = true) (h2 : right t.2.2.2.2.1 t.2.2.2.2.2.1 t.2.2.2.2.2.2.1 t.2.2.2.2.2.2.2.1 = true) (h3 : right t.2.2.2.2.2.2.2.2.1 t.2.2.2.2.2.2.2.2.2.1 t.2.2.2.2.2.2.2.2.2.2.1 t.2.2.2.2.2.2.2.2.2.2.2.1 = true) : all3 t = true := by
  simp [all3, rightT, tS, tP, tO, h1, h2, h3]
theorem all3_1 {t : T3} (h1 : right t.1 t.2.1 t.2.2.1 t.2.2.2.1 = false) : all3 t = false := by simp [all3, rightT, tS, h1]
theorem all3_2 {t : T3} (h1 : right t.2.2.2.2.1 t.2.2.2.2.2.1 t.2.2.2.2.2.2.1 t.2.2.2.2.2.2.2.1 = false) : all3 t = false := by simp [all3, rightT, tP, h1]
theorem all3_3 {t : T3} (h1 : right t.2.2.2.2.2.2.2.2.1 t.2.2.2.2.2.2.2.2.2.1 t.2.2.2.2.2.2.2.2.2.2.1 t.2.2.2.2.2.2.2.2.2.2.2.1 = false) : all3 t = false := by simp [all3, rightT, tO, h1]
theorem right_k {k : Int} {a t l : B} (h : right k a t l = true) : k = 0 ∨ k = 1 ∨ k = 2 ∨ k = 3 ∨ k = 4 := by
  unfold right at h
  split at h
  · omega
  · split at h
    · omega
    · split at h
      · omega
      · split at h
        · omega
        · cases h
theorem right_two {k : Int} {a t l : B} (q : right k a t l = true) (k2 : k = 2) : t = [] ∨ l = [] := by
  simp [right, k2] at q
  rcases q.1.2 with z | z
  · exact .inl z
  · exact .inr z.2
theorem patK_n {a b c : Int} (h : c = 0 ∨ c = 3) : patK a b c = false := by rcases h with h | h <;> simp [patK, h]
theorem patK_y {a b c : Int} (h1 : a = 1 ∨ a = 4) (h2 : b = 1 ∨ b = 4) (h : c = 0 ∨ c = 1 ∨ c = 2 ∨ c = 3 ∨ c = 4) (k0 : ¬ c = 0) (k3 : ¬ c = 3) : patK a b c = true := by
  rw [patK_t h1 h2]; simp; omega
theorem all3_o {t : T3} (h : all3 t = true) : right t.2.2.2.2.2.2.2.2.1 t.2.2.2.2.2.2.2.2.2.1 t.2.2.2.2.2.2.2.2.2.2.1 t.2.2.2.2.2.2.2.2.2.2.2.1 = true := by
  simp only [all3, rightT, tS, tP, tO, Bool.and_eq_true] at h
  exact h.2
theorem if02 {b : Bool} (h : ¬ (if b = true then (0 : Int) else 2) = 0) : b = false := by cases b <;> simp_all
theorem if00 {b : Bool} (h : (if b = true then (0 : Int) else 2) = 0) : b = true := by cases b <;> simp_all
def text3 (t : T3) : B := textT (tS t) ++ [32] ++ textT (tP t) ++ [32] ++ textT (tO t) ++ [32, 46, 10]
def writeT (l : List T3) : B := l.flatMap text3
def hasS (l : List (RowE [.str])) (a : B) : Bool := l.any fun r => r.1 == a
def moreS (l : List (RowE [.str])) (x : TR) : List (RowE [.str]) := if x.1 = 4 ∧ hasS l x.2.1 = false then l ++ [(x.2.1, ())] else l
def varsS (t : T3) : List (RowE [.str]) := moreS (moreS (moreS [] (tS t)) (tP t)) (tO t)
def cmp3 (a b : T3) : Int := if cmpT (tS a) (tS b) ≠ 0 then cmpT (tS a) (tS b) else if cmpT (tP a) (tP b) ≠ 0 then cmpT (tP a) (tP b) else cmpT (tO a) (tO b)
/-- a term, a blank behind it, and what is left -/
def head3 (s : B) : Option (TR × B) := if (prefixS s).2.2.2.2 ≠ 0 ∧ (s.drop (prefixS s).2.2.2.2.toNat).head? = some 32 then some (((prefixS s).1, (prefixS s).2.1, (prefixS s).2.2.1, (prefixS s).2.2.2.1, ()), s.drop ((prefixS s).2.2.2.2.toNat + 1)) else none
def lineS (s : B) : T3 × Bool := match head3 s with
  | none => (zero3, false)
  | some (a, s) => match head3 s with
    | none => (zero3, false)
    | some (b, s) => match head3 s with
      | none => (zero3, false)
      | some (c, s) => (mk3 a b c, decide (s = [46]) && tri (mk3 a b c))
def readG : Nat → B → List T3 × B × Bool
  | 0, s => ([], s, false)
  | f + 1, s => if indexByte s 10 < 0 then ([], s, false) else if (lineS (s.take (indexByte s 10).toNat)).2 = true then ((lineS (s.take (indexByte s 10).toNat)).1 :: (readG f (s.drop ((indexByte s 10).toNat + 1))).1, (readG f (s.drop ((indexByte s 10).toNat + 1))).2) else ([], s, true)
def readL (s : B) : List T3 × B × Bool := readG s.length s
theorem readG_eq : ∀ (f g : Nat) (s : B), s.length ≤ f → s.length ≤ g → readG f s = readG g s
  | 0, 0, s, _, _ => rfl
  | 0, g + 1, s, h, _ => by
    have : s = [] := List.length_eq_zero_iff.1 (by omega)
    subst this; simp [readG, indexByte]
  | f + 1, 0, s, _, h => by
    have : s = [] := List.length_eq_zero_iff.1 (by omega)
    subst this; simp [readG, indexByte]
  | f + 1, g + 1, s, h1, h2 => by
    simp only [readG]
    by_cases q : indexByte s 10 < 0
    · simp [q]
    · have hp := indexByte_le s 10
      have e := readG_eq f g (s.drop ((indexByte s 10).toNat + 1)) (by simp; omega) (by simp; omega)
      simp only [e]
theorem readL_eq (s : B) : readL s = if indexByte s 10 < 0 then ([], s, false) else if (lineS (s.take (indexByte s 10).toNat)).2 = true then ((lineS (s.take (indexByte s 10).toNat)).1 :: (readL (s.drop ((indexByte s 10).toNat + 1))).1, (readL (s.drop ((indexByte s 10).toNat + 1))).2) else ([], s, true) := by
  have e : readL s = readG (s.length + 1) s := readG_eq _ _ s (by omega) (by omega)
  rw [e]
  simp only [readG]
  have e2 : readG s.length (s.drop ((indexByte s 10).toNat + 1)) = readL (s.drop ((indexByte s 10).toNat + 1)) := readG_eq _ _ _ (by simp) (by omega)
  rw [e2]
theorem readL_nil : readL [] = ([], [], false) := rfl

theorem prefixS_ge (s : B) : 0 ≤ (prefixS s).2.2.2.2 := by
  cases s with
  | nil => simp [prefixS, noTerm]
  | cons b r =>
    simp only [prefixS]
    split
    · split
      · simp
      · simp [noTerm]
    split
    · rw [literalS_eq]
      split
      · split
        · split
          · have := (behindS_le 2 (by assumption) [] [] (b :: r) (run r + 2) (by simp; omega)).1
            omega
          · simp [noTerm]
        · simp [noTerm]
      · simp [noTerm]
    split
    · split
      · simp; omega
      · simp [noTerm]
    split
    · split
      · simp; omega
      · simp [noTerm]
    · simp [noTerm]
theorem take1_iff {l : B} {c : UInt8} : l.take 1 = [c] ↔ l.head? = some c := by cases l <;> simp
/-- where a term is, and what is behind it -/
theorem head3_none {s : B} (h : (prefixS s).2.2.2.2 = 0 ∨ ¬ (s.drop (prefixS s).2.2.2.2.toNat).take 1 = [32]) : head3 s = none := by
  unfold head3
  rw [if_neg]
  rintro ⟨q1, q2⟩
  rcases h with h | h
  · exact q1 h
  · exact h (take1_iff.2 q2)
theorem head3_some {s : B} (h : (prefixS s).2.2.2.2 ≠ 0) (k : (s.drop (prefixS s).2.2.2.2.toNat).take 1 = [32]) : head3 s = some (((prefixS s).1, (prefixS s).2.1, (prefixS s).2.2.1, (prefixS s).2.2.2.1, ()), s.drop ((prefixS s).2.2.2.2.toNat + 1)) := by
  unfold head3
  rw [if_pos ⟨h, take1_iff.1 k⟩]
theorem head3_len {s r : B} {a : TR} (h : head3 s = some (a, r)) : r.length < s.length := by
  unfold head3 at h
  split at h
  · rename_i q
    simp at h
    rw [← h.2]
    have := q.2
    have hd : (prefixS s).2.2.2.2.toNat < s.length := by
      have h0 : (s.drop (prefixS s).2.2.2.2.toNat) ≠ [] := by intro e; rw [e] at this; simp at this
      rcases Nat.lt_or_ge (prefixS s).2.2.2.2.toNat s.length with z | z
      · exact z
      · exact absurd (List.drop_of_length_le z) h0
    simp; omega
  · cases h
def eq3 (a b : T3) : Bool := a.1 == b.1 && (a.2.1 == b.2.1 && (a.2.2.1 == b.2.2.1 && (a.2.2.2.1 == b.2.2.2.1 && (a.2.2.2.2.1 == b.2.2.2.2.1 && (a.2.2.2.2.2.1 == b.2.2.2.2.2.1 && (a.2.2.2.2.2.2.1 == b.2.2.2.2.2.2.1 && (a.2.2.2.2.2.2.2.1 == b.2.2.2.2.2.2.2.1 && (a.2.2.2.2.2.2.2.2.1 == b.2.2.2.2.2.2.2.2.1 && (a.2.2.2.2.2.2.2.2.2.1 == b.2.2.2.2.2.2.2.2.2.1 && (a.2.2.2.2.2.2.2.2.2.2.1 == b.2.2.2.2.2.2.2.2.2.2.1 && (a.2.2.2.2.2.2.2.2.2.2.2.1 == b.2.2.2.2.2.2.2.2.2.2.2.1)))))))))))
theorem eq3_iff (a b : T3) : eq3 a b = true ↔ a = b := by
  obtain ⟨a1, a2, a3, a4, a5, a6, a7, a8, a9, a10, a11, a12, _⟩ := a
  obtain ⟨b1, b2, b3, b4, b5, b6, b7, b8, b9, b10, b11, b12, _⟩ := b
  simp [eq3]
def sameT3 : List T3 → List T3 → Bool
  | x :: a, y :: b => eq3 x y && sameT3 a b
  | _, _ => true
def same3 (a b : List T3) : Bool := decide (a.length = b.length) && sameT3 a b
theorem sameT3_iff : ∀ a b : List T3, a.length = b.length → (sameT3 a b = true ↔ a = b)
  | [], [], _ => by simp [sameT3]
  | x :: a, y :: b, h => by
    simp only [sameT3, Bool.and_eq_true, eq3_iff, sameT3_iff a b (by simpa using h), List.cons.injEq]
theorem same3_iff (a b : List T3) : same3 a b = true ↔ a = b := by
  simp only [same3, Bool.and_eq_true, decide_eq_true_eq]
  constructor
  · rintro ⟨h1, h2⟩; exact (sameT3_iff a b h1).1 h2
  · rintro rfl; exact ⟨rfl, (sameT3_iff a a rfl).2 rfl⟩
def sameT1 : List (RowE [.str]) → List (RowE [.str]) → Bool
  | x :: a, y :: b => (x.1 == y.1) && sameT1 a b
  | _, _ => true
theorem sameT1_refl : ∀ a : List (RowE [.str]), sameT1 a a = true
  | [] => rfl
  | x :: a => by simp [sameT1, sameT1_refl a]
def sameX (a b : List (RowE [.str])) : Bool := decide (a.length = b.length) && sameT1 a b
theorem readG_rest : ∀ (f : Nat) (s : B), (readG f s).2.1.length ≤ s.length
  | 0, s => Nat.le_refl _
  | f + 1, s => by
    simp only [readG]
    split
    · exact Nat.le_refl _
    · split
      · have := readG_rest f (s.drop ((indexByte s 10).toNat + 1))
        refine Nat.le_trans this ?_
        simp
      · exact Nat.le_refl _
theorem readG_len : ∀ (f : Nat) (s : B), (readG f s).1.length ≤ s.length
  | 0, s => Nat.zero_le _
  | f + 1, s => by
    simp only [readG]
    split
    · exact Nat.zero_le _
    · split
      · have := readG_len f (s.drop ((indexByte s 10).toNat + 1))
        have hp := indexByte_le s 10
        simp only [List.length_cons, List.length_drop] at this ⊢
        omega
      · exact Nat.zero_le _
theorem readL_len (s : B) : (readL s).1.length ≤ s.length := readG_len _ s
theorem readL_rest (s : B) : (readL s).2.1.length ≤ s.length := readG_rest _ s
def failL (s : B) : Bool := (readL s).2.2 || !(readL s).2.1.isEmpty
def triL (l : List T3) : Bool := l.all tri
theorem failL_eq (s : B) : failL s = if s = [] then false else if indexByte s 10 < 0 then true else if (lineS (s.take (indexByte s 10).toNat)).2 = true then failL (s.drop ((indexByte s 10).toNat + 1)) else true := by
  by_cases q : s = []
  · subst q; rfl
  · rw [if_neg q]
    unfold failL
    rw [readL_eq]
    split
    · cases s with
      | nil => exact absurd rfl q
      | cons _ _ => rfl
    · split
      · rfl
      · rfl
theorem readL_fst (s : B) : (readL s).1 = if indexByte s 10 < 0 then [] else if (lineS (s.take (indexByte s 10).toNat)).2 = true then (lineS (s.take (indexByte s 10).toNat)).1 :: (readL (s.drop ((indexByte s 10).toNat + 1))).1 else [] := by
  rw [readL_eq]
  split
  · rfl
  · split <;> rfl
theorem tri_all {t : T3} (h : tri t = true) : (right t.1 t.2.1 t.2.2.1 t.2.2.2.1 = true ∧ right t.2.2.2.2.1 t.2.2.2.2.2.1 t.2.2.2.2.2.2.1 t.2.2.2.2.2.2.2.1 = true) ∧ right t.2.2.2.2.2.2.2.2.1 t.2.2.2.2.2.2.2.2.2.1 t.2.2.2.2.2.2.2.2.2.2.1 t.2.2.2.2.2.2.2.2.2.2.2.1 = true := by
  simp only [tri, all3, rightT, tS, tP, tO, Bool.and_eq_true] at h
  exact h.1
def lineR (s : B) : T3 × Bool := match head3 s with
  | none => (zero3, false)
  | some (a, s) => match head3 s with
    | none => (zero3, false)
    | some (b, s) => (mk3 a b ((prefixS s).1, (prefixS s).2.1, (prefixS s).2.2.1, (prefixS s).2.2.2.1, ()), decide (0 < (prefixS s).2.2.2.2) && decide (s.drop (prefixS s).2.2.2.2.toNat = [32, 46]) && tri (mk3 a b ((prefixS s).1, (prefixS s).2.1, (prefixS s).2.2.1, (prefixS s).2.2.2.1, ())))
theorem lineR_eq (s : B) : (lineR s).2 = (lineS s).2 ∧ ((lineS s).2 = true → (lineR s).1 = (lineS s).1) := by
  unfold lineR lineS
  cases h1 : head3 s with
  | none => exact ⟨rfl, fun _ => rfl⟩
  | some p =>
    obtain ⟨a, s1⟩ := p
    simp only
    cases h2 : head3 s1 with
    | none => exact ⟨rfl, fun _ => rfl⟩
    | some p =>
      obtain ⟨b, s2⟩ := p
      simp only
      have hg := prefixS_ge s2
      by_cases n0 : (prefixS s2).2.2.2.2 = 0
      · rw [head3_none (.inl n0)]
        refine ⟨?_, fun q => by simp at q⟩
        simp [n0]
      · by_cases tk : (s2.drop (prefixS s2).2.2.2.2.toNat).take 1 = [32]
        · rw [head3_some n0 tk]
          simp only
          have e : (s2.drop (prefixS s2).2.2.2.2.toNat = [32, 46]) ↔ (s2.drop ((prefixS s2).2.2.2.2.toNat + 1) = [46]) := by
            rw [← List.drop_drop]
            generalize s2.drop (prefixS s2).2.2.2.2.toNat = r at *
            cases r with
            | nil => simp at tk
            | cons c r => simp at tk; subst tk; simp
          refine ⟨?_, fun _ => trivial⟩
          have e0 : decide (0 < (prefixS s2).2.2.2.2) = true := decide_eq_true (by omega)
          rw [e0, Bool.true_and, decide_eq_decide.2 e]
        · rw [head3_none (.inr tk)]
          refine ⟨?_, fun q => by simp at q⟩
          have e : ¬ (s2.drop (prefixS s2).2.2.2.2.toNat = [32, 46]) := fun e => tk (by rw [e]; rfl)
          simp [e]
theorem cmp3_self (a : T3) : cmp3 a a = 0 := by
  simp [cmp3, (cmpT_zero _ _).2]
theorem cmp3_zero (a b : T3) : cmp3 a b = 0 ↔ a = b := by
  have e : a = b ↔ tS a = tS b ∧ tP a = tP b ∧ tO a = tO b := by
    obtain ⟨a1, a2, a3, a4, a5, a6, a7, a8, a9, a10, a11, a12, _⟩ := a
    obtain ⟨b1, b2, b3, b4, b5, b6, b7, b8, b9, b10, b11, b12, _⟩ := b
    simp [tS, tP, tO, and_assoc]
  rw [e, ← cmpT_zero, ← cmpT_zero, ← cmpT_zero]
  unfold cmp3
  by_cases h1 : cmpT (tS a) (tS b) = 0
  · by_cases h2 : cmpT (tP a) (tP b) = 0
    · simp [h1, h2]
    · simp [h1, h2]
  · simp [h1]
theorem cmp3_range (a b : T3) : cmp3 a b = -1 ∨ cmp3 a b = 0 ∨ cmp3 a b = 1 := by
  unfold cmp3
  split
  · exact cmpT_range _ _
  · split <;> exact cmpT_range _ _
theorem cmp3_anti (a b : T3) : cmp3 b a = -cmp3 a b := by
  unfold cmp3
  rw [cmpT_anti (tS a) (tS b), cmpT_anti (tP a) (tP b), cmpT_anti (tO a) (tO b)]
  simp only [ne_eq, Int.neg_eq_zero]
  split
  · rfl
  · split <;> rfl
theorem cmp3_trans (a b c : T3) (h : cmp3 a b ≤ 0) (k : cmp3 b c ≤ 0) : cmp3 a c ≤ 0 := by
  have lex : ∀ x y z : TR, cmpT x y ≤ 0 → cmpT y z ≤ 0 → (cmpT x y ≠ 0 ∨ cmpT y z ≠ 0) → cmpT x z < 0 := by
    intro x y z h1 h2 h3
    have h4 := cmpT_trans x y z h1 h2
    by_cases e : cmpT x z = 0
    · obtain rfl := (cmpT_zero x z).1 e
      have := cmpT_anti x y
      omega
    · omega
  unfold cmp3 at *
  by_cases s1 : cmpT (tS a) (tS b) = 0
  · have e1 := (cmpT_zero _ _).1 s1
    rw [← e1] at k
    simp only [s1, ne_eq, not_true, if_false] at h
    by_cases s2 : cmpT (tS a) (tS c) = 0
    · simp only [s2, ne_eq, not_true, if_false] at k ⊢
      by_cases p1 : cmpT (tP a) (tP b) = 0
      · have e2 := (cmpT_zero _ _).1 p1
        rw [← e2] at k
        simp only [p1, ne_eq, not_true, if_false] at h
        by_cases p2 : cmpT (tP a) (tP c) = 0
        · simp only [p2, ne_eq, not_true, if_false] at k ⊢
          exact cmpT_trans _ _ _ h k
        · simp only [p2, ne_eq, not_false_eq_true, if_true] at k ⊢
          exact k
      · simp only [p1, ne_eq, not_false_eq_true, if_true] at h
        by_cases p2 : cmpT (tP b) (tP c) = 0
        · have e2 := (cmpT_zero _ _).1 p2
          rw [← e2]
          simp only [p1, ne_eq, not_false_eq_true, if_true]; exact h
        · simp only [p2, ne_eq, not_false_eq_true, if_true] at k
          have := lex _ _ _ h k (.inl p1)
          rw [if_pos (by omega)]; omega
    · simp only [s2, ne_eq, not_false_eq_true, if_true] at k ⊢
      exact k
  · simp only [s1, ne_eq, not_false_eq_true, if_true] at h
    by_cases s2 : cmpT (tS b) (tS c) = 0
    · have e2 := (cmpT_zero _ _).1 s2
      rw [← e2]
      simp only [s1, ne_eq, not_false_eq_true, if_true]; exact h
    · simp only [s2, ne_eq, not_false_eq_true, if_true] at k
      have := lex _ _ _ h k (.inl s1)
      rw [if_pos (by omega)]; omega
def szL (l : List T3) : Prop := ∀ t ∈ l, sz3 140737488355328 t
theorem triL_cons (t : T3) (l : List T3) : triL (t :: l) = (tri t && triL l) := rfl
theorem writeT_cons (t : T3) (l : List T3) : writeT (t :: l) = text3 t ++ writeT l := rfl
theorem text3_le {t : T3} (h : tri t = true) : (text3 t).length ≤ 60005 := by
  obtain ⟨⟨a1, a2⟩, a3⟩ := tri_all h
  have b1 := textS_le a1
  have b2 := textS_le a2
  have b3 := textS_le a3
  simp [text3, textT, tS, tP, tO]; omega
theorem writeT_le : ∀ {l : List T3}, triL l = true → (writeT l).length ≤ 60005 * l.length
  | [], _ => by simp [writeT]
  | t :: l, h => by
    rw [triL_cons, Bool.and_eq_true] at h
    have h1 := text3_le h.1
    have h2 := writeT_le h.2
    rw [writeT_cons, List.length_append, List.length_cons]; omega
end Go.Proofs.Ytoopcfjmmhmamaa.Sp
end

section
namespace Go.Proofs.Ytoopcfjmmhmamaa.Sp
open Go.Proofs.Ytoopcfjmmhmamaa.Lg
def idxS : List (RowE [.str]) → B → Int → Int
  | [], _, _ => -1
  | r :: l, a, i => if a = r.1 then i else idxS l a (i + 1)
theorem idxS_has : ∀ (l : List (RowE [.str])) (a : B) (i : Int), 0 ≤ i → hasS l a = decide (0 ≤ idxS l a i)
  | [], _, _, _ => rfl
  | r :: l, a, i, h => by
    have ih := idxS_has l a (i + 1) (by omega)
    have e0 : hasS (r :: l) a = (r.1 == a || hasS l a) := rfl
    by_cases e : a = r.1
    · have : idxS (r :: l) a i = i := by rw [idxS, if_pos e]
      rw [e0, this, show (r.1 == a) = true by rw [e]; simp, decide_eq_true h]; rfl
    · have : idxS (r :: l) a i = idxS l a (i + 1) := by rw [idxS, if_neg e]
      rw [e0, this, show (r.1 == a) = false from beq_eq_false_iff_ne.2 (Ne.symm e), Bool.false_or, ih]
theorem txt_at {l : List (RowE [.str])} {i : Nat} (h : i < l.length) : l.drop i = getR [.str] l (i : Int) :: l.drop (i + 1) := by
  rw [List.drop_eq_getElem_cons h]
  simp [getR, List.getElem?_eq_getElem h]
theorem hasS_cons (r : RowE [.str]) (l : List (RowE [.str])) (a : B) : hasS (r :: l) a = (r.1 == a || hasS l a) := rfl
theorem moreS_no {l : List (RowE [.str])} {x : TR} (h : x.1 = 4 → hasS l x.2.1 = true) : moreS l x = l := by
  unfold moreS
  rw [if_neg]
  rintro ⟨h1, h2⟩
  rw [h h1] at h2; cases h2
theorem moreS_yes {l : List (RowE [.str])} {x : TR} (h : x.1 = 4) (h2 : hasS l x.2.1 = false) : moreS l x = l ++ [(x.2.1, ())] := by
  unfold moreS
  rw [if_pos ⟨h, h2⟩]
theorem moreS_len (l : List (RowE [.str])) (x : TR) : (moreS l x).length ≤ l.length + 1 := by
  unfold moreS; split
  · simp
  · omega
theorem varsS_len (t : T3) : (varsS t).length ≤ 3 := by
  unfold varsS
  have h1 := moreS_len [] (tS t)
  have h2 := moreS_len (moreS [] (tS t)) (tP t)
  have h3 := moreS_len (moreS (moreS [] (tS t)) (tP t)) (tO t)
  simp only [List.length_nil] at h1
  omega
theorem sameX_refl (l : List (RowE [.str])) : sameX l l = true := by simp [sameX, sameT1_refl]
end Go.Proofs.Ytoopcfjmmhmamaa.Sp
end

section
namespace Go.Proofs.Ytoopcfjmmhmamaa.Sp
open Go.Proofs.Ytoopcfjmmhmamaa.Lg
abbrev Tx := List (RowE [.str])
def joinC : Tx → B
  | [] => []
  | r :: l => [32, 44, 32] ++ r.1 ++ joinC l
def argsT : Tx → B
  | [] => []
  | r :: l => r.1 ++ joinC l
def nthT (l : Tx) (n : Int) : B := (getR [.str] l n).1
def boundT : B := [66, 79, 85, 78, 68, 32, 40, 32, 63]
/-- A part's text, with those of what it needs. -/
def txtS (p : Pt) (l : Tx) : B :=
  if p.1 = 1 then textS p.2.1 p.2.2.1 p.2.2.2.1 p.2.2.2.2.1
  else if p.1 = 2 then [63] ++ p.2.2.2.2.2.1
  else if p.1 = 3 then boundT ++ p.2.2.2.2.2.1 ++ [32, 41]
  else if p.1 = 4 ∨ p.1 = 5 then signT p.1 ++ [32] ++ nthT l 0
  else if p.1 ≤ 17 then [40, 32] ++ nthT l 0 ++ [32] ++ signT p.1 ++ [32] ++ nthT l 1 ++ [32, 41]
  else signT p.1 ++ [32, 40, 32] ++ argsT l ++ [32, 41]
def lenT : Tx → Nat
  | [] => 0
  | r :: l => r.1.length + 8 + lenT l
theorem joinC_len : ∀ l : Tx, (joinC l).length ≤ lenT l
  | [] => Nat.le_refl _
  | r :: l => by have := joinC_len l; simp only [joinC, lenT, List.length_append, List.length_cons, List.length_nil]; omega
theorem argsT_len (l : Tx) : (argsT l).length ≤ lenT l := by
  cases l with
  | nil => exact Nat.le_refl _
  | cons r l => have := joinC_len l; simp only [argsT, lenT, List.length_append]; omega
theorem lenT_append : ∀ (a b : Tx), lenT (a ++ b) = lenT a + lenT b
  | [], b => by simp [lenT]
  | r :: a, b => by simp only [List.cons_append, lenT, lenT_append a b]; omega
theorem lenT_split (l : Tx) (n : Nat) : lenT l = lenT (l.take n) + lenT (l.drop n) := by
  rw [← lenT_append, List.take_append_drop]
theorem len_lenT : ∀ l : Tx, l.length ≤ lenT l
  | [] => Nat.le_refl _
  | r :: l => by have := len_lenT l; simp only [List.length_cons, lenT]; omega
theorem nth_len (l : Tx) (n : Nat) : (nthT l (n : Int)).length ≤ lenT l := by
  rcases Nat.lt_or_ge n l.length with h | h
  · have h1 := lenT_split l n
    rw [txt_at h, lenT] at h1
    simp only [nthT]; omega
  · simp [nthT, getR, List.getElem?_eq_none h, RowE.dflt, CE.dflt]
theorem two_len {l : Tx} (h : 1 < l.length) : (nthT l 0).length + (nthT l 1).length + 16 ≤ lenT l := by
  have h1 := lenT_split l 0
  rw [txt_at (by omega), lenT, txt_at h, lenT] at h1
  have e0 : ((0 : Nat) : Int) = 0 := rfl
  have e1 : ((0 + 1 : Nat) : Int) = 1 := rfl
  rw [e0, e1] at h1
  simp only [nthT]; omega
theorem signT_len (k : Int) : (signT k).length ≤ 9 := by
  by_cases h : 0 ≤ k ∧ k ≤ 26
  · obtain ⟨n, rfl⟩ := Int.eq_ofNat_of_zero_le h.1
    have key : ∀ n : Fin 27, (signT (n.1 : Int)).length ≤ 9 := by decide +kernel
    exact key ⟨n, by omega⟩
  · rw [signT_no (by omega)]; decide
theorem name_len {s : B} (h : isName s = true) : s.length ≤ 32 := by
  rw [isName_eq] at h
  simp only [Bool.and_eq_true, decide_eq_true_eq] at h
  exact h.1.1.2
theorem right_len {k : Int} {a t l : B} (h : right k a t l = true) : (textS k a t l).length ≤ 16400 := by
  have h1 := textS_len k a t l
  have key : a.length ≤ 4096 ∧ t.length ≤ 4096 ∧ l.length ≤ 4096 := by
    unfold right at h
    split at h
    · simp only [Bool.and_eq_true, List.isEmpty_iff] at h; obtain ⟨⟨rfl, rfl⟩, rfl⟩ := h; simp
    · split at h
      · simp only [Bool.and_eq_true, List.isEmpty_iff, isIri, decide_eq_true_eq] at h; obtain ⟨⟨rfl, rfl⟩, h⟩ := h; simp; exact h.1.2
      · split at h
        · simp only [Bool.and_eq_true, List.isEmpty_iff] at h; obtain ⟨⟨rfl, rfl⟩, h⟩ := h; have := name_len h; simp; omega
        · split at h
          · simp only [Bool.and_eq_true, Bool.or_eq_true, List.isEmpty_iff, isIri, isText, isLang, decide_eq_true_eq] at h
            obtain ⟨⟨h2, h3⟩, h4⟩ := h
            refine ⟨h2.1, ?_, ?_⟩
            · rcases h3 with rfl | h3
              · simp
              · exact h3.1.1.2
            · rcases h4 with rfl | h4
              · simp
              · have := h4.1.2; omega
          · cases h
  omega
theorem txtS_len {p : Pt} {l : Tx} (hp : rightP p = true) (hl : (l.length : Int) = needsS p) : (txtS p l).length ≤ lenT l + 16420 := by
  have hs := signT_len p.1
  have ha := argsT_len l
  have h0 := nth_len l 0
  have e0 : ((0 : Nat) : Int) = 0 := rfl
  rw [e0] at h0
  unfold txtS
  split
  · rename_i k
    rw [rightP, if_pos k] at hp
    simp only [Bool.and_eq_true] at hp
    have := right_len hp.1; omega
  · rename_i k1
    rw [rightP, if_neg k1] at hp
    split
    · rename_i k
      rw [if_pos (.inl k)] at hp
      simp only [Bool.and_eq_true] at hp
      have := name_len hp.1
      simp only [List.length_append, List.length_cons, List.length_nil]; omega
    · rename_i k2
      split
      · rename_i k
        rw [if_pos (.inr k)] at hp
        simp only [Bool.and_eq_true] at hp
        have := name_len hp.1
        simp only [List.length_append, List.length_cons, List.length_nil, boundT]; omega
      · split
        · simp only [List.length_append, List.length_cons, List.length_nil]; omega
        · rename_i k45
          split
          · rename_i k17
            by_cases h1 : 1 < l.length
            · have := two_len h1
              simp only [List.length_append, List.length_cons, List.length_nil]; omega
            · exfalso
              have hn := rightP_needs (p := p) (by rw [rightP, if_neg k1]; exact hp)
              rw [needsS] at hl hn
              rename_i k3
              by_cases q : p.1 < 1
              · rw [if_neg (by omega), if_neg (by omega), if_neg (by omega), if_neg (by omega), if_neg (by omega)] at hn
                omega
              · rw [if_neg (by omega), if_neg (by omega), if_pos (by omega)] at hl
                omega
          · simp only [List.length_append, List.length_cons, List.length_nil]; omega
/-- The texts of all results behind some parts. -/
def texF : List Pt → Tx → Tx
  | [], l => l
  | p :: f, l => texF f (l.take (l.length - (needsS p).toNat) ++ [(txtS p (l.drop (l.length - (needsS p).toNat)), ())])
def textF (f : List Pt) : B := nthT (texF f []) 0
theorem texF_len : ∀ (f : List Pt) (l : Tx), chkN f l.length ≠ -1 → ((texF f l).length : Int) = chkN f l.length
  | [], l, _ => rfl
  | p :: f, l, h => by
    rw [chkN] at h ⊢
    by_cases c : rightP p = false ∨ (l.length : Int) < needsS p
    · rw [if_pos c] at h; exact absurd rfl h
    · rw [if_neg c] at h ⊢
      have hr : rightP p = true := by
        cases q : rightP p
        · exact absurd (.inl q) c
        · rfl
      have h0 := rightP_needs hr
      have h1 : ¬ (l.length : Int) < needsS p := fun z => c (.inr z)
      rw [texF]
      have e : ((l.take (l.length - (needsS p).toNat) ++ [(txtS p (l.drop (l.length - (needsS p).toNat)), ())] : Tx).length : Int) = (l.length : Int) + (1 - needsS p) := by
        rw [List.length_append, List.length_take]
        simp only [List.length_cons, List.length_nil]
        omega
      rw [← e] at h ⊢
      exact texF_len f _ h
/-- The variables of some parts. -/
def isV (p : Pt) : Bool := decide (p.1 = 2) || decide (p.1 = 3)
def vrF : List Pt → Tx → Tx
  | [], l => l
  | p :: f, l => vrF f (if isV p = true ∧ hasS l p.2.2.2.2.2.1 = false then l ++ [(p.2.2.2.2.2.1, ())] else l)
theorem vrF_len : ∀ (f : List Pt) (l : Tx), (vrF f l).length ≤ l.length + f.length
  | [], l => Nat.le_refl _
  | p :: f, l => by
    rw [vrF]
    have := vrF_len f (if isV p = true ∧ hasS l p.2.2.2.2.2.1 = false then l ++ [(p.2.2.2.2.2.1, ())] else l)
    split at this
    · rename_i c; rw [if_pos c]; simp only [List.length_append, List.length_cons, List.length_nil] at this ⊢; omega
    · rename_i c; rw [if_neg c]; simp only [List.length_cons]; omega
theorem part_kinds {p : Pt} (hp : rightP p = true) (k1 : ¬ p.1 = 1) (k2 : ¬ p.1 = 2) (k3 : ¬ p.1 = 3) : 4 ≤ p.1 ∧ p.1 ≤ 26 := by
  have hn := rightP_needs hp
  refine ⟨?_, ?_⟩
  · by_cases q : 1 ≤ p.1
    · omega
    · exfalso
      rw [needsS, if_neg (by omega), if_neg (by omega), if_neg (by omega), if_neg (by omega), if_neg (by omega)] at hn
      omega
  · by_cases q : p.1 ≤ 26
    · exact q
    · exfalso
      rw [needsS, if_neg (by omega), if_neg (by omega), if_neg (by omega), if_neg (by omega), if_neg (by omega)] at hn
      omega
theorem part_one {p : Pt} {l : Tx} (hl : (l.length : Int) = needsS p) (k : p.1 = 4 ∨ p.1 = 5) : 0 < l.length := by
  rw [needsS, if_neg (by omega), if_pos (by omega)] at hl; omega
theorem part_two {p : Pt} {l : Tx} (hl : (l.length : Int) = needsS p) (k6 : 6 ≤ p.1) (k17 : p.1 ≤ 17) : 1 < l.length := by
  rw [needsS, if_neg (by omega), if_neg (by omega), if_pos (by omega)] at hl; omega
theorem part_some {p : Pt} {l : Tx} (hp : rightP p = true) (hl : (l.length : Int) = needsS p) (k6 : 18 ≤ p.1) : 0 < l.length := by
  have hn := rightP_needs hp
  rw [needsS] at hl hn
  split at hl
  · omega
  · split at hl
    · omega
    · split at hl
      · omega
      · split at hl
        · omega
        · split at hl
          · omega
          · rename_i q1 q2 q3 q4 q5
            rw [if_neg q1, if_neg q2, if_neg q3, if_neg q4, if_neg q5] at hn
            omega
theorem kind_ok {k : Int} (h : 4 ≤ k ∧ k ≤ 26) : 0 ≤ k ∧ k < 27 := by omega
theorem kind6 {k : Int} (h : 4 ≤ k ∧ k ≤ 26) (k4 : ¬ k = 4) (k5 : ¬ k = 5) : 6 ≤ k := by omega
theorem kind18 {k : Int} (h : ¬ k ≤ 17) : 18 ≤ k := by omega
theorem kind17 {k : Int} (h : k < 18) : k ≤ 17 := by omega
theorem txt_1 {p : Pt} {l : Tx} (k1 : p.1 = 1) : txtS p l = textS p.2.1 p.2.2.1 p.2.2.2.1 p.2.2.2.2.1 := by rw [txtS, if_pos k1]
theorem txt_2 {p : Pt} {l : Tx} (k : p.1 = 2) : txtS p l = [63] ++ p.2.2.2.2.2.1 := by rw [txtS, if_neg (by omega), if_pos k]
theorem txt_3 {p : Pt} {l : Tx} (k : p.1 = 3) : txtS p l = boundT ++ p.2.2.2.2.2.1 ++ [32, 41] := by rw [txtS, if_neg (by omega), if_neg (by omega), if_pos k]
theorem txt_4 {p : Pt} {l : Tx} (k : p.1 = 4 ∨ p.1 = 5) : txtS p l = signT p.1 ++ [32] ++ nthT l 0 := by rw [txtS, if_neg (by omega), if_neg (by omega), if_neg (by omega), if_pos k]
theorem txt_6 {p : Pt} {l : Tx} (k : 6 ≤ p.1) (k2 : p.1 ≤ 17) : txtS p l = [40, 32] ++ nthT l 0 ++ [32] ++ signT p.1 ++ [32] ++ nthT l 1 ++ [32, 41] := by rw [txtS, if_neg (by omega), if_neg (by omega), if_neg (by omega), if_neg (by omega), if_pos k2]
theorem txt_18 {p : Pt} {l : Tx} (k : 18 ≤ p.1) : txtS p l = signT p.1 ++ [32, 40, 32] ++ argsT l ++ [32, 41] := by rw [txtS, if_neg (by omega), if_neg (by omega), if_neg (by omega), if_neg (by omega), if_neg (by omega)]
/-- How many results a part leaves alone. -/
def keepN (l : Tx) (p : Pt) : Nat := l.length - (needsS p).toNat
def nextT (l : Tx) (p : Pt) : Tx := l.take (keepN l p) ++ [(txtS p (l.drop (keepN l p)), ())]
theorem tex_step {f : List Pt} {l : Tx} {i : Nat} (hi : i < f.length) (hc : chkN (f.drop i) l.length = 1) (hb : lenT l ≤ 17000 * i) (hl : f.length ≤ 256) :
    rightP (getR ptS f (i : Int)) = true ∧ (l.length : Int) - needsS (getR ptS f (i : Int)) = (keepN l (getR ptS f (i : Int)) : Nat) ∧ keepN l (getR ptS f (i : Int)) ≤ l.length ∧
    ((l.drop (keepN l (getR ptS f (i : Int)))).length : Int) = needsS (getR ptS f (i : Int)) ∧ lenT (l.drop (keepN l (getR ptS f (i : Int)))) ≤ 1000000000000 ∧ l.length ≤ 5000000 ∧
    chkN (f.drop (i + 1)) (nextT l (getR ptS f (i : Int))).length = 1 ∧ lenT (nextT l (getR ptS f (i : Int))) ≤ 17000 * (i + 1) ∧ texF (f.drop i) l = texF (f.drop (i + 1)) (nextT l (getR ptS f (i : Int))) := by
  have hd := part_at hi
  generalize hp : getR ptS f (i : Int) = p at *
  rw [hd, chkN] at hc
  by_cases c : rightP p = false ∨ (l.length : Int) < needsS p
  · rw [if_pos c] at hc; cases hc
  · rw [if_neg c] at hc
    have hr : rightP p = true := by
      cases q : rightP p
      · exact absurd (.inl q) c
      · rfl
    have h0 := rightP_needs hr
    have h1 : ¬ (l.length : Int) < needsS p := fun z => c (.inr z)
    have hk : keepN l p ≤ l.length := Nat.sub_le _ _
    have hk2 : (l.length : Int) - needsS p = (keepN l p : Nat) := by simp only [keepN]; omega
    have hdl : ((l.drop (keepN l p)).length : Int) = needsS p := by rw [List.length_drop]; simp only [keepN]; omega
    have hs := lenT_split l (keepN l p)
    have hlen := len_lenT l
    have hx := txtS_len hr hdl
    refine ⟨hr, hk2, hk, hdl, by omega, by omega, ?_, ?_, ?_⟩
    · have e : ((nextT l p).length : Int) = (l.length : Int) + (1 - needsS p) := by
        simp only [nextT, List.length_append, List.length_take, List.length_cons, List.length_nil]
        omega
      rw [e]; exact hc
    · have e : lenT (nextT l p) = lenT (l.take (keepN l p)) + lenT ([(txtS p (l.drop (keepN l p)), ())] : Tx) := lenT_append _ _
      have e2 : lenT ([(txtS p (l.drop (keepN l p)), ())] : Tx) = (txtS p (l.drop (keepN l p))).length + 8 + 0 := rfl
      omega
    · rw [hd, texF]; rfl
theorem chk_one {f : List Pt} (h : checkS f = 0) : chkN f 0 = 1 := by
  have hl := checkS_len h
  rw [checkS, if_neg (by omega)] at h
  split at h
  · assumption
  · cases h
theorem tex_one {f : List Pt} (h : checkS f = 0) : (texF f []).length = 1 := by
  have h1 := chk_one h
  have := texF_len f [] (by show chkN f 0 ≠ -1; rw [h1]; decide)
  have h2 : chkN f (([] : Tx).length : Int) = 1 := h1
  rw [h2] at this
  omega
theorem wordT_eq {k : Int} (h : 18 ≤ k) : wordT k = signT k := by rw [wordT, if_neg (by omega)]
theorem right_or {k : Int} {a t l : B} (h : right k a t l = true) (e : k = 2) : t = [] ∨ l = [] := by
  subst e
  simp only [right, show ¬ (2 : Int) = 0 by decide, show ¬ (2 : Int) = 1 by decide, if_false] at h
  rw [if_neg (by decide)] at h
  simp only [if_true, Bool.and_eq_true, Bool.or_eq_true, List.isEmpty_iff] at h
  rcases h.1.2 with q | q
  · exact .inl q
  · exact .inr q.2
theorem vrF_in {p : Pt} {f : List Pt} {l : Tx} (h : isV p = true) (h2 : hasS l p.2.2.2.2.2.1 = false) : vrF (p :: f) l = vrF f (l ++ [(p.2.2.2.2.2.1, ())]) := by rw [vrF, if_pos ⟨h, h2⟩]
theorem vrF_out {p : Pt} {f : List Pt} {l : Tx} (h : isV p = true → hasS l p.2.2.2.2.2.1 = true) : vrF (p :: f) l = vrF f l := by
  rw [vrF, if_neg]
  rintro ⟨h1, h2⟩
  rw [h h1] at h2; cases h2
theorem isV_2 {p : Pt} (h : p.1 = 2) : isV p = true := by simp [isV, h]
theorem isV_3 {p : Pt} (h : p.1 = 3) : isV p = true := by simp [isV, h]
theorem isV_no {p : Pt} (h : ¬ p.1 = 2) (h2 : ¬ p.1 = 3) : ¬ isV p = true := by simp [isV, h, h2]
end Go.Proofs.Ytoopcfjmmhmamaa.Sp
end
