/- Chapter 5 (words): plain functions. -/
import Derived.Test.YtfpojhphmgnfhaaSpD
import Derived.Test.YtfpojhphmgnfhaaLgF
section
namespace Go.Proofs.Ytfpojhphmgnfhaa.Sp
open Go.Proofs.Ytfpojhphmgnfhaa.Lg
/-- A word: its kind, its text, a term, its place. -/
abbrev Tok := Int × B × Int × B × B × B × Int × Unit
def two (s : B) : Bool := s.take 2 == [60, 61] || s.take 2 == [62, 61] || s.take 2 == [33, 61] || s.take 2 == [38, 38] || s.take 2 == [124, 124]
end Go.Proofs.Ytfpojhphmgnfhaa.Sp
namespace Go.Proofs.Ytfpojhphmgnfhaa.Sp
open Go.Proofs.Ytfpojhphmgnfhaa.Lg
end Go.Proofs.Ytfpojhphmgnfhaa.Sp
namespace Go.Proofs.Ytfpojhphmgnfhaa.Sp
open Go.Proofs.Ytfpojhphmgnfhaa.Lg
end Go.Proofs.Ytfpojhphmgnfhaa.Sp
namespace Go.Proofs.Ytfpojhphmgnfhaa.Sp
open Go.Proofs.Ytfpojhphmgnfhaa.Lg
end Go.Proofs.Ytfpojhphmgnfhaa.Sp
namespace Go.Proofs.Ytfpojhphmgnfhaa.Sp
open Go.Proofs.Ytfpojhphmgnfhaa.Lg
end Go.Proofs.Ytfpojhphmgnfhaa.Sp
namespace Go.Proofs.Ytfpojhphmgnfhaa.Sp
open Go.Proofs.Ytfpojhphmgnfhaa.Lg
end Go.Proofs.Ytfpojhphmgnfhaa.Sp
namespace Go.Proofs.Ytfpojhphmgnfhaa.Sp
end Go.Proofs.Ytfpojhphmgnfhaa.Sp
namespace Go.Proofs.Ytfpojhphmgnfhaa.Sp
open Go.Proofs.Ytfpojhphmgnfhaa.Lg
end Go.Proofs.Ytfpojhphmgnfhaa.Sp
end

section
set_option maxRecDepth 100000
namespace Go.Proofs.Ytfpojhphmgnfhaa.Sp
open Go.Proofs.Ytfpojhphmgnfhaa.Lg Go
open Go.Lib
/- Chapter 3: triples and their texts. -/
abbrev T3 := Int × B × B × B × Int × B × B × B × Int × B × B × B × Unit
def tS (t : T3) : TR := (t.1, t.2.1, t.2.2.1, t.2.2.2.1, ())
def tP (t : T3) : TR := (t.2.2.2.2.1, t.2.2.2.2.2.1, t.2.2.2.2.2.2.1, t.2.2.2.2.2.2.2.1, ())
def tO (t : T3) : TR := (t.2.2.2.2.2.2.2.2.1, t.2.2.2.2.2.2.2.2.2.1, t.2.2.2.2.2.2.2.2.2.2.1, t.2.2.2.2.2.2.2.2.2.2.2.1, ())
def all3 (t : T3) : Bool := rightT (tS t) && rightT (tP t) && rightT (tO t)
def patK (a b c : Int) : Bool := (decide (a = 1) || decide (a = 4)) && (decide (b = 1) || decide (b = 4)) && (decide (c = 1) || decide (c = 2) || decide (c = 4))
def pat (t : T3) : Bool := all3 t && patK t.1 t.2.2.2.2.1 t.2.2.2.2.2.2.2.2.1
def sz3 (n : Nat) (t : T3) : Prop := (t.2.1.length ≤ n ∧ t.2.2.1.length ≤ n ∧ t.2.2.2.1.length ≤ n) ∧ (t.2.2.2.2.2.1.length ≤ n ∧ t.2.2.2.2.2.2.1.length ≤ n ∧ t.2.2.2.2.2.2.2.1.length ≤ n) ∧ (t.2.2.2.2.2.2.2.2.2.1.length ≤ n ∧ t.2.2.2.2.2.2.2.2.2.2.1.length ≤ n ∧ t.2.2.2.2.2.2.2.2.2.2.2.1.length ≤ n)
theorem patK_a {a b c : Int} (h1 : ¬ a = 1) (h2 : ¬ a = 4) : patK a b c = false := by simp [patK, h1, h2]
theorem patK_b {a b c : Int} (h1 : ¬ b = 1) (h2 : ¬ b = 4) : patK a b c = false := by simp [patK, h1, h2]
theorem patK_t {a b c : Int} (h1 : a = 1 ∨ a = 4) (h2 : b = 1 ∨ b = 4) : patK a b c = (decide (c = 1) || decide (c = 2) || decide (c = 4)) := by
  rcases h1 with h1 | h1 <;> rcases h2 with h2 | h2 <;> simp [patK, h1, h2]
theorem patK_1 {a b c : Int} (h1 : a = 1 ∨ a = 4) (h2 : b = 1 ∨ b = 4) (h3 : c = 1) : patK a b c = true := by rw [patK_t h1 h2]; simp [h3]
theorem patK_2 {a b c : Int} (h1 : a = 1 ∨ a = 4) (h2 : b = 1 ∨ b = 4) (h3 : c = 2) : patK a b c = true := by rw [patK_t h1 h2]; simp [h3]
theorem patK_e {a b c : Int} (h1 : a = 1 ∨ a = 4) (h2 : b = 1 ∨ b = 4) (h3 : ¬ c = 1) (h4 : ¬ c = 2) : patK a b c = decide (c = 4) := by rw [patK_t h1 h2]; simp [h3, h4]
theorem pat_of {t : T3} (q : all3 t = true) : pat t = patK t.1 t.2.2.2.2.1 t.2.2.2.2.2.2.2.2.1 := by simp [pat, q]
theorem pat_no {t : T3} (q : all3 t = false) : pat t = false := by simp [pat, q]
theorem all3_t {t : T3} (h1 : right t.1 t.2.1 t.2.2.1 t.2.2.2.1 = true) (h2 : right t.2.2.2.2.1 t.2.2.2.2.2.1 t.2.2.2.2.2.2.1 t.2.2.2.2.2.2.2.1 = true) (h3 : right t.2.2.2.2.2.2.2.2.1 t.2.2.2.2.2.2.2.2.2.1 t.2.2.2.2.2.2.2.2.2.2.1 t.2.2.2.2.2.2.2.2.2.2.2.1 = true) : all3 t = true := by
  simp [all3, rightT, tS, tP, tO, h1, h2, h3]
theorem all3_1 {t : T3} (h1 : right t.1 t.2.1 t.2.2.1 t.2.2.2.1 = false) : all3 t = false := by simp [all3, rightT, tS, h1]
theorem all3_2 {t : T3} (h1 : right t.2.2.2.2.1 t.2.2.2.2.2.1 t.2.2.2.2.2.2.1 t.2.2.2.2.2.2.2.1 = false) : all3 t = false := by simp [all3, rightT, tP, h1]
theorem all3_3 {t : T3} (h1 : right t.2.2.2.2.2.2.2.2.1 t.2.2.2.2.2.2.2.2.2.1 t.2.2.2.2.2.2.2.2.2.2.1 t.2.2.2.2.2.2.2.2.2.2.2.1 = false) : all3 t = false := by simp [all3, rightT, tO, h1]
theorem right_k {k : Int} {a t l : B} (h : right k a t l = true) : k = 0 ∨ k = 1 ∨ k = 2 ∨ k = 3 ∨ k = 4 := by
  unfold right at h
  split at h
  · omega
  · split at h
    · omega
    · split at h
      · omega
      · split at h
        · omega
        · cases h
theorem patK_n {a b c : Int} (h : c = 0 ∨ c = 3) : patK a b c = false := by rcases h with h | h <;> simp [patK, h]
theorem patK_y {a b c : Int} (h1 : a = 1 ∨ a = 4) (h2 : b = 1 ∨ b = 4) (h : c = 0 ∨ c = 1 ∨ c = 2 ∨ c = 3 ∨ c = 4) (k0 : ¬ c = 0) (k3 : ¬ c = 3) : patK a b c = true := by
  rw [patK_t h1 h2]; simp; omega
theorem all3_o {t : T3} (h : all3 t = true) : right t.2.2.2.2.2.2.2.2.1 t.2.2.2.2.2.2.2.2.2.1 t.2.2.2.2.2.2.2.2.2.2.1 t.2.2.2.2.2.2.2.2.2.2.2.1 = true := by
  simp only [all3, rightT, tS, tP, tO, Bool.and_eq_true] at h
  exact h.2
theorem if02 {b : Bool} (h : ¬ (if b = true then (0 : Int) else 2) = 0) : b = false := by cases b <;> simp_all
theorem if00 {b : Bool} (h : (if b = true then (0 : Int) else 2) = 0) : b = true := by cases b <;> simp_all
def hasS (l : List (RowE [.str])) (a : B) : Bool := l.any fun r => r.1 == a
def moreS (l : List (RowE [.str])) (x : TR) : List (RowE [.str]) := if x.1 = 4 ∧ hasS l x.2.1 = false then l ++ [(x.2.1, ())] else l
def varsS (t : T3) : List (RowE [.str]) := moreS (moreS (moreS [] (tS t)) (tP t)) (tO t)
def sameT1 : List (RowE [.str]) → List (RowE [.str]) → Bool
  | x :: a, y :: b => (x.1 == y.1) && sameT1 a b
  | _, _ => true
theorem sameT1_refl : ∀ a : List (RowE [.str]), sameT1 a a = true
  | [] => rfl
  | x :: a => by simp [sameT1, sameT1_refl a]
def sameX (a b : List (RowE [.str])) : Bool := decide (a.length = b.length) && sameT1 a b
end Go.Proofs.Ytfpojhphmgnfhaa.Sp
end
