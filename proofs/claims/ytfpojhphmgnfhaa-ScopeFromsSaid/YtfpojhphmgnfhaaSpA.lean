/- Chapter 1 (terms): what the program's functions and the document's are, as plain functions. -/
import Derived.Test.YtfpojhphmgnfhaaLgE1
namespace Go.Proofs.Ytfpojhphmgnfhaa.Sp
open Go.Proofs.Ytfpojhphmgnfhaa.Lg
abbrev B := List UInt8
def letterI (c : Int) : Bool := (decide (97 ≤ c) && decide (c ≤ 122)) || (decide (65 ≤ c) && decide (c ≤ 90))
def digitI (c : Int) : Bool := decide (48 ≤ c) && decide (c ≤ 57)
def nameI (c : Int) : Bool := letterI c || digitI c || decide (c = 95)
def badI (c : Int) : Bool := decide (c = 60) || decide (c = 62) || decide (c = 34) || decide (c = 123) || decide (c = 125) || decide (c = 124) || decide (c = 94) || decide (c = 96) || decide (c = 92)
def iriI (c : Int) : Bool := !(badI c) && decide (33 ≤ c) && decide (c ≤ 126)
def textI (c : Int) : Bool := (decide (32 ≤ c) && decide (c ≤ 126)) || decide (c = 10) || decide (c = 9)
def lowI (c : Int) : Bool := decide (97 ≤ c) && decide (c ≤ 122)
def u (b : UInt8) : Int := (b.toNat : Nat)
def allI (p : Int → Bool) (s : B) : Bool := s.all fun b => p (u b)
def isIri (s : B) : Bool := !s.isEmpty && decide (s.length ≤ 4096) && allI iriI s
def isText (s : B) : Bool := decide (s.length ≤ 4096) && allI textI s
def isLang (s : B) : Bool := !s.isEmpty && decide (s.length ≤ 8) && allI lowI s
/-- How many bytes of a name, at most k. -/
def nameRun : Nat → B → Nat
  | 0, _ => 0
  | _ + 1, [] => 0
  | k + 1, b :: s => if nameI (u b) then nameRun k s + 1 else 0
def named : B → Nat
  | [] => 0
  | b :: s => if letterI (u b) then nameRun 31 s + 1 else 0
def isName (s : B) : Bool := !s.isEmpty && decide (named s = s.length)
/-- Why a term is not right (0: it is). -/
def right (k : Int) (a t l : B) : Bool :=
  if k = 0 then t.isEmpty && l.isEmpty && a.isEmpty
  else if k = 1 then t.isEmpty && l.isEmpty && isIri a
  else if k = 3 ∨ k = 4 then t.isEmpty && l.isEmpty && isName a
  else if k = 2 then isText a && (t.isEmpty || isIri t && l.isEmpty) && (l.isEmpty || isLang l)
  else false
def betw (a b c : Int) : Bool := decide (b ≤ a) && decide (a ≤ c)
def isIn (c : Int) (s : B) : Bool := s.any fun b => decide (c = u b)
def kindI (k c : Int) : Bool := if k = 1 then iriI c else if k = 2 then textI c else if k = 3 then nameI c else if k = 4 then lowI c else false
theorem isIn_bad (c : Int) : isIn c [60, 62, 34, 123, 125, 124, 94, 96, 92] = badI c := by
  simp [isIn, badI, u, Bool.or_assoc]
  rfl
theorem kindI2 : kindI 2 = textI := by funext c; simp [kindI]
theorem kindI1 : kindI 1 = iriI := by funext c; simp [kindI]
theorem kindI3 : kindI 3 = nameI := by funext c; simp [kindI]
theorem kindI4 : kindI 4 = lowI := by funext c; simp [kindI]
theorem nameRun_all : ∀ (k : Nat) (s : B), (nameRun k s = s.length ↔ s.length ≤ k ∧ allI nameI s = true)
  | 0, s => by cases s <;> simp [nameRun, allI]
  | k + 1, [] => by simp [nameRun, allI]
  | k + 1, b :: s => by
    have := nameRun_all k s
    simp only [nameRun, List.length_cons, allI, List.all_cons, Bool.and_eq_true] at this ⊢
    by_cases h : nameI (u b) = true
    · rw [if_pos h]; simp [h, this, allI]
    · rw [if_neg h]; simp [h]
theorem letter_name {c : Int} (h : letterI c = true) : nameI c = true := by simp [nameI, h]
theorem isName_eq (s : B) : isName s = (decide (1 ≤ s.length) && decide (s.length ≤ 32) && allI (kindI 3) s && (match s with | [] => false | b :: _ => letterI (u b))) := by
  rw [kindI3]
  cases s with
  | nil => simp [isName]
  | cons b s =>
    have h31 := nameRun_all 31 s
    have hn : named (b :: s) = if letterI (u b) then nameRun 31 s + 1 else 0 := rfl
    have e : (isName (b :: s) = true) ↔ named (b :: s) = s.length + 1 := by simp [isName]
    rw [Bool.eq_iff_iff, e, hn]
    by_cases h : letterI (u b) = true
    · rw [if_pos h]
      simp only [List.length_cons, Bool.and_eq_true, decide_eq_true_eq, h, and_true]
      have ha : allI nameI (b :: s) = allI nameI s := by simp [allI, letter_name h]
      rw [ha]
      constructor
      · intro q
        have := h31.1 (by omega)
        exact ⟨⟨by omega, by omega⟩, this.2⟩
      · intro q
        have := h31.2 ⟨by omega, q.2⟩
        omega
    · rw [if_neg h]; simp [h]
def Big : Nat := 1152921504606846976
end Go.Proofs.Ytfpojhphmgnfhaa.Sp
