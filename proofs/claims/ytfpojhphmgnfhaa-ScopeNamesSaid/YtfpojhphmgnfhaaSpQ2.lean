/- Chapter 6: the parser ends; more fuel changes nothing. -/
import Derived.Test.YtfpojhphmgnfhaaSpM
section
namespace Go.Proofs.Ytfpojhphmgnfhaa.Sp
open Go.Proofs.Ytfpojhphmgnfhaa.Lg
end Go.Proofs.Ytfpojhphmgnfhaa.Sp
end

section
namespace Go.Proofs.Ytfpojhphmgnfhaa.Sp
open Go.Proofs.Ytfpojhphmgnfhaa.Lg
def noTm (p : Pt) : Bool := decide (p.2.1 = 0) && (decide (p.2.2.1 = []) && (decide (p.2.2.2.1 = []) && decide (p.2.2.2.2.1 = [])))
def rightP (p : Pt) : Bool :=
  if p.1 = 1 then right p.2.1 p.2.2.1 p.2.2.2.1 p.2.2.2.2.1 && (decide (p.2.1 = 1 ∨ p.2.1 = 2) && (decide (p.2.2.2.2.2.1 = []) && decide (p.2.2.2.2.2.2.1 = 0)))
  else if p.1 = 2 ∨ p.1 = 3 then isName p.2.2.2.2.2.1 && (noTm p && decide (p.2.2.2.2.2.2.1 = 0))
  else decide (0 ≤ needsS p) && (noTm p && (decide (p.2.2.2.2.2.1 = []) && decide (p.1 = 26 ∨ p.2.2.2.2.2.2.1 = 0)))
def szPt (p : Pt) : Prop := p.2.2.1.length ≤ 140737488355328 ∧ p.2.2.2.1.length ≤ 140737488355328 ∧ p.2.2.2.2.1.length ≤ 140737488355328 ∧ p.2.2.2.2.2.1.length ≤ 140737488355328
def allPt (l : List Pt) : Prop := ∀ p ∈ l, szPt p
/-- How many results are there behind some parts; -1: they are no formula's. -/
def chkN : List Pt → Int → Int
  | [], n => n
  | p :: l, n => if rightP p = false ∨ n < needsS p then -1 else chkN l (n + (1 - needsS p))
def checkS (f : List Pt) : Int := if 256 < f.length then 3 else if chkN f 0 = 1 then 0 else 2
theorem needs_le (p : Pt) : needsS p ≤ 16 := by
  unfold needsS; repeat' split
  all_goals omega
theorem rightP_needs {p : Pt} (h : rightP p = true) : 0 ≤ needsS p := by
  unfold rightP at h
  split at h
  · rename_i w; rw [needsS, if_pos (by omega)]; omega
  · split at h
    · rename_i w; rw [needsS, if_pos (by omega)]; omega
    · simp only [Bool.and_eq_true, decide_eq_true_eq] at h; exact h.1
theorem part_at {f : List Pt} {i : Nat} (h : i < f.length) : f.drop i = getR ptS f (i : Int) :: f.drop (i + 1) := by
  rw [List.drop_eq_getElem_cons h]
  simp [getR, List.getElem?_eq_getElem h]
theorem part_mem {f : List Pt} {i : Nat} (h : i < f.length) : getR ptS f (i : Int) ∈ f := by
  have : getR ptS f (i : Int) = f[i] := by simp [getR, List.getElem?_eq_getElem h]
  rw [this]; exact List.getElem_mem h
end Go.Proofs.Ytfpojhphmgnfhaa.Sp
end
