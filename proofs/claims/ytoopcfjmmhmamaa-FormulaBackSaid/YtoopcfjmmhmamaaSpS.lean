/- Chapter 6: what may be a formula; where a part's own begin. -/
import Derived.Test.YtoopcfjmmhmamaaSpQ2
namespace Go.Proofs.Ytoopcfjmmhmamaa.Sp
open Go.Proofs.Ytoopcfjmmhmamaa.Lg
def noTm (p : Pt) : Bool := decide (p.2.1 = 0) && (decide (p.2.2.1 = []) && (decide (p.2.2.2.1 = []) && decide (p.2.2.2.2.1 = [])))
def rightP (p : Pt) : Bool :=
  if p.1 = 1 then right p.2.1 p.2.2.1 p.2.2.2.1 p.2.2.2.2.1 && (decide (p.2.1 = 1 ∨ p.2.1 = 2) && (decide (p.2.2.2.2.2.1 = []) && decide (p.2.2.2.2.2.2.1 = 0)))
  else if p.1 = 2 ∨ p.1 = 3 then isName p.2.2.2.2.2.1 && (noTm p && decide (p.2.2.2.2.2.2.1 = 0))
  else decide (0 ≤ needsS p) && (noTm p && (decide (p.2.2.2.2.2.1 = []) && decide (p.1 = 26 ∨ p.2.2.2.2.2.2.1 = 0)))
def szPt (p : Pt) : Prop := p.2.2.1.length ≤ 140737488355328 ∧ p.2.2.2.1.length ≤ 140737488355328 ∧ p.2.2.2.2.1.length ≤ 140737488355328 ∧ p.2.2.2.2.2.1.length ≤ 140737488355328
def allPt (l : List Pt) : Prop := ∀ p ∈ l, szPt p
/-- How many results are there behind some parts; -1: they are no formula's. -/
def chkN : List Pt → Int → Int
  | [], n => n
  | p :: l, n => if rightP p = false ∨ n < needsS p then -1 else chkN l (n + (1 - needsS p))
def checkS (f : List Pt) : Int := if 256 < f.length then 3 else if chkN f 0 = 1 then 0 else 2
theorem needs_le (p : Pt) : needsS p ≤ 16 := by
  unfold needsS; repeat' split
  all_goals omega
theorem needs_ge (p : Pt) : -1 ≤ needsS p := by
  unfold needsS; repeat' split
  all_goals omega
theorem rightP_needs {p : Pt} (h : rightP p = true) : 0 ≤ needsS p := by
  unfold rightP at h
  split at h
  · rename_i w; rw [needsS, if_pos (by omega)]; omega
  · split at h
    · rename_i w; rw [needsS, if_pos (by omega)]; omega
    · simp only [Bool.and_eq_true, decide_eq_true_eq] at h; exact h.1
def parseS (l : List Tok) (a : Int) : List Pt × Int × Int :=
  if a < 0 ∨ (l.length : Int) < a then ([], 0, 1)
  else if (pfW 0 (l, a, [], false, ())).2.2.2.1 = true then ([], 0, 2)
  else if checkS (pfW 0 (l, a, [], false, ())).2.2.1 = 0 then ((pfW 0 (l, a, [], false, ())).2.2.1, (pfW 0 (l, a, [], false, ())).2.1, 0)
  else ([], 0, checkS (pfW 0 (l, a, [], false, ())).2.2.1)
/-- Where the parts begin whose result a part makes; -1: nowhere. -/
def fromN (f : List Pt) : Nat → Int → Int
  | 0, k => if k + (needsS (getR ptS f 0) - 1) = 0 then 0 else -1
  | i + 1, k => if k + (needsS (getR ptS f (i + 1 : Nat)) - 1) = 0 then ((i + 1 : Nat) : Int) else fromN f i (k + (needsS (getR ptS f (i + 1 : Nat)) - 1))
def fromS (f : List Pt) (i : Int) : Int × Int := if checkS f = 0 then (if i < 0 ∨ (f.length : Int) ≤ i then (0, 1) else (fromN f i.toNat 1, 0)) else (0, checkS f)
theorem checkS_cases (f : List Pt) : checkS f = 0 ∨ checkS f = 2 ∨ checkS f = 3 := by
  unfold checkS; repeat' split
  all_goals simp
theorem part_at {f : List Pt} {i : Nat} (h : i < f.length) : f.drop i = getR ptS f (i : Int) :: f.drop (i + 1) := by
  rw [List.drop_eq_getElem_cons h]
  simp [getR, List.getElem?_eq_getElem h]
theorem part_mem {f : List Pt} {i : Nat} (h : i < f.length) : getR ptS f (i : Int) ∈ f := by
  have : getR ptS f (i : Int) = f[i] := by simp [getR, List.getElem?_eq_getElem h]
  rw [this]; exact List.getElem_mem h
theorem checkS_len {f : List Pt} (h : checkS f = 0) : f.length ≤ 256 := by
  unfold checkS at h
  split at h
  · cases h
  · omega
def wordT (k : Int) : B := if k < 18 then [] else signT k
theorem signT_no {k : Int} (h : k < 4 ∨ 26 < k) : signT k = [] := by
  unfold signT
  repeat (rw [if_neg (by omega)])
theorem signT_word {k : Int} (h : k < 4 ∨ 17 < k) : wordT k = signT k := by
  unfold wordT
  split
  · rw [signT_no (by omega)]
  · rfl
/-- The document's: the last place from which on the parts up to i are a formula; -1: none. -/
def findAt (f : List Pt) (i : Nat) : Nat → Int
  | 0 => if checkS ((f.take (i + 1)).drop 0) = 0 then 0 else -1
  | a + 1 => if checkS ((f.take (i + 1)).drop (a + 1)) = 0 then ((a + 1 : Nat) : Int) else findAt f i a
def fromR (f : List Pt) (i : Int) : Int := if findAt f i.toNat i.toNat < 0 then 0 else findAt f i.toNat i.toNat
theorem allPt_sub {f : List Pt} (h : allPt f) (a b : Nat) : allPt ((f.take b).drop a) := fun p hp => h p (List.mem_of_mem_take (List.mem_of_mem_drop hp))
end Go.Proofs.Ytoopcfjmmhmamaa.Sp
