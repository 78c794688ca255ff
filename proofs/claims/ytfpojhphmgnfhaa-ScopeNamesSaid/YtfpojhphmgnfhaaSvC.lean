/- Chapter 7, plain: what each operation brings. -/
import Derived.Test.YtfpojhphmgnfhaaSvB
namespace Go.Proofs.Ytfpojhphmgnfhaa.Sp
open Go.Proofs.Ytfpojhphmgnfhaa.Lg Go
abbrev Rs7 := RowE rsS
def svc7 (x : Rs7) : Bool := x.2.2.1
def anyS (l : List Rs7) : Bool := l.any svc7
def at7 (l : List Rs7) (n : Nat) : Rs7 := getR rsS l (n : Int)
/-- The results that an operation needs. -/
def nd7 (o : Op) (l : List Rs7) : List Rs7 := l.drop (l.length - (needsK o.1).toNat)
def names7 (o : Op) (l : List Rs7) : M7 :=
  if needsK o.1 = 0 then leafS o else if needsK o.1 = 1 then oneS o (at7 l (l.length - 1)).1 else twoS o (at7 l (l.length - 2)).1 (at7 l (l.length - 1)).1
def from7 (i : Int) (o : Op) (l : List Rs7) : Int := if needsK o.1 = 0 then i else (at7 l (l.length - (needsK o.1).toNat)).2.1
def newR (i : Int) (o : Op) (l : List Rs7) : Rs7 := (names7 o l, from7 i o l, (o.1 == 9) || anyS (nd7 o l), ())
def clash7 (o : Op) (l : List Rs7) : Bool := decide (needsK o.1 = 1) && (decide (o.1 = 8) && mh7 (at7 l (l.length - 1)).1 o.2.2.2.2.2.1)
def ok7 (o : Op) (l : List Rs7) : Bool := rightO o && decide (needsK o.1 ≤ (l.length : Int)) && !(decide (o.1 = 9) && anyS (nd7 o l))
def runR : Int → List Op → List Rs7 → List Rs7 → Int → Option (List Rs7 × List Rs7 × Int)
  | _, [], out, l, bad => some (out, l, bad)
  | i, o :: c, out, l, bad => if ok7 o l then runR (i + 1) c (out ++ [newR i o l]) (l.take (l.length - (needsK o.1).toNat) ++ [newR i o l]) (if clash7 o l then 6 else bad) else none
def resS (c : List Op) : List Rs7 × Int :=
  if 128 < c.length then ([], 3) else match runR 0 c [] [] 0 with
    | none => ([], 2)
    | some (out, l, bad) => if l.length = 1 then (out, bad) else ([], 2)
theorem needsK_le (k : Int) : needsK k ≤ 2 ∧ -1 ≤ needsK k := by
  unfold needsK; split
  · omega
  · split
    · omega
    · split <;> omega
theorem srt_names (o : Op) (l : List Rs7) (h : ∀ x ∈ l, Srt7 x.1) : Srt7 (names7 o l) := by
  unfold names7
  split
  · exact srt_leaf o
  · split
    · exact srt_one o _
    · refine srt_two o _ _ ?_
      unfold at7 getR
      cases he : l[((l.length - 2 : Nat) : Int).toNat]? with
      | none => exact srt_nil
      | some x => exact h x (List.mem_of_getElem? he)
theorem right_needs {o : Op} (h : rightO o = true) : 0 ≤ needsK o.1 := by
  obtain ⟨(k : Int), tr, vs, rows, f, (name : B), (sil : Bool), _⟩ := o
  have : 1 ≤ k ∧ k ≤ 9 := by
    by_cases q : 1 ≤ k ∧ k ≤ 9
    · exact q
    · exfalso
      unfold rightO at h
      dsimp only at h
      rw [if_neg (show ¬ k = 1 by omega), if_neg (show ¬ k = 2 by omega), if_neg (show ¬ (k = 3 ∨ k = 4 ∨ k = 6) by omega), if_neg (show ¬ k = 5 by omega), if_neg (show ¬ k = 7 by omega), if_neg (show ¬ k = 8 by omega), if_neg (show ¬ k = 9 by omega)] at h
      cases h
  show 0 ≤ needsK k
  unfold needsK
  split
  · omega
  · split
    · omega
    · split <;> omega
theorem right_full {o : Op} (h : rightO o = true) : ∀ r ∈ o.2.2.2.1, (r.1 : List TR).length = (o.2.2.1 : List (RowE [.str])).length := by
  obtain ⟨(k : Int), tr, (vs : List (RowE [.str])), (rows : List (RowE [.sl [.int .i64, .str, .str, .str]])), f, (name : B), (sil : Bool), _⟩ := o
  intro r hr
  have hr : r ∈ rows := hr
  show (r.1 : List TR).length = vs.length
  by_cases k2 : k = 2
  · subst k2
    have h : (decide (List.length tr = 0) && decide (List.length f = 0) && (decide (name = []) && !sil) && tableS vs rows) = true := h
    simp only [Bool.and_eq_true, tableS, List.all_eq_true] at h
    have := h.2.2 r hr
    simp only [rowS, Bool.and_eq_true, decide_eq_true_eq] at this
    exact this.1
  · exfalso
    have h0 : (decide (rows.length = 0)) = true := by
      cases e : decide (rows.length = 0)
      · exfalso
        unfold rightO at h
        dsimp only at h
        rw [e] at h
        simp only [Bool.and_false, Bool.false_and, if_neg k2] at h
        split at h <;> simp at h
      · rfl
    have := List.length_eq_zero_iff.1 (of_decide_eq_true h0)
    rw [this] at hr; cases hr
theorem srt_at {l : List Rs7} (h : ∀ x ∈ l, Srt7 x.1) (i : Nat) : Srt7 (at7 l i).1 := by
  unfold at7 getR
  cases he : l[((i : Nat) : Int).toNat]? with
  | none => exact srt_nil
  | some x => exact h x (List.mem_of_getElem? he)
end Go.Proofs.Ytfpojhphmgnfhaa.Sp
