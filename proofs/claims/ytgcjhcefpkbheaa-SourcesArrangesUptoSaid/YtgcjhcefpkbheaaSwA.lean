/- Chapter 20, plain: groups of patterns. -/
import Derived.Test.YtgcjhcefpkbheaaSpL
import Derived.Test.YtgcjhcefpkbheaaLgF
namespace Go.Proofs.Ytgcjhcefpkbheaa.Sp
open Go.Proofs.Ytgcjhcefpkbheaa.Lg Go
abbrev tpS : List Sh := [.int .i64, .str, .str, .str, .int .i64, .str, .str, .str, .int .i64, .str, .str, .str]
abbrev ntS : List Sh := [.int .i64]
abbrev grS : List Sh := [.sl [.int .i64], .sl [.int .i64]]
abbrev Gr := RowE grS
abbrev Nt := RowE ntS
/-- A group's variables. -/
def varsG (l : List T3) : List Nt → List (RowE [.str])
  | [] => []
  | i :: r => (if 0 ≤ (i.1 : Int) ∧ (i.1 : Int) < l.length then varsS (getR tpS l i.1) else []) ++ varsG l r
def touchP (l : List T3) (a b : Gr) : Bool := (varsG l a.1).any fun v => hasS (varsG l b.1) v.1
def firstF (p : RowE [.str] → Bool) : List (RowE [.str]) → Int → Int
  | [], _ => -1
  | x :: l, i => if p x = true then i else firstF p l (i + 1)
def firstG (p : Gr → Bool) : List Gr → Int → Int
  | [], _ => -1
  | x :: l, i => if p x = true then i else firstG p l (i + 1)
theorem firstF_ge (p : RowE [.str] → Bool) : ∀ (l : List (RowE [.str])) (i : Int), 0 ≤ i → decide (firstF p l i ≥ 0) = l.any p
  | [], i, h => rfl
  | x :: l, i, h => by
    rw [firstF, List.any_cons]
    by_cases q : p x = true
    · rw [if_pos q, q, Bool.true_or]; exact decide_eq_true h
    · rw [if_neg q, firstF_ge p l (i + 1) (by omega)]
      simp only [Bool.not_eq_true] at q
      rw [q, Bool.false_or]
theorem firstG_ge (p : Gr → Bool) : ∀ (l : List Gr) (i : Int), 0 ≤ i → decide (firstG p l i ≥ 0) = l.any p
  | [], i, h => rfl
  | x :: l, i, h => by
    rw [firstG, List.any_cons]
    by_cases q : p x = true
    · rw [if_pos q, q, Bool.true_or]; exact decide_eq_true h
    · rw [if_neg q, firstG_ge p l (i + 1) (by omega)]
      simp only [Bool.not_eq_true] at q
      rw [q, Bool.false_or]
theorem firstF_neg (p : RowE [.str] → Bool) : ∀ (l : List (RowE [.str])) (i : Int), 0 ≤ i → ¬ firstF p l i ≥ 0 → firstF p l i = -1
  | [], i, _, _ => rfl
  | x :: l, i, h, q => by
    rw [firstF] at q ⊢
    by_cases e : p x = true
    · rw [if_pos e] at q; omega
    · rw [if_neg e] at q ⊢; exact firstF_neg p l (i + 1) (by omega) q
theorem firstG_neg (p : Gr → Bool) : ∀ (l : List Gr) (i : Int), 0 ≤ i → ¬ firstG p l i ≥ 0 → firstG p l i = -1
  | [], i, _, _ => rfl
  | x :: l, i, h, q => by
    rw [firstG] at q ⊢
    by_cases e : p x = true
    · rw [if_pos e] at q; omega
    · rw [if_neg e] at q ⊢; exact firstG_neg p l (i + 1) (by omega) q
def szTs (l : List T3) : Prop := l.length ≤ 2000000
def szGr (g : Gr) : Prop := (g.1 : List Nt).length ≤ 2000000
def szGp (g : Gr) : Prop := (g.1 : List Nt).length ≤ 2000000 ∧ (g.2.1 : List Nt).length ≤ 2000000
theorem varsG_len (l : List T3) : ∀ (r : List Nt), r.length ≤ 2000000 → (varsG l r).length ≤ 140737488355328 := by
  have key : ∀ (r : List Nt), (varsG l r).length ≤ 3 * r.length := by
    intro r
    induction r with
    | nil => simp [varsG]
    | cons i r ih =>
      simp only [varsG, List.length_append, List.length_cons]
      split
      · have := varsS_len (getR tpS l i.1); omega
      · simp only [List.length_nil]; omega
  intro r h
  have := key r
  omega
end Go.Proofs.Ytgcjhcefpkbheaa.Sp
