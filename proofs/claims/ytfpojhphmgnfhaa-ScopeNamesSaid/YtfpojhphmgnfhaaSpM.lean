/- Chapter 5: the words of the text that joins words. -/
import Derived.Test.YtfpojhphmgnfhaaSpL
section
namespace Go.Proofs.Ytfpojhphmgnfhaa.Sp
open Go.Proofs.Ytfpojhphmgnfhaa.Lg
end Go.Proofs.Ytfpojhphmgnfhaa.Sp
namespace Go.Proofs.Ytfpojhphmgnfhaa.Sp
open Go.Proofs.Ytfpojhphmgnfhaa.Lg
end Go.Proofs.Ytfpojhphmgnfhaa.Sp
end

section
namespace Go.Proofs.Ytfpojhphmgnfhaa.Sp
open Go.Proofs.Ytfpojhphmgnfhaa.Lg
abbrev tkS : List Sh := [.int .i64, .str, .int .i64, .str, .str, .str, .int .i64]
abbrev ptS : List Sh := [.int .i64, .int .i64, .str, .str, .str, .str, .int .i64]
abbrev Pt := Int × Int × B × B × B × B × Int × Unit
abbrev PSt := List Tok × Int × List Pt × Bool × Unit
abbrev psK : List KC := [.v (.sl tkS), .v (.int .i64), .a ptS, .v .bool]
example : KCs psK = PSt := rfl
def needsS (p : Pt) : Int :=
  if 1 ≤ p.1 ∧ p.1 ≤ 3 then 0
  else if p.1 = 4 ∨ p.1 = 5 ∨ (18 ≤ p.1 ∧ p.1 ≤ 23) then 1
  else if (6 ≤ p.1 ∧ p.1 ≤ 17) ∨ p.1 = 24 then 2
  else if p.1 = 25 then 3
  else if p.1 = 26 ∧ 1 ≤ p.2.2.2.2.2.2.1 ∧ p.2.2.2.2.2.2.1 ≤ 16 then p.2.2.2.2.2.2.1 else -1
end Go.Proofs.Ytfpojhphmgnfhaa.Sp
end
