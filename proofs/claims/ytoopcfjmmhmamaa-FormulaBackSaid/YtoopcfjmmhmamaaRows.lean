/-
  No cell of these rows narrows 'for every input' (looked for: loops, veiled, ifaces, maps, wideKeys, modest, calm, conditions, laid).
  DERIVED. THE GIVEN ROWS OF THIS SEAT. 4 by the template 'for every input the law returns true; each argument reads behind the call as it read before'; 0 by the template 'total and deterministic' (their statements: YtoopcfjmmhmamaaTotals.lean).
  GIVEN WITH THE SEED: the statements are not yours to turn. If you find one false, say at which input.
  Laid BY PROGRAM, IN A SANDBOX (cutbox-rows.mjs): the forced cells as the released guide's own fill.sh prints them over the translation b41d3b339e9f3492… (all of the seat's roots in one cut). By AI agents, Wed Nov 11 2026. No macro, syntax, notation, axiom, sorry.
-/
import Derived.Test.YtoopcfjmmhmamaaChecked
import GoSem.Claim
import GoSem.ClaimJoined
import GoSem.ClaimMapViews
import Derived.JoinedTies
import Derived.KernelRfl
namespace Go.Proofs.Ytoopcfjmmhmamaa
/- THE CELL 'sum', in the pinned program and in every row, IS THE sha256 OF THE DUMP (.gsa) THAT YtoopcfjmmhmamaaProg.lean LOADS. Nothing in Lean hashes anything: it is a label: what it is worth is what the hold of that sum in a sandbox is worth. -/
noncomputable def Try.pinned : Pinned := { name := "ytoopcfjmmhmamaa", sum := "b41d3b339e9f3492cbefe6e98c28ff769a350f4ca86daffed1c52b9fbbbb27cf", checked := Try.checked }
namespace Rows
def none {H : Type} : Left H := { results := [], args := [] }

/-- 'legationlaw06.FormulaBinds': WHATEVER THE INPUT: true; the input reads as it did. -/
def formulaBindsSpec : ChangeSpec := { name := "formulaBinds", fn := fun _ => fun
  | [d1, d2] => { results := [.lit (.bool true)], args := [d1, d2] }
  | _ => none }
def formulaBindsRow : OpenClaim := { program := "ytoopcfjmmhmamaa", sum := "b41d3b339e9f3492cbefe6e98c28ff769a350f4ca86daffed1c52b9fbbbb27cf", func := "legation/legationlaw06.FormulaBinds", spec := "formulaBinds", recurses := true, apart := false }
def FormulaBindsSaid : Prop := formulaBindsRow.holds Try.pinned (OpenSpec.ofChange formulaBindsSpec)

/-- ITS FALSE NEIGHBOUR: 'it returns false'. Refute it at one input. -/
def formulaBindsWrong : ChangeSpec := { name := "formulaBinds", fn := fun _ => fun
  | [d1, d2] => { results := [.lit (.bool false)], args := [d1, d2] }
  | _ => none }
def FormulaBindsWrongFalsely : Prop := formulaBindsRow.holds Try.pinned (OpenSpec.ofChange formulaBindsWrong)

/-- 'legationlaw06.FormulaFroms': WHATEVER THE INPUT: true; the input reads as it did. -/
def formulaFromsSpec : ChangeSpec := { name := "formulaFroms", fn := fun _ => fun
  | [d1, d2] => { results := [.lit (.bool true)], args := [d1, d2] }
  | _ => none }
def formulaFromsRow : OpenClaim := { program := "ytoopcfjmmhmamaa", sum := "b41d3b339e9f3492cbefe6e98c28ff769a350f4ca86daffed1c52b9fbbbb27cf", func := "legation/legationlaw06.FormulaFroms", spec := "formulaFroms", recurses := true, apart := false }
def FormulaFromsSaid : Prop := formulaFromsRow.holds Try.pinned (OpenSpec.ofChange formulaFromsSpec)

/-- ITS FALSE NEIGHBOUR: 'it returns false'. Refute it at one input. -/
def formulaFromsWrong : ChangeSpec := { name := "formulaFroms", fn := fun _ => fun
  | [d1, d2] => { results := [.lit (.bool false)], args := [d1, d2] }
  | _ => none }
def FormulaFromsWrongFalsely : Prop := formulaFromsRow.holds Try.pinned (OpenSpec.ofChange formulaFromsWrong)

/-- 'legationlaw06.FormulaBack': WHATEVER THE INPUT: true; the input reads as it did. -/
def formulaBackSpec : ChangeSpec := { name := "formulaBack", fn := fun _ => fun
  | [d] => { results := [.lit (.bool true)], args := [d] }
  | _ => none }
def formulaBackRow : OpenClaim := { program := "ytoopcfjmmhmamaa", sum := "b41d3b339e9f3492cbefe6e98c28ff769a350f4ca86daffed1c52b9fbbbb27cf", func := "legation/legationlaw06.FormulaBack", spec := "formulaBack", recurses := true, apart := false }
def FormulaBackSaid : Prop := formulaBackRow.holds Try.pinned (OpenSpec.ofChange formulaBackSpec)

/-- ITS FALSE NEIGHBOUR: 'it returns false'. Refute it at one input. -/
def formulaBackWrong : ChangeSpec := { name := "formulaBack", fn := fun _ => fun
  | [d] => { results := [.lit (.bool false)], args := [d] }
  | _ => none }
def FormulaBackWrongFalsely : Prop := formulaBackRow.holds Try.pinned (OpenSpec.ofChange formulaBackWrong)

/-- 'legationlaw06.FormulaTexts': WHATEVER THE INPUT: true; the input reads as it did. -/
def formulaTextsSpec : ChangeSpec := { name := "formulaTexts", fn := fun _ => fun
  | [d] => { results := [.lit (.bool true)], args := [d] }
  | _ => none }
def formulaTextsRow : OpenClaim := { program := "ytoopcfjmmhmamaa", sum := "b41d3b339e9f3492cbefe6e98c28ff769a350f4ca86daffed1c52b9fbbbb27cf", func := "legation/legationlaw06.FormulaTexts", spec := "formulaTexts", recurses := true, apart := false }
def FormulaTextsSaid : Prop := formulaTextsRow.holds Try.pinned (OpenSpec.ofChange formulaTextsSpec)

/-- ITS FALSE NEIGHBOUR: 'it returns false'. Refute it at one input. -/
def formulaTextsWrong : ChangeSpec := { name := "formulaTexts", fn := fun _ => fun
  | [d] => { results := [.lit (.bool false)], args := [d] }
  | _ => none }
def FormulaTextsWrongFalsely : Prop := formulaTextsRow.holds Try.pinned (OpenSpec.ofChange formulaTextsWrong)

/- THE SECOND FORM. 'bulk': how many values and letters a reading holds, each counted each time it is reached (what is shared counts as often as it is met; a slice's spare places count too). A statement '..UptoSaid' is the law's where the arguments, and the package variables that the reading takes, are together of bulk at most 1048576: NARROWER than '..Said'. Prove '..Said' where nothing that the law and all that it calls make is longer than what came in: it says more and counts as full. Else prove '..UptoSaid'. A law counts once. -/
mutual
def uptoBulk {H : Type} : DataW H → Nat
  | .lit (.string bytes) => bytes.length + 1
  | .lit _ => 1
  | .nil => 1
  | .ptr d => uptoBulk d + 1
  | .slice elems spare => uptoBulkAll elems + uptoBulkAll spare + 1
  | .agg parts => uptoBulkAll parts + 1
  | .iface _ d => uptoBulk d + 1
  | .map entries => uptoBulkEntries entries + 1
  | .held _ => 1
def uptoBulkAll {H : Type} : List (DataW H) → Nat
  | [] => 0
  | d :: r => uptoBulk d + uptoBulkAll r
def uptoBulkEntries {H : Type} : List (Lit × DataW H) → Nat
  | [] => 0
  | x :: r => uptoBulkEntry x + uptoBulkEntries r
def uptoBulkEntry {H : Type} : Lit × DataW H → Nat
  | (.string bytes, d) => bytes.length + uptoBulk d + 1
  | (_, d) => uptoBulk d + 1
 end
def uptoSmall : (H : Type) → List (DataW H) → Bool := fun _ ds => decide (uptoBulkAll ds ≤ 1048576)
def OpenSpec.upto (s : _root_.Go.ChangeSpec) : _root_.Go.OpenSpec := { _root_.Go.OpenSpec.ofChange s with cond := some uptoSmall }

/-- 'legationlaw06.FormulaBinds', WHERE WHAT IT READS IS OF BULK AT MOST 1048576: true; the input reads as it did. -/
def formulaBindsUptoRow : OpenClaim := { program := "ytoopcfjmmhmamaa", sum := "b41d3b339e9f3492cbefe6e98c28ff769a350f4ca86daffed1c52b9fbbbb27cf", func := "legation/legationlaw06.FormulaBinds", spec := "formulaBinds", recurses := true, apart := false, narrowed := true }
def FormulaBindsUptoSaid : Prop := formulaBindsUptoRow.holds Try.pinned (OpenSpec.upto formulaBindsSpec)

/-- 'legationlaw06.FormulaFroms', WHERE WHAT IT READS IS OF BULK AT MOST 1048576: true; the input reads as it did. -/
def formulaFromsUptoRow : OpenClaim := { program := "ytoopcfjmmhmamaa", sum := "b41d3b339e9f3492cbefe6e98c28ff769a350f4ca86daffed1c52b9fbbbb27cf", func := "legation/legationlaw06.FormulaFroms", spec := "formulaFroms", recurses := true, apart := false, narrowed := true }
def FormulaFromsUptoSaid : Prop := formulaFromsUptoRow.holds Try.pinned (OpenSpec.upto formulaFromsSpec)

/-- 'legationlaw06.FormulaBack', WHERE WHAT IT READS IS OF BULK AT MOST 1048576: true; the input reads as it did. -/
def formulaBackUptoRow : OpenClaim := { program := "ytoopcfjmmhmamaa", sum := "b41d3b339e9f3492cbefe6e98c28ff769a350f4ca86daffed1c52b9fbbbb27cf", func := "legation/legationlaw06.FormulaBack", spec := "formulaBack", recurses := true, apart := false, narrowed := true }
def FormulaBackUptoSaid : Prop := formulaBackUptoRow.holds Try.pinned (OpenSpec.upto formulaBackSpec)

/-- 'legationlaw06.FormulaTexts', WHERE WHAT IT READS IS OF BULK AT MOST 1048576: true; the input reads as it did. -/
def formulaTextsUptoRow : OpenClaim := { program := "ytoopcfjmmhmamaa", sum := "b41d3b339e9f3492cbefe6e98c28ff769a350f4ca86daffed1c52b9fbbbb27cf", func := "legation/legationlaw06.FormulaTexts", spec := "formulaTexts", recurses := true, apart := false, narrowed := true }
def FormulaTextsUptoSaid : Prop := formulaTextsUptoRow.holds Try.pinned (OpenSpec.upto formulaTextsSpec)

end Rows
end Go.Proofs.Ytoopcfjmmhmamaa
