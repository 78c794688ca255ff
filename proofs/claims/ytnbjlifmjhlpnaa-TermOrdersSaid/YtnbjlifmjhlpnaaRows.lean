/-
  No cell of these rows narrows 'for every input' (looked for: loops, veiled, ifaces, maps, wideKeys, modest, calm, conditions, laid).
  DERIVED. THE GIVEN ROWS OF THIS SEAT. 8 by the template 'for every input the law returns true; each argument reads behind the call as it read before'; 0 by the template 'total and deterministic' (their statements: YtnbjlifmjhlpnaaTotals.lean).
  GIVEN WITH THE SEED: the statements are not yours to turn. If you find one false, say at which input.
  Laid BY PROGRAM, IN A SANDBOX (cutbox-rows.mjs): the forced cells as the released guide's own fill.sh prints them over the translation 5d9a097b8ef544fb… (all of the seat's roots in one cut). By AI agents, Wed Nov 11 2026. No macro, syntax, notation, axiom, sorry.
-/
import Derived.Test.YtnbjlifmjhlpnaaChecked
import GoSem.Claim
import GoSem.ClaimJoined
import GoSem.ClaimMapViews
import Derived.JoinedTies
import Derived.KernelRfl
namespace Go.Proofs.Ytnbjlifmjhlpnaa
/- THE CELL 'sum', in the pinned program and in every row, IS THE sha256 OF THE DUMP (.gsa) THAT YtnbjlifmjhlpnaaProg.lean LOADS. Nothing in Lean hashes anything: it is a label: what it is worth is what the hold of that sum in a sandbox is worth. -/
noncomputable def Try.pinned : Pinned := { name := "ytnbjlifmjhlpnaa", sum := "5d9a097b8ef544fba3b1b172bc250f3edcb66357c9824433170bfb3fb6e6c915", checked := Try.checked }
namespace Rows
def none {H : Type} : Left H := { results := [], args := [] }

/-- 'legationlaw01.TermChecks': WHATEVER THE INPUT: true; the input reads as it did. -/
def termChecksSpec : ChangeSpec := { name := "termChecks", fn := fun _ => fun
  | [d] => { results := [.lit (.bool true)], args := [d] }
  | _ => none }
def termChecksRow : OpenClaim := { program := "ytnbjlifmjhlpnaa", sum := "5d9a097b8ef544fba3b1b172bc250f3edcb66357c9824433170bfb3fb6e6c915", func := "legation/legationlaw01.TermChecks", spec := "termChecks", inPlace := ["internal/bytealg.IndexByteString"], recurses := true, apart := false }
def TermChecksSaid : Prop := termChecksRow.holds Try.pinned (OpenSpec.ofChange termChecksSpec)

/-- ITS FALSE NEIGHBOUR: 'it returns false'. Refute it at one input. -/
def termChecksWrong : ChangeSpec := { name := "termChecks", fn := fun _ => fun
  | [d] => { results := [.lit (.bool false)], args := [d] }
  | _ => none }
def TermChecksWrongFalsely : Prop := termChecksRow.holds Try.pinned (OpenSpec.ofChange termChecksWrong)

/-- 'legationlaw01.TermTexts': WHATEVER THE INPUT: true; the input reads as it did. -/
def termTextsSpec : ChangeSpec := { name := "termTexts", fn := fun _ => fun
  | [d] => { results := [.lit (.bool true)], args := [d] }
  | _ => none }
def termTextsRow : OpenClaim := { program := "ytnbjlifmjhlpnaa", sum := "5d9a097b8ef544fba3b1b172bc250f3edcb66357c9824433170bfb3fb6e6c915", func := "legation/legationlaw01.TermTexts", spec := "termTexts", inPlace := ["internal/bytealg.IndexByteString"], recurses := true, apart := false }
def TermTextsSaid : Prop := termTextsRow.holds Try.pinned (OpenSpec.ofChange termTextsSpec)

/-- ITS FALSE NEIGHBOUR: 'it returns false'. Refute it at one input. -/
def termTextsWrong : ChangeSpec := { name := "termTexts", fn := fun _ => fun
  | [d] => { results := [.lit (.bool false)], args := [d] }
  | _ => none }
def TermTextsWrongFalsely : Prop := termTextsRow.holds Try.pinned (OpenSpec.ofChange termTextsWrong)

/-- 'legationlaw01.TermReads': WHATEVER THE INPUT: true; the input reads as it did. -/
def termReadsSpec : ChangeSpec := { name := "termReads", fn := fun _ => fun
  | [d] => { results := [.lit (.bool true)], args := [d] }
  | _ => none }
def termReadsRow : OpenClaim := { program := "ytnbjlifmjhlpnaa", sum := "5d9a097b8ef544fba3b1b172bc250f3edcb66357c9824433170bfb3fb6e6c915", func := "legation/legationlaw01.TermReads", spec := "termReads", inPlace := ["internal/bytealg.IndexByteString"], recurses := true, apart := false }
def TermReadsSaid : Prop := termReadsRow.holds Try.pinned (OpenSpec.ofChange termReadsSpec)

/-- ITS FALSE NEIGHBOUR: 'it returns false'. Refute it at one input. -/
def termReadsWrong : ChangeSpec := { name := "termReads", fn := fun _ => fun
  | [d] => { results := [.lit (.bool false)], args := [d] }
  | _ => none }
def TermReadsWrongFalsely : Prop := termReadsRow.holds Try.pinned (OpenSpec.ofChange termReadsWrong)

/-- 'legationlaw01.TermPrefixes': WHATEVER THE INPUT: true; the input reads as it did. -/
def termPrefixesSpec : ChangeSpec := { name := "termPrefixes", fn := fun _ => fun
  | [d] => { results := [.lit (.bool true)], args := [d] }
  | _ => none }
def termPrefixesRow : OpenClaim := { program := "ytnbjlifmjhlpnaa", sum := "5d9a097b8ef544fba3b1b172bc250f3edcb66357c9824433170bfb3fb6e6c915", func := "legation/legationlaw01.TermPrefixes", spec := "termPrefixes", inPlace := ["internal/bytealg.IndexByteString"], recurses := true, apart := false }
def TermPrefixesSaid : Prop := termPrefixesRow.holds Try.pinned (OpenSpec.ofChange termPrefixesSpec)

/-- ITS FALSE NEIGHBOUR: 'it returns false'. Refute it at one input. -/
def termPrefixesWrong : ChangeSpec := { name := "termPrefixes", fn := fun _ => fun
  | [d] => { results := [.lit (.bool false)], args := [d] }
  | _ => none }
def TermPrefixesWrongFalsely : Prop := termPrefixesRow.holds Try.pinned (OpenSpec.ofChange termPrefixesWrong)

/-- 'legationlaw01.TermBack': WHATEVER THE INPUT: true; the input reads as it did. -/
def termBackSpec : ChangeSpec := { name := "termBack", fn := fun _ => fun
  | [d1, d2] => { results := [.lit (.bool true)], args := [d1, d2] }
  | _ => none }
def termBackRow : OpenClaim := { program := "ytnbjlifmjhlpnaa", sum := "5d9a097b8ef544fba3b1b172bc250f3edcb66357c9824433170bfb3fb6e6c915", func := "legation/legationlaw01.TermBack", spec := "termBack", inPlace := ["internal/bytealg.IndexByteString"], recurses := true, apart := false }
def TermBackSaid : Prop := termBackRow.holds Try.pinned (OpenSpec.ofChange termBackSpec)

/-- ITS FALSE NEIGHBOUR: 'it returns false'. Refute it at one input. -/
def termBackWrong : ChangeSpec := { name := "termBack", fn := fun _ => fun
  | [d1, d2] => { results := [.lit (.bool false)], args := [d1, d2] }
  | _ => none }
def TermBackWrongFalsely : Prop := termBackRow.holds Try.pinned (OpenSpec.ofChange termBackWrong)

/-- 'legationlaw01.TermGoes': WHATEVER THE INPUT: true; the input reads as it did. -/
def termGoesSpec : ChangeSpec := { name := "termGoes", fn := fun _ => fun
  | [d1, d2] => { results := [.lit (.bool true)], args := [d1, d2] }
  | _ => none }
def termGoesRow : OpenClaim := { program := "ytnbjlifmjhlpnaa", sum := "5d9a097b8ef544fba3b1b172bc250f3edcb66357c9824433170bfb3fb6e6c915", func := "legation/legationlaw01.TermGoes", spec := "termGoes", inPlace := ["internal/bytealg.IndexByteString"], recurses := true, apart := false }
def TermGoesSaid : Prop := termGoesRow.holds Try.pinned (OpenSpec.ofChange termGoesSpec)

/-- ITS FALSE NEIGHBOUR: 'it returns false'. Refute it at one input. -/
def termGoesWrong : ChangeSpec := { name := "termGoes", fn := fun _ => fun
  | [d1, d2] => { results := [.lit (.bool false)], args := [d1, d2] }
  | _ => none }
def TermGoesWrongFalsely : Prop := termGoesRow.holds Try.pinned (OpenSpec.ofChange termGoesWrong)

/-- 'legationlaw01.TermOrder': WHATEVER THE INPUT: true; the input reads as it did. -/
def termOrderSpec : ChangeSpec := { name := "termOrder", fn := fun _ => fun
  | [d1, d2, d3] => { results := [.lit (.bool true)], args := [d1, d2, d3] }
  | _ => none }
def termOrderRow : OpenClaim := { program := "ytnbjlifmjhlpnaa", sum := "5d9a097b8ef544fba3b1b172bc250f3edcb66357c9824433170bfb3fb6e6c915", func := "legation/legationlaw01.TermOrder", spec := "termOrder", inPlace := ["internal/bytealg.abigen_runtime_cmpstring", "internal/bytealg.IndexByteString"], recurses := true, apart := false }
def TermOrderSaid : Prop := termOrderRow.holds Try.pinned (OpenSpec.ofChange termOrderSpec)

/-- ITS FALSE NEIGHBOUR: 'it returns false'. Refute it at one input. -/
def termOrderWrong : ChangeSpec := { name := "termOrder", fn := fun _ => fun
  | [d1, d2, d3] => { results := [.lit (.bool false)], args := [d1, d2, d3] }
  | _ => none }
def TermOrderWrongFalsely : Prop := termOrderRow.holds Try.pinned (OpenSpec.ofChange termOrderWrong)

/-- 'legationlaw01.TermOrders': WHATEVER THE INPUT: true; the input reads as it did. -/
def termOrdersSpec : ChangeSpec := { name := "termOrders", fn := fun _ => fun
  | [d1, d2] => { results := [.lit (.bool true)], args := [d1, d2] }
  | _ => none }
def termOrdersRow : OpenClaim := { program := "ytnbjlifmjhlpnaa", sum := "5d9a097b8ef544fba3b1b172bc250f3edcb66357c9824433170bfb3fb6e6c915", func := "legation/legationlaw01.TermOrders", spec := "termOrders", inPlace := ["internal/bytealg.abigen_runtime_cmpstring", "internal/bytealg.IndexByteString"], recurses := true, apart := false }
def TermOrdersSaid : Prop := termOrdersRow.holds Try.pinned (OpenSpec.ofChange termOrdersSpec)

/-- ITS FALSE NEIGHBOUR: 'it returns false'. Refute it at one input. -/
def termOrdersWrong : ChangeSpec := { name := "termOrders", fn := fun _ => fun
  | [d1, d2] => { results := [.lit (.bool false)], args := [d1, d2] }
  | _ => none }
def TermOrdersWrongFalsely : Prop := termOrdersRow.holds Try.pinned (OpenSpec.ofChange termOrdersWrong)

/- THE SECOND FORM. 'bulk': how many values and letters a reading holds, each counted each time it is reached (what is shared counts as often as it is met; a slice's spare places count too). A statement '..UptoSaid' is the law's where the arguments, and the package variables that the reading takes, are together of bulk at most 1048576: NARROWER than '..Said'. Prove '..Said' where nothing that the law and all that it calls make is longer than what came in: it says more and counts as full. Else prove '..UptoSaid'. A law counts once. -/
mutual
def uptoBulk {H : Type} : DataW H → Nat
  | .lit (.string bytes) => bytes.length + 1
  | .lit _ => 1
  | .nil => 1
  | .ptr d => uptoBulk d + 1
  | .slice elems spare => uptoBulkAll elems + uptoBulkAll spare + 1
  | .agg parts => uptoBulkAll parts + 1
  | .iface _ d => uptoBulk d + 1
  | .map entries => uptoBulkEntries entries + 1
  | .held _ => 1
def uptoBulkAll {H : Type} : List (DataW H) → Nat
  | [] => 0
  | d :: r => uptoBulk d + uptoBulkAll r
def uptoBulkEntries {H : Type} : List (Lit × DataW H) → Nat
  | [] => 0
  | x :: r => uptoBulkEntry x + uptoBulkEntries r
def uptoBulkEntry {H : Type} : Lit × DataW H → Nat
  | (.string bytes, d) => bytes.length + uptoBulk d + 1
  | (_, d) => uptoBulk d + 1
 end
def uptoSmall : (H : Type) → List (DataW H) → Bool := fun _ ds => decide (uptoBulkAll ds ≤ 1048576)
def OpenSpec.upto (s : _root_.Go.ChangeSpec) : _root_.Go.OpenSpec := { _root_.Go.OpenSpec.ofChange s with cond := some uptoSmall }

/-- 'legationlaw01.TermChecks', WHERE WHAT IT READS IS OF BULK AT MOST 1048576: true; the input reads as it did. -/
def termChecksUptoRow : OpenClaim := { program := "ytnbjlifmjhlpnaa", sum := "5d9a097b8ef544fba3b1b172bc250f3edcb66357c9824433170bfb3fb6e6c915", func := "legation/legationlaw01.TermChecks", spec := "termChecks", inPlace := ["internal/bytealg.IndexByteString"], recurses := true, apart := false, narrowed := true }
def TermChecksUptoSaid : Prop := termChecksUptoRow.holds Try.pinned (OpenSpec.upto termChecksSpec)

/-- 'legationlaw01.TermTexts', WHERE WHAT IT READS IS OF BULK AT MOST 1048576: true; the input reads as it did. -/
def termTextsUptoRow : OpenClaim := { program := "ytnbjlifmjhlpnaa", sum := "5d9a097b8ef544fba3b1b172bc250f3edcb66357c9824433170bfb3fb6e6c915", func := "legation/legationlaw01.TermTexts", spec := "termTexts", inPlace := ["internal/bytealg.IndexByteString"], recurses := true, apart := false, narrowed := true }
def TermTextsUptoSaid : Prop := termTextsUptoRow.holds Try.pinned (OpenSpec.upto termTextsSpec)

/-- 'legationlaw01.TermReads', WHERE WHAT IT READS IS OF BULK AT MOST 1048576: true; the input reads as it did. -/
def termReadsUptoRow : OpenClaim := { program := "ytnbjlifmjhlpnaa", sum := "5d9a097b8ef544fba3b1b172bc250f3edcb66357c9824433170bfb3fb6e6c915", func := "legation/legationlaw01.TermReads", spec := "termReads", inPlace := ["internal/bytealg.IndexByteString"], recurses := true, apart := false, narrowed := true }
def TermReadsUptoSaid : Prop := termReadsUptoRow.holds Try.pinned (OpenSpec.upto termReadsSpec)

/-- 'legationlaw01.TermPrefixes', WHERE WHAT IT READS IS OF BULK AT MOST 1048576: true; the input reads as it did. -/
def termPrefixesUptoRow : OpenClaim := { program := "ytnbjlifmjhlpnaa", sum := "5d9a097b8ef544fba3b1b172bc250f3edcb66357c9824433170bfb3fb6e6c915", func := "legation/legationlaw01.TermPrefixes", spec := "termPrefixes", inPlace := ["internal/bytealg.IndexByteString"], recurses := true, apart := false, narrowed := true }
def TermPrefixesUptoSaid : Prop := termPrefixesUptoRow.holds Try.pinned (OpenSpec.upto termPrefixesSpec)

/-- 'legationlaw01.TermBack', WHERE WHAT IT READS IS OF BULK AT MOST 1048576: true; the input reads as it did. -/
def termBackUptoRow : OpenClaim := { program := "ytnbjlifmjhlpnaa", sum := "5d9a097b8ef544fba3b1b172bc250f3edcb66357c9824433170bfb3fb6e6c915", func := "legation/legationlaw01.TermBack", spec := "termBack", inPlace := ["internal/bytealg.IndexByteString"], recurses := true, apart := false, narrowed := true }
def TermBackUptoSaid : Prop := termBackUptoRow.holds Try.pinned (OpenSpec.upto termBackSpec)

/-- 'legationlaw01.TermGoes', WHERE WHAT IT READS IS OF BULK AT MOST 1048576: true; the input reads as it did. -/
def termGoesUptoRow : OpenClaim := { program := "ytnbjlifmjhlpnaa", sum := "5d9a097b8ef544fba3b1b172bc250f3edcb66357c9824433170bfb3fb6e6c915", func := "legation/legationlaw01.TermGoes", spec := "termGoes", inPlace := ["internal/bytealg.IndexByteString"], recurses := true, apart := false, narrowed := true }
def TermGoesUptoSaid : Prop := termGoesUptoRow.holds Try.pinned (OpenSpec.upto termGoesSpec)

/-- 'legationlaw01.TermOrder', WHERE WHAT IT READS IS OF BULK AT MOST 1048576: true; the input reads as it did. -/
def termOrderUptoRow : OpenClaim := { program := "ytnbjlifmjhlpnaa", sum := "5d9a097b8ef544fba3b1b172bc250f3edcb66357c9824433170bfb3fb6e6c915", func := "legation/legationlaw01.TermOrder", spec := "termOrder", inPlace := ["internal/bytealg.abigen_runtime_cmpstring", "internal/bytealg.IndexByteString"], recurses := true, apart := false, narrowed := true }
def TermOrderUptoSaid : Prop := termOrderUptoRow.holds Try.pinned (OpenSpec.upto termOrderSpec)

/-- 'legationlaw01.TermOrders', WHERE WHAT IT READS IS OF BULK AT MOST 1048576: true; the input reads as it did. -/
def termOrdersUptoRow : OpenClaim := { program := "ytnbjlifmjhlpnaa", sum := "5d9a097b8ef544fba3b1b172bc250f3edcb66357c9824433170bfb3fb6e6c915", func := "legation/legationlaw01.TermOrders", spec := "termOrders", inPlace := ["internal/bytealg.abigen_runtime_cmpstring", "internal/bytealg.IndexByteString"], recurses := true, apart := false, narrowed := true }
def TermOrdersUptoSaid : Prop := termOrdersUptoRow.holds Try.pinned (OpenSpec.upto termOrdersSpec)

end Rows
end Go.Proofs.Ytnbjlifmjhlpnaa
