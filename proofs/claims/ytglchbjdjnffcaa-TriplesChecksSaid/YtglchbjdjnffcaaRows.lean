/-
  No cell of these rows narrows 'for every input' (looked for: loops, veiled, ifaces, maps, wideKeys, modest, calm, conditions, laid).
  DERIVED. THE GIVEN ROWS OF THIS SEAT. 7 by the template 'for every input the law returns true; each argument reads behind the call as it read before'; 0 by the template 'total and deterministic' (their statements: YtglchbjdjnffcaaTotals.lean).
  GIVEN WITH THE SEED: the statements are not yours to turn. If you find one false, say at which input.
  Laid BY PROGRAM, IN A SANDBOX (cutbox-rows.mjs): the forced cells as the released guide's own fill.sh prints them over the translation 7f66d7a404f65f4b… (all of the seat's roots in one cut). By AI agents, Wed Nov 11 2026. No macro, syntax, notation, axiom, sorry.
-/
import Derived.Test.YtglchbjdjnffcaaChecked
import GoSem.Claim
import GoSem.ClaimJoined
import GoSem.ClaimMapViews
import Derived.JoinedTies
import Derived.KernelRfl
namespace Go.Proofs.Ytglchbjdjnffcaa
/- THE CELL 'sum', in the pinned program and in every row, IS THE sha256 OF THE DUMP (.gsa) THAT YtglchbjdjnffcaaProg.lean LOADS. Nothing in Lean hashes anything: it is a label: what it is worth is what the hold of that sum in a sandbox is worth. -/
noncomputable def Try.pinned : Pinned := { name := "ytglchbjdjnffcaa", sum := "7f66d7a404f65f4b5f2efc280b9215c1c1cee8f49a7b25318c94caedde247b93", checked := Try.checked }
namespace Rows
def none {H : Type} : Left H := { results := [], args := [] }

/-- 'legationlaw03.TriplesReads': WHATEVER THE INPUT: true; the input reads as it did. -/
def triplesReadsSpec : ChangeSpec := { name := "triplesReads", fn := fun _ => fun
  | [d] => { results := [.lit (.bool true)], args := [d] }
  | _ => none }
def triplesReadsRow : OpenClaim := { program := "ytglchbjdjnffcaa", sum := "7f66d7a404f65f4b5f2efc280b9215c1c1cee8f49a7b25318c94caedde247b93", func := "legation/legationlaw03.TriplesReads", spec := "triplesReads", inPlace := ["internal/bytealg.IndexByteString", "internal/bytealg.IndexString"], recurses := true, named := ["internal/bytealg.MaxLen"], apart := false }
def TriplesReadsSaid : Prop := triplesReadsRow.holds Try.pinned (OpenSpec.ofChange triplesReadsSpec)

/-- ITS FALSE NEIGHBOUR: 'it returns false'. Refute it at one input. -/
def triplesReadsWrong : ChangeSpec := { name := "triplesReads", fn := fun _ => fun
  | [d] => { results := [.lit (.bool false)], args := [d] }
  | _ => none }
def TriplesReadsWrongFalsely : Prop := triplesReadsRow.holds Try.pinned (OpenSpec.ofChange triplesReadsWrong)

/-- 'legationlaw03.TriplesJoins': WHATEVER THE INPUT: true; the input reads as it did. -/
def triplesJoinsSpec : ChangeSpec := { name := "triplesJoins", fn := fun _ => fun
  | [d1, d2] => { results := [.lit (.bool true)], args := [d1, d2] }
  | _ => none }
def triplesJoinsRow : OpenClaim := { program := "ytglchbjdjnffcaa", sum := "7f66d7a404f65f4b5f2efc280b9215c1c1cee8f49a7b25318c94caedde247b93", func := "legation/legationlaw03.TriplesJoins", spec := "triplesJoins", inPlace := ["internal/bytealg.IndexByteString", "internal/bytealg.IndexString"], recurses := true, named := ["internal/bytealg.MaxLen"], apart := false }
def TriplesJoinsSaid : Prop := triplesJoinsRow.holds Try.pinned (OpenSpec.ofChange triplesJoinsSpec)

/-- ITS FALSE NEIGHBOUR: 'it returns false'. Refute it at one input. -/
def triplesJoinsWrong : ChangeSpec := { name := "triplesJoins", fn := fun _ => fun
  | [d1, d2] => { results := [.lit (.bool false)], args := [d1, d2] }
  | _ => none }
def TriplesJoinsWrongFalsely : Prop := triplesJoinsRow.holds Try.pinned (OpenSpec.ofChange triplesJoinsWrong)

/-- 'legationlaw03.TriplesChecks': WHATEVER THE INPUT: true; the input reads as it did. -/
def triplesChecksSpec : ChangeSpec := { name := "triplesChecks", fn := fun _ => fun
  | [d] => { results := [.lit (.bool true)], args := [d] }
  | _ => none }
def triplesChecksRow : OpenClaim := { program := "ytglchbjdjnffcaa", sum := "7f66d7a404f65f4b5f2efc280b9215c1c1cee8f49a7b25318c94caedde247b93", func := "legation/legationlaw03.TriplesChecks", spec := "triplesChecks", inPlace := ["internal/bytealg.IndexByteString", "internal/bytealg.IndexString"], recurses := true, named := ["internal/bytealg.MaxLen"], apart := false }
def TriplesChecksSaid : Prop := triplesChecksRow.holds Try.pinned (OpenSpec.ofChange triplesChecksSpec)

/-- ITS FALSE NEIGHBOUR: 'it returns false'. Refute it at one input. -/
def triplesChecksWrong : ChangeSpec := { name := "triplesChecks", fn := fun _ => fun
  | [d] => { results := [.lit (.bool false)], args := [d] }
  | _ => none }
def TriplesChecksWrongFalsely : Prop := triplesChecksRow.holds Try.pinned (OpenSpec.ofChange triplesChecksWrong)

/-- 'legationlaw03.TriplesOrders': WHATEVER THE INPUT: true; the input reads as it did. -/
def triplesOrdersSpec : ChangeSpec := { name := "triplesOrders", fn := fun _ => fun
  | [d1, d2, d3] => { results := [.lit (.bool true)], args := [d1, d2, d3] }
  | _ => none }
def triplesOrdersRow : OpenClaim := { program := "ytglchbjdjnffcaa", sum := "7f66d7a404f65f4b5f2efc280b9215c1c1cee8f49a7b25318c94caedde247b93", func := "legation/legationlaw03.TriplesOrders", spec := "triplesOrders", inPlace := ["internal/bytealg.abigen_runtime_cmpstring", "internal/bytealg.IndexByteString", "internal/bytealg.IndexString"], recurses := true, named := ["internal/bytealg.MaxLen"], apart := false }
def TriplesOrdersSaid : Prop := triplesOrdersRow.holds Try.pinned (OpenSpec.ofChange triplesOrdersSpec)

/-- ITS FALSE NEIGHBOUR: 'it returns false'. Refute it at one input. -/
def triplesOrdersWrong : ChangeSpec := { name := "triplesOrders", fn := fun _ => fun
  | [d1, d2, d3] => { results := [.lit (.bool false)], args := [d1, d2, d3] }
  | _ => none }
def TriplesOrdersWrongFalsely : Prop := triplesOrdersRow.holds Try.pinned (OpenSpec.ofChange triplesOrdersWrong)

/-- 'legationlaw03.TriplesTexts': WHATEVER THE INPUT: true; the input reads as it did. -/
def triplesTextsSpec : ChangeSpec := { name := "triplesTexts", fn := fun _ => fun
  | [d] => { results := [.lit (.bool true)], args := [d] }
  | _ => none }
def triplesTextsRow : OpenClaim := { program := "ytglchbjdjnffcaa", sum := "7f66d7a404f65f4b5f2efc280b9215c1c1cee8f49a7b25318c94caedde247b93", func := "legation/legationlaw03.TriplesTexts", spec := "triplesTexts", inPlace := ["internal/bytealg.IndexByteString", "internal/bytealg.IndexString"], recurses := true, named := ["internal/bytealg.MaxLen"], apart := false }
def TriplesTextsSaid : Prop := triplesTextsRow.holds Try.pinned (OpenSpec.ofChange triplesTextsSpec)

/-- ITS FALSE NEIGHBOUR: 'it returns false'. Refute it at one input. -/
def triplesTextsWrong : ChangeSpec := { name := "triplesTexts", fn := fun _ => fun
  | [d] => { results := [.lit (.bool false)], args := [d] }
  | _ => none }
def TriplesTextsWrongFalsely : Prop := triplesTextsRow.holds Try.pinned (OpenSpec.ofChange triplesTextsWrong)

/-- 'legationlaw03.TriplesWrites': WHATEVER THE INPUT: true; the input reads as it did. -/
def triplesWritesSpec : ChangeSpec := { name := "triplesWrites", fn := fun _ => fun
  | [d] => { results := [.lit (.bool true)], args := [d] }
  | _ => none }
def triplesWritesRow : OpenClaim := { program := "ytglchbjdjnffcaa", sum := "7f66d7a404f65f4b5f2efc280b9215c1c1cee8f49a7b25318c94caedde247b93", func := "legation/legationlaw03.TriplesWrites", spec := "triplesWrites", inPlace := ["internal/bytealg.IndexByteString", "internal/bytealg.IndexString"], recurses := true, named := ["internal/bytealg.MaxLen"], apart := false }
def TriplesWritesSaid : Prop := triplesWritesRow.holds Try.pinned (OpenSpec.ofChange triplesWritesSpec)

/-- ITS FALSE NEIGHBOUR: 'it returns false'. Refute it at one input. -/
def triplesWritesWrong : ChangeSpec := { name := "triplesWrites", fn := fun _ => fun
  | [d] => { results := [.lit (.bool false)], args := [d] }
  | _ => none }
def TriplesWritesWrongFalsely : Prop := triplesWritesRow.holds Try.pinned (OpenSpec.ofChange triplesWritesWrong)

/-- 'legationlaw03.TriplesBack': WHATEVER THE INPUT: true; the input reads as it did. -/
def triplesBackSpec : ChangeSpec := { name := "triplesBack", fn := fun _ => fun
  | [d1, d2] => { results := [.lit (.bool true)], args := [d1, d2] }
  | _ => none }
def triplesBackRow : OpenClaim := { program := "ytglchbjdjnffcaa", sum := "7f66d7a404f65f4b5f2efc280b9215c1c1cee8f49a7b25318c94caedde247b93", func := "legation/legationlaw03.TriplesBack", spec := "triplesBack", inPlace := ["internal/bytealg.IndexByteString", "internal/bytealg.IndexString"], recurses := true, named := ["internal/bytealg.MaxLen"], apart := false }
def TriplesBackSaid : Prop := triplesBackRow.holds Try.pinned (OpenSpec.ofChange triplesBackSpec)

/-- ITS FALSE NEIGHBOUR: 'it returns false'. Refute it at one input. -/
def triplesBackWrong : ChangeSpec := { name := "triplesBack", fn := fun _ => fun
  | [d1, d2] => { results := [.lit (.bool false)], args := [d1, d2] }
  | _ => none }
def TriplesBackWrongFalsely : Prop := triplesBackRow.holds Try.pinned (OpenSpec.ofChange triplesBackWrong)

/- THE SECOND FORM. 'bulk': how many values and letters a reading holds, each counted each time it is reached (what is shared counts as often as it is met; a slice's spare places count too). A statement '..UptoSaid' is the law's where the arguments, and the package variables that the reading takes, are together of bulk at most 1048576: NARROWER than '..Said'. Prove '..Said' where nothing that the law and all that it calls make is longer than what came in: it says more and counts as full. Else prove '..UptoSaid'. A law counts once. -/
mutual
def uptoBulk {H : Type} : DataW H → Nat
  | .lit (.string bytes) => bytes.length + 1
  | .lit _ => 1
  | .nil => 1
  | .ptr d => uptoBulk d + 1
  | .slice elems spare => uptoBulkAll elems + uptoBulkAll spare + 1
  | .agg parts => uptoBulkAll parts + 1
  | .iface _ d => uptoBulk d + 1
  | .map entries => uptoBulkEntries entries + 1
  | .held _ => 1
def uptoBulkAll {H : Type} : List (DataW H) → Nat
  | [] => 0
  | d :: r => uptoBulk d + uptoBulkAll r
def uptoBulkEntries {H : Type} : List (Lit × DataW H) → Nat
  | [] => 0
  | x :: r => uptoBulkEntry x + uptoBulkEntries r
def uptoBulkEntry {H : Type} : Lit × DataW H → Nat
  | (.string bytes, d) => bytes.length + uptoBulk d + 1
  | (_, d) => uptoBulk d + 1
 end
def uptoSmall : (H : Type) → List (DataW H) → Bool := fun _ ds => decide (uptoBulkAll ds ≤ 1048576)
def OpenSpec.upto (s : _root_.Go.ChangeSpec) : _root_.Go.OpenSpec := { _root_.Go.OpenSpec.ofChange s with cond := some uptoSmall }

/-- 'legationlaw03.TriplesReads', WHERE WHAT IT READS IS OF BULK AT MOST 1048576: true; the input reads as it did. -/
def triplesReadsUptoRow : OpenClaim := { program := "ytglchbjdjnffcaa", sum := "7f66d7a404f65f4b5f2efc280b9215c1c1cee8f49a7b25318c94caedde247b93", func := "legation/legationlaw03.TriplesReads", spec := "triplesReads", inPlace := ["internal/bytealg.IndexByteString", "internal/bytealg.IndexString"], recurses := true, named := ["internal/bytealg.MaxLen"], apart := false, narrowed := true }
def TriplesReadsUptoSaid : Prop := triplesReadsUptoRow.holds Try.pinned (OpenSpec.upto triplesReadsSpec)

/-- 'legationlaw03.TriplesJoins', WHERE WHAT IT READS IS OF BULK AT MOST 1048576: true; the input reads as it did. -/
def triplesJoinsUptoRow : OpenClaim := { program := "ytglchbjdjnffcaa", sum := "7f66d7a404f65f4b5f2efc280b9215c1c1cee8f49a7b25318c94caedde247b93", func := "legation/legationlaw03.TriplesJoins", spec := "triplesJoins", inPlace := ["internal/bytealg.IndexByteString", "internal/bytealg.IndexString"], recurses := true, named := ["internal/bytealg.MaxLen"], apart := false, narrowed := true }
def TriplesJoinsUptoSaid : Prop := triplesJoinsUptoRow.holds Try.pinned (OpenSpec.upto triplesJoinsSpec)

/-- 'legationlaw03.TriplesChecks', WHERE WHAT IT READS IS OF BULK AT MOST 1048576: true; the input reads as it did. -/
def triplesChecksUptoRow : OpenClaim := { program := "ytglchbjdjnffcaa", sum := "7f66d7a404f65f4b5f2efc280b9215c1c1cee8f49a7b25318c94caedde247b93", func := "legation/legationlaw03.TriplesChecks", spec := "triplesChecks", inPlace := ["internal/bytealg.IndexByteString", "internal/bytealg.IndexString"], recurses := true, named := ["internal/bytealg.MaxLen"], apart := false, narrowed := true }
def TriplesChecksUptoSaid : Prop := triplesChecksUptoRow.holds Try.pinned (OpenSpec.upto triplesChecksSpec)

/-- 'legationlaw03.TriplesOrders', WHERE WHAT IT READS IS OF BULK AT MOST 1048576: true; the input reads as it did. -/
def triplesOrdersUptoRow : OpenClaim := { program := "ytglchbjdjnffcaa", sum := "7f66d7a404f65f4b5f2efc280b9215c1c1cee8f49a7b25318c94caedde247b93", func := "legation/legationlaw03.TriplesOrders", spec := "triplesOrders", inPlace := ["internal/bytealg.abigen_runtime_cmpstring", "internal/bytealg.IndexByteString", "internal/bytealg.IndexString"], recurses := true, named := ["internal/bytealg.MaxLen"], apart := false, narrowed := true }
def TriplesOrdersUptoSaid : Prop := triplesOrdersUptoRow.holds Try.pinned (OpenSpec.upto triplesOrdersSpec)

/-- 'legationlaw03.TriplesTexts', WHERE WHAT IT READS IS OF BULK AT MOST 1048576: true; the input reads as it did. -/
def triplesTextsUptoRow : OpenClaim := { program := "ytglchbjdjnffcaa", sum := "7f66d7a404f65f4b5f2efc280b9215c1c1cee8f49a7b25318c94caedde247b93", func := "legation/legationlaw03.TriplesTexts", spec := "triplesTexts", inPlace := ["internal/bytealg.IndexByteString", "internal/bytealg.IndexString"], recurses := true, named := ["internal/bytealg.MaxLen"], apart := false, narrowed := true }
def TriplesTextsUptoSaid : Prop := triplesTextsUptoRow.holds Try.pinned (OpenSpec.upto triplesTextsSpec)

/-- 'legationlaw03.TriplesWrites', WHERE WHAT IT READS IS OF BULK AT MOST 1048576: true; the input reads as it did. -/
def triplesWritesUptoRow : OpenClaim := { program := "ytglchbjdjnffcaa", sum := "7f66d7a404f65f4b5f2efc280b9215c1c1cee8f49a7b25318c94caedde247b93", func := "legation/legationlaw03.TriplesWrites", spec := "triplesWrites", inPlace := ["internal/bytealg.IndexByteString", "internal/bytealg.IndexString"], recurses := true, named := ["internal/bytealg.MaxLen"], apart := false, narrowed := true }
def TriplesWritesUptoSaid : Prop := triplesWritesUptoRow.holds Try.pinned (OpenSpec.upto triplesWritesSpec)

/-- 'legationlaw03.TriplesBack', WHERE WHAT IT READS IS OF BULK AT MOST 1048576: true; the input reads as it did. -/
def triplesBackUptoRow : OpenClaim := { program := "ytglchbjdjnffcaa", sum := "7f66d7a404f65f4b5f2efc280b9215c1c1cee8f49a7b25318c94caedde247b93", func := "legation/legationlaw03.TriplesBack", spec := "triplesBack", inPlace := ["internal/bytealg.IndexByteString", "internal/bytealg.IndexString"], recurses := true, named := ["internal/bytealg.MaxLen"], apart := false, narrowed := true }
def TriplesBackUptoSaid : Prop := triplesBackUptoRow.holds Try.pinned (OpenSpec.upto triplesBackSpec)

end Rows
end Go.Proofs.Ytglchbjdjnffcaa
