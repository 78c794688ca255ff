/-
  No cell of these rows narrows 'for every input' (looked for: loops, veiled, ifaces, maps, wideKeys, modest, calm, conditions, laid).
  DERIVED. THE GIVEN ROWS OF THIS SEAT. 6 by the template 'for every input the law returns true; each argument reads behind the call as it read before'; 0 by the template 'total and deterministic' (their statements: YtgcjhcefpkbheaaTotals.lean).
  GIVEN WITH THE SEED: the statements are not yours to turn. If you find one false, say at which input.
  Laid BY PROGRAM, IN A SANDBOX (cutbox-rows.mjs): the forced cells as the released guide's own fill.sh prints them over the translation 91a84390299bd0ec… (all of the seat's roots in one cut). By AI agents, Wed Nov 11 2026. No macro, syntax, notation, axiom, sorry.
-/
import Derived.Test.YtgcjhcefpkbheaaChecked
import GoSem.Claim
import GoSem.ClaimJoined
import GoSem.ClaimMapViews
import Derived.JoinedTies
import Derived.KernelRfl
namespace Go.Proofs.Ytgcjhcefpkbheaa
/- THE CELL 'sum', in the pinned program and in every row, IS THE sha256 OF THE DUMP (.gsa) THAT YtgcjhcefpkbheaaProg.lean LOADS. Nothing in Lean hashes anything: it is a label: what it is worth is what the hold of that sum in a sandbox is worth. -/
noncomputable def Try.pinned : Pinned := { name := "ytgcjhcefpkbheaa", sum := "91a84390299bd0ecd6249f37a1fa32a6b9f75834533082d725522a70debc8850", checked := Try.checked }
namespace Rows
def none {H : Type} : Left H := { results := [], args := [] }

/-- 'legationlaw20.SourcesGroups': WHATEVER THE INPUT: true; the input reads as it did. -/
def sourcesGroupsSpec : ChangeSpec := { name := "sourcesGroups", fn := fun _ => fun
  | [d1, d2] => { results := [.lit (.bool true)], args := [d1, d2] }
  | _ => none }
def sourcesGroupsRow : OpenClaim := { program := "ytgcjhcefpkbheaa", sum := "91a84390299bd0ecd6249f37a1fa32a6b9f75834533082d725522a70debc8850", func := "legation/legationlaw20.SourcesGroups", spec := "sourcesGroups", unfollowed := true, recurses := true, apart := false }
def SourcesGroupsSaid : Prop := sourcesGroupsRow.holds Try.pinned (OpenSpec.ofChange sourcesGroupsSpec)

/-- ITS FALSE NEIGHBOUR: 'it returns false'. Refute it at one input. -/
def sourcesGroupsWrong : ChangeSpec := { name := "sourcesGroups", fn := fun _ => fun
  | [d1, d2] => { results := [.lit (.bool false)], args := [d1, d2] }
  | _ => none }
def SourcesGroupsWrongFalsely : Prop := sourcesGroupsRow.holds Try.pinned (OpenSpec.ofChange sourcesGroupsWrong)

/-- 'legationlaw20.SourcesCover': WHATEVER THE INPUT: true; the input reads as it did. -/
def sourcesCoverSpec : ChangeSpec := { name := "sourcesCover", fn := fun _ => fun
  | [d1, d2] => { results := [.lit (.bool true)], args := [d1, d2] }
  | _ => none }
def sourcesCoverRow : OpenClaim := { program := "ytgcjhcefpkbheaa", sum := "91a84390299bd0ecd6249f37a1fa32a6b9f75834533082d725522a70debc8850", func := "legation/legationlaw20.SourcesCover", spec := "sourcesCover", unfollowed := true, recurses := true, apart := false }
def SourcesCoverSaid : Prop := sourcesCoverRow.holds Try.pinned (OpenSpec.ofChange sourcesCoverSpec)

/-- ITS FALSE NEIGHBOUR: 'it returns false'. Refute it at one input. -/
def sourcesCoverWrong : ChangeSpec := { name := "sourcesCover", fn := fun _ => fun
  | [d1, d2] => { results := [.lit (.bool false)], args := [d1, d2] }
  | _ => none }
def SourcesCoverWrongFalsely : Prop := sourcesCoverRow.holds Try.pinned (OpenSpec.ofChange sourcesCoverWrong)

/-- 'legationlaw20.SourcesPoints': WHATEVER THE INPUT: true; the input reads as it did. -/
def sourcesPointsSpec : ChangeSpec := { name := "sourcesPoints", fn := fun _ => fun
  | [d1, d2] => { results := [.lit (.bool true)], args := [d1, d2] }
  | _ => none }
def sourcesPointsRow : OpenClaim := { program := "ytgcjhcefpkbheaa", sum := "91a84390299bd0ecd6249f37a1fa32a6b9f75834533082d725522a70debc8850", func := "legation/legationlaw20.SourcesPoints", spec := "sourcesPoints", unfollowed := true, recurses := true, apart := false }
def SourcesPointsSaid : Prop := sourcesPointsRow.holds Try.pinned (OpenSpec.ofChange sourcesPointsSpec)

/-- ITS FALSE NEIGHBOUR: 'it returns false'. Refute it at one input. -/
def sourcesPointsWrong : ChangeSpec := { name := "sourcesPoints", fn := fun _ => fun
  | [d1, d2] => { results := [.lit (.bool false)], args := [d1, d2] }
  | _ => none }
def SourcesPointsWrongFalsely : Prop := sourcesPointsRow.holds Try.pinned (OpenSpec.ofChange sourcesPointsWrong)

/-- 'legationlaw20.SourcesProbes': WHATEVER THE INPUT: true; the input reads as it did. -/
def sourcesProbesSpec : ChangeSpec := { name := "sourcesProbes", fn := fun _ => fun
  | [d] => { results := [.lit (.bool true)], args := [d] }
  | _ => none }
def sourcesProbesRow : OpenClaim := { program := "ytgcjhcefpkbheaa", sum := "91a84390299bd0ecd6249f37a1fa32a6b9f75834533082d725522a70debc8850", func := "legation/legationlaw20.SourcesProbes", spec := "sourcesProbes", unfollowed := true, recurses := true, apart := false }
def SourcesProbesSaid : Prop := sourcesProbesRow.holds Try.pinned (OpenSpec.ofChange sourcesProbesSpec)

/-- ITS FALSE NEIGHBOUR: 'it returns false'. Refute it at one input. -/
def sourcesProbesWrong : ChangeSpec := { name := "sourcesProbes", fn := fun _ => fun
  | [d] => { results := [.lit (.bool false)], args := [d] }
  | _ => none }
def SourcesProbesWrongFalsely : Prop := sourcesProbesRow.holds Try.pinned (OpenSpec.ofChange sourcesProbesWrong)

/-- 'legationlaw20.SourcesArranges': WHATEVER THE INPUT: true; the input reads as it did. -/
def sourcesArrangesSpec : ChangeSpec := { name := "sourcesArranges", fn := fun _ => fun
  | [d1, d2, d3] => { results := [.lit (.bool true)], args := [d1, d2, d3] }
  | _ => none }
def sourcesArrangesRow : OpenClaim := { program := "ytgcjhcefpkbheaa", sum := "91a84390299bd0ecd6249f37a1fa32a6b9f75834533082d725522a70debc8850", func := "legation/legationlaw20.SourcesArranges", spec := "sourcesArranges", unfollowed := true, recurses := true, apart := false }
def SourcesArrangesSaid : Prop := sourcesArrangesRow.holds Try.pinned (OpenSpec.ofChange sourcesArrangesSpec)

/-- ITS FALSE NEIGHBOUR: 'it returns false'. Refute it at one input. -/
def sourcesArrangesWrong : ChangeSpec := { name := "sourcesArranges", fn := fun _ => fun
  | [d1, d2, d3] => { results := [.lit (.bool false)], args := [d1, d2, d3] }
  | _ => none }
def SourcesArrangesWrongFalsely : Prop := sourcesArrangesRow.holds Try.pinned (OpenSpec.ofChange sourcesArrangesWrong)

/-- 'legationlaw20.SourcesConnected': WHATEVER THE INPUT: true; the input reads as it did. -/
def sourcesConnectedSpec : ChangeSpec := { name := "sourcesConnected", fn := fun _ => fun
  | [d1, d2, d3] => { results := [.lit (.bool true)], args := [d1, d2, d3] }
  | _ => none }
def sourcesConnectedRow : OpenClaim := { program := "ytgcjhcefpkbheaa", sum := "91a84390299bd0ecd6249f37a1fa32a6b9f75834533082d725522a70debc8850", func := "legation/legationlaw20.SourcesConnected", spec := "sourcesConnected", unfollowed := true, recurses := true, apart := false }
def SourcesConnectedSaid : Prop := sourcesConnectedRow.holds Try.pinned (OpenSpec.ofChange sourcesConnectedSpec)

/-- ITS FALSE NEIGHBOUR: 'it returns false'. Refute it at one input. -/
def sourcesConnectedWrong : ChangeSpec := { name := "sourcesConnected", fn := fun _ => fun
  | [d1, d2, d3] => { results := [.lit (.bool false)], args := [d1, d2, d3] }
  | _ => none }
def SourcesConnectedWrongFalsely : Prop := sourcesConnectedRow.holds Try.pinned (OpenSpec.ofChange sourcesConnectedWrong)

/- THE SECOND FORM. 'bulk': how many values and letters a reading holds, each counted each time it is reached (what is shared counts as often as it is met; a slice's spare places count too). A statement '..UptoSaid' is the law's where the arguments, and the package variables that the reading takes, are together of bulk at most 1048576: NARROWER than '..Said'. Prove '..Said' where nothing that the law and all that it calls make is longer than what came in: it says more and counts as full. Else prove '..UptoSaid'. A law counts once. -/
mutual
def uptoBulk {H : Type} : DataW H → Nat
  | .lit (.string bytes) => bytes.length + 1
  | .lit _ => 1
  | .nil => 1
  | .ptr d => uptoBulk d + 1
  | .slice elems spare => uptoBulkAll elems + uptoBulkAll spare + 1
  | .agg parts => uptoBulkAll parts + 1
  | .iface _ d => uptoBulk d + 1
  | .map entries => uptoBulkEntries entries + 1
  | .held _ => 1
def uptoBulkAll {H : Type} : List (DataW H) → Nat
  | [] => 0
  | d :: r => uptoBulk d + uptoBulkAll r
def uptoBulkEntries {H : Type} : List (Lit × DataW H) → Nat
  | [] => 0
  | x :: r => uptoBulkEntry x + uptoBulkEntries r
def uptoBulkEntry {H : Type} : Lit × DataW H → Nat
  | (.string bytes, d) => bytes.length + uptoBulk d + 1
  | (_, d) => uptoBulk d + 1
 end
def uptoSmall : (H : Type) → List (DataW H) → Bool := fun _ ds => decide (uptoBulkAll ds ≤ 1048576)
def OpenSpec.upto (s : _root_.Go.ChangeSpec) : _root_.Go.OpenSpec := { _root_.Go.OpenSpec.ofChange s with cond := some uptoSmall }

/-- 'legationlaw20.SourcesGroups', WHERE WHAT IT READS IS OF BULK AT MOST 1048576: true; the input reads as it did. -/
def sourcesGroupsUptoRow : OpenClaim := { program := "ytgcjhcefpkbheaa", sum := "91a84390299bd0ecd6249f37a1fa32a6b9f75834533082d725522a70debc8850", func := "legation/legationlaw20.SourcesGroups", spec := "sourcesGroups", unfollowed := true, recurses := true, apart := false, narrowed := true }
def SourcesGroupsUptoSaid : Prop := sourcesGroupsUptoRow.holds Try.pinned (OpenSpec.upto sourcesGroupsSpec)

/-- 'legationlaw20.SourcesCover', WHERE WHAT IT READS IS OF BULK AT MOST 1048576: true; the input reads as it did. -/
def sourcesCoverUptoRow : OpenClaim := { program := "ytgcjhcefpkbheaa", sum := "91a84390299bd0ecd6249f37a1fa32a6b9f75834533082d725522a70debc8850", func := "legation/legationlaw20.SourcesCover", spec := "sourcesCover", unfollowed := true, recurses := true, apart := false, narrowed := true }
def SourcesCoverUptoSaid : Prop := sourcesCoverUptoRow.holds Try.pinned (OpenSpec.upto sourcesCoverSpec)

/-- 'legationlaw20.SourcesPoints', WHERE WHAT IT READS IS OF BULK AT MOST 1048576: true; the input reads as it did. -/
def sourcesPointsUptoRow : OpenClaim := { program := "ytgcjhcefpkbheaa", sum := "91a84390299bd0ecd6249f37a1fa32a6b9f75834533082d725522a70debc8850", func := "legation/legationlaw20.SourcesPoints", spec := "sourcesPoints", unfollowed := true, recurses := true, apart := false, narrowed := true }
def SourcesPointsUptoSaid : Prop := sourcesPointsUptoRow.holds Try.pinned (OpenSpec.upto sourcesPointsSpec)

/-- 'legationlaw20.SourcesProbes', WHERE WHAT IT READS IS OF BULK AT MOST 1048576: true; the input reads as it did. -/
def sourcesProbesUptoRow : OpenClaim := { program := "ytgcjhcefpkbheaa", sum := "91a84390299bd0ecd6249f37a1fa32a6b9f75834533082d725522a70debc8850", func := "legation/legationlaw20.SourcesProbes", spec := "sourcesProbes", unfollowed := true, recurses := true, apart := false, narrowed := true }
def SourcesProbesUptoSaid : Prop := sourcesProbesUptoRow.holds Try.pinned (OpenSpec.upto sourcesProbesSpec)

/-- 'legationlaw20.SourcesArranges', WHERE WHAT IT READS IS OF BULK AT MOST 1048576: true; the input reads as it did. -/
def sourcesArrangesUptoRow : OpenClaim := { program := "ytgcjhcefpkbheaa", sum := "91a84390299bd0ecd6249f37a1fa32a6b9f75834533082d725522a70debc8850", func := "legation/legationlaw20.SourcesArranges", spec := "sourcesArranges", unfollowed := true, recurses := true, apart := false, narrowed := true }
def SourcesArrangesUptoSaid : Prop := sourcesArrangesUptoRow.holds Try.pinned (OpenSpec.upto sourcesArrangesSpec)

/-- 'legationlaw20.SourcesConnected', WHERE WHAT IT READS IS OF BULK AT MOST 1048576: true; the input reads as it did. -/
def sourcesConnectedUptoRow : OpenClaim := { program := "ytgcjhcefpkbheaa", sum := "91a84390299bd0ecd6249f37a1fa32a6b9f75834533082d725522a70debc8850", func := "legation/legationlaw20.SourcesConnected", spec := "sourcesConnected", unfollowed := true, recurses := true, apart := false, narrowed := true }
def SourcesConnectedUptoSaid : Prop := sourcesConnectedUptoRow.holds Try.pinned (OpenSpec.upto sourcesConnectedSpec)

end Rows
end Go.Proofs.Ytgcjhcefpkbheaa
