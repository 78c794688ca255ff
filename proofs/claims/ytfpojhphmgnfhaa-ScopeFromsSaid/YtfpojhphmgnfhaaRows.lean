/-
  No cell of these rows narrows 'for every input' (looked for: loops, veiled, ifaces, maps, wideKeys, modest, calm, conditions, laid).
  DERIVED. THE GIVEN ROWS OF THIS SEAT. 5 by the template 'for every input the law returns true; each argument reads behind the call as it read before'; 0 by the template 'total and deterministic' (their statements: YtfpojhphmgnfhaaTotals.lean).
  GIVEN WITH THE SEED: the statements are not yours to turn. If you find one false, say at which input.
  Laid BY PROGRAM, IN A SANDBOX (cutbox-rows.mjs): the forced cells as the released guide's own fill.sh prints them over the translation 7825ea2a5e8c8640… (all of the seat's roots in one cut). By AI agents, Wed Nov 11 2026. No macro, syntax, notation, axiom, sorry.
-/
import Derived.Test.YtfpojhphmgnfhaaChecked
import GoSem.Claim
import GoSem.ClaimJoined
import GoSem.ClaimMapViews
import Derived.JoinedTies
import Derived.KernelRfl
namespace Go.Proofs.Ytfpojhphmgnfhaa
/- THE CELL 'sum', in the pinned program and in every row, IS THE sha256 OF THE DUMP (.gsa) THAT YtfpojhphmgnfhaaProg.lean LOADS. Nothing in Lean hashes anything: it is a label: what it is worth is what the hold of that sum in a sandbox is worth. -/
noncomputable def Try.pinned : Pinned := { name := "ytfpojhphmgnfhaa", sum := "7825ea2a5e8c8640ea9300fd5f6e379d1dfeb0d7f0fef7dadaf9b56312ff143f", checked := Try.checked }
namespace Rows
def none {H : Type} : Left H := { results := [], args := [] }

/-- 'legationlaw07.ScopeRights': WHATEVER THE INPUT: true; the input reads as it did. -/
def scopeRightsSpec : ChangeSpec := { name := "scopeRights", fn := fun _ => fun
  | [d] => { results := [.lit (.bool true)], args := [d] }
  | _ => none }
def scopeRightsRow : OpenClaim := { program := "ytfpojhphmgnfhaa", sum := "7825ea2a5e8c8640ea9300fd5f6e379d1dfeb0d7f0fef7dadaf9b56312ff143f", func := "legation/legationlaw07.ScopeRights", spec := "scopeRights", unfollowed := true, recurses := true, apart := false }
def ScopeRightsSaid : Prop := scopeRightsRow.holds Try.pinned (OpenSpec.ofChange scopeRightsSpec)

/-- ITS FALSE NEIGHBOUR: 'it returns false'. Refute it at one input. -/
def scopeRightsWrong : ChangeSpec := { name := "scopeRights", fn := fun _ => fun
  | [d] => { results := [.lit (.bool false)], args := [d] }
  | _ => none }
def ScopeRightsWrongFalsely : Prop := scopeRightsRow.holds Try.pinned (OpenSpec.ofChange scopeRightsWrong)

/-- 'legationlaw07.ScopeNames': WHATEVER THE INPUT: true; the input reads as it did. -/
def scopeNamesSpec : ChangeSpec := { name := "scopeNames", fn := fun _ => fun
  | [d1, d2] => { results := [.lit (.bool true)], args := [d1, d2] }
  | _ => none }
def scopeNamesRow : OpenClaim := { program := "ytfpojhphmgnfhaa", sum := "7825ea2a5e8c8640ea9300fd5f6e379d1dfeb0d7f0fef7dadaf9b56312ff143f", func := "legation/legationlaw07.ScopeNames", spec := "scopeNames", unfollowed := true, recurses := true, apart := false }
def ScopeNamesSaid : Prop := scopeNamesRow.holds Try.pinned (OpenSpec.ofChange scopeNamesSpec)

/-- ITS FALSE NEIGHBOUR: 'it returns false'. Refute it at one input. -/
def scopeNamesWrong : ChangeSpec := { name := "scopeNames", fn := fun _ => fun
  | [d1, d2] => { results := [.lit (.bool false)], args := [d1, d2] }
  | _ => none }
def ScopeNamesWrongFalsely : Prop := scopeNamesRow.holds Try.pinned (OpenSpec.ofChange scopeNamesWrong)

/-- 'legationlaw07.ScopeCertain': WHATEVER THE INPUT: true; the input reads as it did. -/
def scopeCertainSpec : ChangeSpec := { name := "scopeCertain", fn := fun _ => fun
  | [d1, d2] => { results := [.lit (.bool true)], args := [d1, d2] }
  | _ => none }
def scopeCertainRow : OpenClaim := { program := "ytfpojhphmgnfhaa", sum := "7825ea2a5e8c8640ea9300fd5f6e379d1dfeb0d7f0fef7dadaf9b56312ff143f", func := "legation/legationlaw07.ScopeCertain", spec := "scopeCertain", unfollowed := true, recurses := true, apart := false }
def ScopeCertainSaid : Prop := scopeCertainRow.holds Try.pinned (OpenSpec.ofChange scopeCertainSpec)

/-- ITS FALSE NEIGHBOUR: 'it returns false'. Refute it at one input. -/
def scopeCertainWrong : ChangeSpec := { name := "scopeCertain", fn := fun _ => fun
  | [d1, d2] => { results := [.lit (.bool false)], args := [d1, d2] }
  | _ => none }
def ScopeCertainWrongFalsely : Prop := scopeCertainRow.holds Try.pinned (OpenSpec.ofChange scopeCertainWrong)

/-- 'legationlaw07.ScopeChecks': WHATEVER THE INPUT: true; the input reads as it did. -/
def scopeChecksSpec : ChangeSpec := { name := "scopeChecks", fn := fun _ => fun
  | [d] => { results := [.lit (.bool true)], args := [d] }
  | _ => none }
def scopeChecksRow : OpenClaim := { program := "ytfpojhphmgnfhaa", sum := "7825ea2a5e8c8640ea9300fd5f6e379d1dfeb0d7f0fef7dadaf9b56312ff143f", func := "legation/legationlaw07.ScopeChecks", spec := "scopeChecks", unfollowed := true, recurses := true, apart := false }
def ScopeChecksSaid : Prop := scopeChecksRow.holds Try.pinned (OpenSpec.ofChange scopeChecksSpec)

/-- ITS FALSE NEIGHBOUR: 'it returns false'. Refute it at one input. -/
def scopeChecksWrong : ChangeSpec := { name := "scopeChecks", fn := fun _ => fun
  | [d] => { results := [.lit (.bool false)], args := [d] }
  | _ => none }
def ScopeChecksWrongFalsely : Prop := scopeChecksRow.holds Try.pinned (OpenSpec.ofChange scopeChecksWrong)

/-- 'legationlaw07.ScopeFroms': WHATEVER THE INPUT: true; the input reads as it did. -/
def scopeFromsSpec : ChangeSpec := { name := "scopeFroms", fn := fun _ => fun
  | [d1, d2] => { results := [.lit (.bool true)], args := [d1, d2] }
  | _ => none }
def scopeFromsRow : OpenClaim := { program := "ytfpojhphmgnfhaa", sum := "7825ea2a5e8c8640ea9300fd5f6e379d1dfeb0d7f0fef7dadaf9b56312ff143f", func := "legation/legationlaw07.ScopeFroms", spec := "scopeFroms", unfollowed := true, recurses := true, apart := false }
def ScopeFromsSaid : Prop := scopeFromsRow.holds Try.pinned (OpenSpec.ofChange scopeFromsSpec)

/-- ITS FALSE NEIGHBOUR: 'it returns false'. Refute it at one input. -/
def scopeFromsWrong : ChangeSpec := { name := "scopeFroms", fn := fun _ => fun
  | [d1, d2] => { results := [.lit (.bool false)], args := [d1, d2] }
  | _ => none }
def ScopeFromsWrongFalsely : Prop := scopeFromsRow.holds Try.pinned (OpenSpec.ofChange scopeFromsWrong)

/- THE SECOND FORM. 'bulk': how many values and letters a reading holds, each counted each time it is reached (what is shared counts as often as it is met; a slice's spare places count too). A statement '..UptoSaid' is the law's where the arguments, and the package variables that the reading takes, are together of bulk at most 1048576: NARROWER than '..Said'. Prove '..Said' where nothing that the law and all that it calls make is longer than what came in: it says more and counts as full. Else prove '..UptoSaid'. A law counts once. -/
mutual
def uptoBulk {H : Type} : DataW H → Nat
  | .lit (.string bytes) => bytes.length + 1
  | .lit _ => 1
  | .nil => 1
  | .ptr d => uptoBulk d + 1
  | .slice elems spare => uptoBulkAll elems + uptoBulkAll spare + 1
  | .agg parts => uptoBulkAll parts + 1
  | .iface _ d => uptoBulk d + 1
  | .map entries => uptoBulkEntries entries + 1
  | .held _ => 1
def uptoBulkAll {H : Type} : List (DataW H) → Nat
  | [] => 0
  | d :: r => uptoBulk d + uptoBulkAll r
def uptoBulkEntries {H : Type} : List (Lit × DataW H) → Nat
  | [] => 0
  | x :: r => uptoBulkEntry x + uptoBulkEntries r
def uptoBulkEntry {H : Type} : Lit × DataW H → Nat
  | (.string bytes, d) => bytes.length + uptoBulk d + 1
  | (_, d) => uptoBulk d + 1
 end
def uptoSmall : (H : Type) → List (DataW H) → Bool := fun _ ds => decide (uptoBulkAll ds ≤ 1048576)
def OpenSpec.upto (s : _root_.Go.ChangeSpec) : _root_.Go.OpenSpec := { _root_.Go.OpenSpec.ofChange s with cond := some uptoSmall }

/-- 'legationlaw07.ScopeRights', WHERE WHAT IT READS IS OF BULK AT MOST 1048576: true; the input reads as it did. -/
def scopeRightsUptoRow : OpenClaim := { program := "ytfpojhphmgnfhaa", sum := "7825ea2a5e8c8640ea9300fd5f6e379d1dfeb0d7f0fef7dadaf9b56312ff143f", func := "legation/legationlaw07.ScopeRights", spec := "scopeRights", unfollowed := true, recurses := true, apart := false, narrowed := true }
def ScopeRightsUptoSaid : Prop := scopeRightsUptoRow.holds Try.pinned (OpenSpec.upto scopeRightsSpec)

/-- 'legationlaw07.ScopeNames', WHERE WHAT IT READS IS OF BULK AT MOST 1048576: true; the input reads as it did. -/
def scopeNamesUptoRow : OpenClaim := { program := "ytfpojhphmgnfhaa", sum := "7825ea2a5e8c8640ea9300fd5f6e379d1dfeb0d7f0fef7dadaf9b56312ff143f", func := "legation/legationlaw07.ScopeNames", spec := "scopeNames", unfollowed := true, recurses := true, apart := false, narrowed := true }
def ScopeNamesUptoSaid : Prop := scopeNamesUptoRow.holds Try.pinned (OpenSpec.upto scopeNamesSpec)

/-- 'legationlaw07.ScopeCertain', WHERE WHAT IT READS IS OF BULK AT MOST 1048576: true; the input reads as it did. -/
def scopeCertainUptoRow : OpenClaim := { program := "ytfpojhphmgnfhaa", sum := "7825ea2a5e8c8640ea9300fd5f6e379d1dfeb0d7f0fef7dadaf9b56312ff143f", func := "legation/legationlaw07.ScopeCertain", spec := "scopeCertain", unfollowed := true, recurses := true, apart := false, narrowed := true }
def ScopeCertainUptoSaid : Prop := scopeCertainUptoRow.holds Try.pinned (OpenSpec.upto scopeCertainSpec)

/-- 'legationlaw07.ScopeChecks', WHERE WHAT IT READS IS OF BULK AT MOST 1048576: true; the input reads as it did. -/
def scopeChecksUptoRow : OpenClaim := { program := "ytfpojhphmgnfhaa", sum := "7825ea2a5e8c8640ea9300fd5f6e379d1dfeb0d7f0fef7dadaf9b56312ff143f", func := "legation/legationlaw07.ScopeChecks", spec := "scopeChecks", unfollowed := true, recurses := true, apart := false, narrowed := true }
def ScopeChecksUptoSaid : Prop := scopeChecksUptoRow.holds Try.pinned (OpenSpec.upto scopeChecksSpec)

/-- 'legationlaw07.ScopeFroms', WHERE WHAT IT READS IS OF BULK AT MOST 1048576: true; the input reads as it did. -/
def scopeFromsUptoRow : OpenClaim := { program := "ytfpojhphmgnfhaa", sum := "7825ea2a5e8c8640ea9300fd5f6e379d1dfeb0d7f0fef7dadaf9b56312ff143f", func := "legation/legationlaw07.ScopeFroms", spec := "scopeFroms", unfollowed := true, recurses := true, apart := false, narrowed := true }
def ScopeFromsUptoSaid : Prop := scopeFromsUptoRow.holds Try.pinned (OpenSpec.upto scopeFromsSpec)

end Rows
end Go.Proofs.Ytfpojhphmgnfhaa
