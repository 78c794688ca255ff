/- WHATEVER THE INPUT: legation/legationlaw20.SourcesCover returns true, and each argument reads behind the call as it read before. Conditions: none beyond the row's own. -/
import Derived.Test.YtgcjhcefpkbheaaSwG
import Derived.Test.YtgcjhcefpkbheaaT20E
import Derived.Test.YtgcjhcefpkbheaaRows
import Derived.JoinedOf
set_option maxRecDepth 100000
namespace Go.Proofs.Ytgcjhcefpkbheaa.T20
open Go.Proofs.Ytgcjhcefpkbheaa.Lg Go Go.Proofs.Ytgcjhcefpkbheaa.Sp
open Go.Proofs
theorem own4 : ownKnob Try.prog.godebug = none := by kernel_rfl
theorem laid4 : laidOutB Try.prog = true := by kernel_rfl
theorem lifted4 (os : Os) (started : os.Started) (H : Type) (enc : TypeId × Value → H) :
    ReturnsInHanded {} Try.checked os 4 .any (Ytgcjhcefpkbheaa.Rows.sourcesCoverSpec.pre6 enc Try.prog Try.f4 Ytgcjhcefpkbheaa.Rows.sourcesCoverRow.domain false) (Ytgcjhcefpkbheaa.Rows.sourcesCoverSpec.post enc Try.prog Try.f4 false true false false) := by
  refine returnsInHanded_of_change_sized (C := Try.checked) own4 started (by kernel_rfl) Try.func4
    (ChangeSpec.witness6 (enc := enc) (C := Try.checked) false ⟨#[], #[.slice none 0 0, .bool false], []⟩ 8 (by kernel_rfl) (by kernel_rfl) (by kernel_rfl) (by kernel_rfl)) ?_
  intro W base args ds gs before hval hW hcnd hsz _
  refine contract_of (ps := [(false, [.sl [.sl [.int .i64]]]), (false, [.bool])]) satl_Cover laid4 (by kernel_rfl) (tb := 4) (by kernel_rfl) (by kernel_rfl) rfl (fun ds h => ?_) ?_ W base args ds gs before (JW.none (by kernel_rfl) W) hval hW hsz
  · match ds, h with
    | [d0, d1], _ => rfl
  · rintro ⟨⟨(points : List (RowE [.sl [.int .i64]])), _⟩, ⟨(exclusive : Bool), _⟩, _⟩ hsm
    exact rfl
theorem over4 : Ytgcjhcefpkbheaa.Rows.sourcesCoverRow.holds Ytgcjhcefpkbheaa.Try.pinned (OpenSpec.ofChange Ytgcjhcefpkbheaa.Rows.sourcesCoverSpec) :=
  OpenClaim.holds_of_wide 4 Try.f4 rfl rfl rfl rfl rfl rfl rfl ⟨rfl, rfl, rfl, rfl, rfl⟩ rfl rfl rfl rfl rfl (by kernel_rfl) Try.func4 (by kernel_rfl)
    (of_decide_eq_true (by kernel_rfl)) (by unfold Func.isWrapper; first | (rw [if_pos (by decide +kernel)]; kernel_rfl) | (rw [if_neg (by decide +kernel)]; exact ⟨rfl, rfl⟩))
    (fun os started H enc _ => lifted4 os started H enc)
theorem proved4 : Ytgcjhcefpkbheaa.Rows.SourcesCoverSaid := over4
#print axioms proved4
end Go.Proofs.Ytgcjhcefpkbheaa.T20
