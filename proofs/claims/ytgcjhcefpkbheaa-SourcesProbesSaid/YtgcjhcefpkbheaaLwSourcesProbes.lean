/- WHATEVER THE INPUT: legation/legationlaw20.SourcesProbes returns true, and each argument reads behind the call as it read before. Conditions: none beyond the row's own. -/
import Derived.Test.YtgcjhcefpkbheaaSwG
import Derived.Test.YtgcjhcefpkbheaaT20E
import Derived.Test.YtgcjhcefpkbheaaRows
import Derived.JoinedOf
set_option maxRecDepth 100000
namespace Go.Proofs.Ytgcjhcefpkbheaa.T20
open Go.Proofs.Ytgcjhcefpkbheaa.Lg Go Go.Proofs.Ytgcjhcefpkbheaa.Sp
open Go.Proofs
theorem own6 : ownKnob Try.prog.godebug = none := by kernel_rfl
theorem laid6 : laidOutB Try.prog = true := by kernel_rfl
theorem lifted6 (os : Os) (started : os.Started) (H : Type) (enc : TypeId × Value → H) :
    ReturnsInHanded {} Try.checked os 6 .any (Ytgcjhcefpkbheaa.Rows.sourcesProbesSpec.pre6 enc Try.prog Try.f6 Ytgcjhcefpkbheaa.Rows.sourcesProbesRow.domain false) (Ytgcjhcefpkbheaa.Rows.sourcesProbesSpec.post enc Try.prog Try.f6 false true false false) := by
  refine returnsInHanded_of_change_sized (C := Try.checked) own6 started (by kernel_rfl) Try.func6
    (ChangeSpec.witness6 (enc := enc) (C := Try.checked) false ⟨#[], #[.agg #[.int .i64 0, .string ByteArray.empty, .string ByteArray.empty, .string ByteArray.empty, .int .i64 0, .string ByteArray.empty, .string ByteArray.empty, .string ByteArray.empty, .int .i64 0, .string ByteArray.empty, .string ByteArray.empty, .string ByteArray.empty]], []⟩ 8 (by kernel_rfl) (by kernel_rfl) (by kernel_rfl) (by kernel_rfl)) ?_
  intro W base args ds gs before hval hW hcnd hsz _
  refine contract_of (ps := [(true, [.int .i64, .str, .str, .str, .int .i64, .str, .str, .str, .int .i64, .str, .str, .str])]) satl_Probes laid6 (by kernel_rfl) (tb := 4) (by kernel_rfl) (by kernel_rfl) rfl (fun ds h => ?_) ?_ W base args ds gs before (JW.none (by kernel_rfl) W) hval hW hsz
  · match ds, h with
    | [d0], _ => rfl
  · rintro ⟨p, _⟩ hsm
    obtain ⟨ht, _⟩ := hsm
    exact ⟨sz3_of ht, rfl⟩
theorem over6 : Ytgcjhcefpkbheaa.Rows.sourcesProbesRow.holds Ytgcjhcefpkbheaa.Try.pinned (OpenSpec.ofChange Ytgcjhcefpkbheaa.Rows.sourcesProbesSpec) :=
  OpenClaim.holds_of_wide 6 Try.f6 rfl rfl rfl rfl rfl rfl rfl ⟨rfl, rfl, rfl, rfl, rfl⟩ rfl rfl rfl rfl rfl (by kernel_rfl) Try.func6 (by kernel_rfl)
    (of_decide_eq_true (by kernel_rfl)) (by unfold Func.isWrapper; first | (rw [if_pos (by decide +kernel)]; kernel_rfl) | (rw [if_neg (by decide +kernel)]; exact ⟨rfl, rfl⟩))
    (fun os started H enc _ => lifted6 os started H enc)
theorem proved6 : Ytgcjhcefpkbheaa.Rows.SourcesProbesSaid := over6
#print axioms proved6
end Go.Proofs.Ytgcjhcefpkbheaa.T20
