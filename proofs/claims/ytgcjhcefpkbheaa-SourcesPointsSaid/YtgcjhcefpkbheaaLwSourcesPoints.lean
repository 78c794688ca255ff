/- WHATEVER THE INPUT: legation/legationlaw20.SourcesPoints returns true, and each argument reads behind the call as it read before. Conditions: none beyond the row's own. -/
import Derived.Test.YtgcjhcefpkbheaaSwG
import Derived.Test.YtgcjhcefpkbheaaT20E
import Derived.Test.YtgcjhcefpkbheaaRows
import Derived.JoinedOf
set_option maxRecDepth 100000
namespace Go.Proofs.Ytgcjhcefpkbheaa.T20
open Go.Proofs.Ytgcjhcefpkbheaa.Lg Go Go.Proofs.Ytgcjhcefpkbheaa.Sp
open Go.Proofs
theorem own5 : ownKnob Try.prog.godebug = none := by kernel_rfl
theorem laid5 : laidOutB Try.prog = true := by kernel_rfl
theorem lifted5 (os : Os) (started : os.Started) (H : Type) (enc : TypeId × Value → H) :
    ReturnsInHanded {} Try.checked os 5 .any (Ytgcjhcefpkbheaa.Rows.sourcesPointsSpec.pre6 enc Try.prog Try.f5 Ytgcjhcefpkbheaa.Rows.sourcesPointsRow.domain false) (Ytgcjhcefpkbheaa.Rows.sourcesPointsSpec.post enc Try.prog Try.f5 false true false false) := by
  refine returnsInHanded_of_change_sized (C := Try.checked) own5 started (by kernel_rfl) Try.func5
    (ChangeSpec.witness6 (enc := enc) (C := Try.checked) false ⟨#[], #[.slice none 0 0, .int .i64 0], []⟩ 8 (by kernel_rfl) (by kernel_rfl) (by kernel_rfl) (by kernel_rfl)) ?_
  intro W base args ds gs before hval hW hcnd hsz _
  refine contract_of (ps := [(false, [.sl [.sl [.bool]]]), (false, [.int .i64])]) satl_Points laid5 (by kernel_rfl) (tb := 4) (by kernel_rfl) (by kernel_rfl) rfl (fun ds h => ?_) ?_ W base args ds gs before (JW.none (by kernel_rfl) W) hval hW hsz
  · match ds, h with
    | [d0, d1], _ => rfl
  · rintro ⟨⟨(answers : List (RowE [.sl [.bool]])), _⟩, ⟨(points : Int), _⟩, _⟩ hsm
    obtain ⟨⟨ha, _⟩, _⟩ := hsm
    have h1 : answers.length * 24 ≤ 140737488355328 := small_rows ha 24 rfl
    refine ⟨⟨by show answers.length ≤ _; omega, fun x hx => ?_⟩, rfl⟩
    have h2 : (x.1 : List (RowE [.bool])).length * 1 ≤ 140737488355328 := small_rows (es := [.bool]) (ha.2 x hx).1 1 rfl
    omega
theorem over5 : Ytgcjhcefpkbheaa.Rows.sourcesPointsRow.holds Ytgcjhcefpkbheaa.Try.pinned (OpenSpec.ofChange Ytgcjhcefpkbheaa.Rows.sourcesPointsSpec) :=
  OpenClaim.holds_of_wide 5 Try.f5 rfl rfl rfl rfl rfl rfl rfl ⟨rfl, rfl, rfl, rfl, rfl⟩ rfl rfl rfl rfl rfl (by kernel_rfl) Try.func5 (by kernel_rfl)
    (of_decide_eq_true (by kernel_rfl)) (by unfold Func.isWrapper; first | (rw [if_pos (by decide +kernel)]; kernel_rfl) | (rw [if_neg (by decide +kernel)]; exact ⟨rfl, rfl⟩))
    (fun os started H enc _ => lifted5 os started H enc)
theorem proved5 : Ytgcjhcefpkbheaa.Rows.SourcesPointsSaid := over5
#print axioms proved5
end Go.Proofs.Ytgcjhcefpkbheaa.T20
