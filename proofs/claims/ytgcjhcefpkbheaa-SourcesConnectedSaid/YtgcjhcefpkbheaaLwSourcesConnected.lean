/- WHATEVER THE INPUT: legation/legationlaw20.SourcesConnected returns true, and each argument reads behind the call as it read before. Conditions: none beyond the row's own. -/
import Derived.Test.YtgcjhcefpkbheaaSwG
import Derived.Test.YtgcjhcefpkbheaaT20E
import Derived.Test.YtgcjhcefpkbheaaRows
import Derived.JoinedOf
set_option maxRecDepth 100000
namespace Go.Proofs.Ytgcjhcefpkbheaa.T20
open Go.Proofs.Ytgcjhcefpkbheaa.Lg Go Go.Proofs.Ytgcjhcefpkbheaa.Sp
open Go.Proofs
theorem own8 : ownKnob Try.prog.godebug = none := by kernel_rfl
theorem laid8 : laidOutB Try.prog = true := by kernel_rfl
theorem lifted8 (os : Os) (started : os.Started) (H : Type) (enc : TypeId × Value → H) :
    ReturnsInHanded {} Try.checked os 8 .any (Ytgcjhcefpkbheaa.Rows.sourcesConnectedSpec.pre6 enc Try.prog Try.f8 Ytgcjhcefpkbheaa.Rows.sourcesConnectedRow.domain false) (Ytgcjhcefpkbheaa.Rows.sourcesConnectedSpec.post enc Try.prog Try.f8 false true false false) := by
  refine returnsInHanded_of_change_sized (C := Try.checked) own8 started (by kernel_rfl) Try.func8
    (ChangeSpec.witness6 (enc := enc) (C := Try.checked) false ⟨#[], #[.slice none 0 0, .slice none 0 0, .bool false], []⟩ 8 (by kernel_rfl) (by kernel_rfl) (by kernel_rfl) (by kernel_rfl)) ?_
  intro W base args ds gs before hval hW hcnd hsz _
  refine contract_of (ps := [(false, [.sl [.int .i64, .str, .str, .str, .int .i64, .str, .str, .str, .int .i64, .str, .str, .str]]), (false, [.sl [.sl [.int .i64]]]), (false, [.bool])]) satl_Connected laid8 (by kernel_rfl) (tb := 4) (by kernel_rfl) (by kernel_rfl) rfl (fun ds h => ?_) ?_ W base args ds gs before (JW.none (by kernel_rfl) W) hval hW hsz
  · match ds, h with
    | [d0, d1, d2], _ => rfl
  · rintro ⟨⟨(l : List (RowE [.int .i64, .str, .str, .str, .int .i64, .str, .str, .str, .int .i64, .str, .str, .str])), _⟩, ⟨(points : List (RowE [.sl [.int .i64]])), _⟩, ⟨(reverse : Bool), _⟩, _⟩ hsm
    obtain ⟨⟨hl, _⟩, _⟩ := hsm
    exact ⟨fun x hx => sz3_of (hl.2 x hx), rfl⟩
theorem over8 : Ytgcjhcefpkbheaa.Rows.sourcesConnectedRow.holds Ytgcjhcefpkbheaa.Try.pinned (OpenSpec.ofChange Ytgcjhcefpkbheaa.Rows.sourcesConnectedSpec) :=
  OpenClaim.holds_of_wide 8 Try.f8 rfl rfl rfl rfl rfl rfl rfl ⟨rfl, rfl, rfl, rfl, rfl⟩ rfl rfl rfl rfl rfl (by kernel_rfl) Try.func8 (by kernel_rfl)
    (of_decide_eq_true (by kernel_rfl)) (by unfold Func.isWrapper; first | (rw [if_pos (by decide +kernel)]; kernel_rfl) | (rw [if_neg (by decide +kernel)]; exact ⟨rfl, rfl⟩))
    (fun os started H enc _ => lifted8 os started H enc)
theorem proved8 : Ytgcjhcefpkbheaa.Rows.SourcesConnectedSaid := over8
#print axioms proved8
end Go.Proofs.Ytgcjhcefpkbheaa.T20
