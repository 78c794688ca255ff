/- WHATEVER THE INPUT: legation/legationlaw07.ScopeRights returns true, and each argument reads behind the call as it read before. Conditions: none beyond the row's own. -/
import Derived.Test.YtfpojhphmgnfhaaT7E
import Derived.Test.YtfpojhphmgnfhaaRows
import Derived.JoinedOf
set_option maxRecDepth 100000
namespace Go.Proofs.Ytfpojhphmgnfhaa.T7
open Go.Proofs.Ytfpojhphmgnfhaa.Lg Go Go.Proofs.Ytfpojhphmgnfhaa.Sp
open Go.Proofs
theorem own3 : ownKnob Try.prog.godebug = none := by kernel_rfl
theorem laid3 : laidOutB Try.prog = true := by kernel_rfl
theorem lifted3 (os : Os) (started : os.Started) (H : Type) (enc : TypeId × Value → H) :
    ReturnsInHanded {} Try.checked os 3 .any (Ytfpojhphmgnfhaa.Rows.scopeRightsSpec.pre6 enc Try.prog Try.f3 Ytfpojhphmgnfhaa.Rows.scopeRightsRow.domain false) (Ytfpojhphmgnfhaa.Rows.scopeRightsSpec.post enc Try.prog Try.f3 false true false false) := by
  refine returnsInHanded_of_change_sized (C := Try.checked) own3 started (by kernel_rfl) Try.func3
    (ChangeSpec.witness6 (enc := enc) (C := Try.checked) false ⟨#[], #[.agg #[.int .i64 0, .slice none 0 0, .slice none 0 0, .slice none 0 0, .slice none 0 0, .string ByteArray.empty, .bool false]], []⟩ 8 (by kernel_rfl) (by kernel_rfl) (by kernel_rfl) (by kernel_rfl)) ?_
  intro W base args ds gs before hval hW hcnd hsz _
  refine contract_of (ps := [(true, [.int .i64, .sl [.int .i64, .str, .str, .str, .int .i64, .str, .str, .str, .int .i64, .str, .str, .str], .sl [.str], .sl [.sl [.int .i64, .str, .str, .str]], .sl [.int .i64, .int .i64, .str, .str, .str, .str, .int .i64], .str, .bool])]) satl_Rights laid3 (by kernel_rfl) (tb := 4) (by kernel_rfl) (by kernel_rfl) rfl (fun ds h => ?_) ?_ W base args ds gs before (JW.none (by kernel_rfl) W) hval hW hsz
  · match ds, h with
    | [d0], _ => rfl
  · rintro ⟨o, _⟩ hsm
    obtain ⟨ho, _⟩ := hsm
    exact ⟨small_O ho, rfl⟩
theorem over3 : Ytfpojhphmgnfhaa.Rows.scopeRightsRow.holds Ytfpojhphmgnfhaa.Try.pinned (OpenSpec.ofChange Ytfpojhphmgnfhaa.Rows.scopeRightsSpec) :=
  OpenClaim.holds_of_wide 3 Try.f3 rfl rfl rfl rfl rfl rfl rfl ⟨rfl, rfl, rfl, rfl, rfl⟩ rfl rfl rfl rfl rfl (by kernel_rfl) Try.func3 (by kernel_rfl)
    (of_decide_eq_true (by kernel_rfl)) (by unfold Func.isWrapper; first | (rw [if_pos (by decide +kernel)]; kernel_rfl) | (rw [if_neg (by decide +kernel)]; exact ⟨rfl, rfl⟩))
    (fun os started H enc _ => lifted3 os started H enc)
theorem proved3 : Ytfpojhphmgnfhaa.Rows.ScopeRightsSaid := over3
#print axioms proved3
end Go.Proofs.Ytfpojhphmgnfhaa.T7
