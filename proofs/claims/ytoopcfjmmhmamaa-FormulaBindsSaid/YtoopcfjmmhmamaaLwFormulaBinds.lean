/- WHATEVER THE INPUT: legation/legationlaw06.FormulaBinds returns true, and each argument reads behind the call as it read before. Conditions: none beyond the row's own. -/
import Derived.Test.YtoopcfjmmhmamaaT6F
import Derived.Test.YtoopcfjmmhmamaaRows
import Derived.JoinedOf
set_option maxRecDepth 100000
namespace Go.Proofs.Ytoopcfjmmhmamaa.T6
open Go.Proofs.Ytoopcfjmmhmamaa.Lg Go Go.Proofs.Ytoopcfjmmhmamaa.Sp
open Go.Proofs
theorem own3 : ownKnob Try.prog.godebug = none := by kernel_rfl
theorem laid3 : laidOutB Try.prog = true := by kernel_rfl
theorem lifted3 (os : Os) (started : os.Started) (H : Type) (enc : TypeId × Value → H) :
    ReturnsInHanded {} Try.checked os 3 .any (Ytoopcfjmmhmamaa.Rows.formulaBindsSpec.pre6 enc Try.prog Try.f3 Ytoopcfjmmhmamaa.Rows.formulaBindsRow.domain false) (Ytoopcfjmmhmamaa.Rows.formulaBindsSpec.post enc Try.prog Try.f3 false true false false) := by
  refine returnsInHanded_of_change_sized (C := Try.checked) own3 started (by kernel_rfl) Try.func3
    (ChangeSpec.witness6 (enc := enc) (C := Try.checked) false ⟨#[], #[.int .u8 0, .int .u8 0], []⟩ 8 (by kernel_rfl) (by kernel_rfl) (by kernel_rfl) (by kernel_rfl)) ?_
  intro W base args ds gs before hval hW hcnd hsz _
  refine contract_of (ps := [(false, [.int .u8]), (false, [.int .u8])]) satl3 laid3 (by kernel_rfl) (tb := 4) (by kernel_rfl) (by kernel_rfl) rfl (fun ds h => ?_) ?_ W base args ds gs before (JW.none (by kernel_rfl) W) hval hW hsz
  · match ds, h with
    | [d0, d1], _ => rfl
  · rintro ⟨⟨(x : Int), _⟩, ⟨(y : Int), _⟩, _⟩ hsm
    obtain ⟨hx, hy, _⟩ := hsm
    exact ⟨⟨u8_of hx.1, u8_of hy.1⟩, rfl⟩
theorem over3 : Ytoopcfjmmhmamaa.Rows.formulaBindsRow.holds Ytoopcfjmmhmamaa.Try.pinned (OpenSpec.ofChange Ytoopcfjmmhmamaa.Rows.formulaBindsSpec) :=
  OpenClaim.holds_of_wide 3 Try.f3 rfl rfl rfl rfl rfl rfl rfl ⟨rfl, rfl, rfl, rfl, rfl⟩ rfl rfl rfl rfl rfl (by kernel_rfl) Try.func3 (by kernel_rfl)
    (of_decide_eq_true (by kernel_rfl)) (by unfold Func.isWrapper; first | (rw [if_pos (by decide +kernel)]; kernel_rfl) | (rw [if_neg (by decide +kernel)]; exact ⟨rfl, rfl⟩))
    (fun os started H enc _ => lifted3 os started H enc)
theorem proved3 : Ytoopcfjmmhmamaa.Rows.FormulaBindsSaid := over3
#print axioms proved3
end Go.Proofs.Ytoopcfjmmhmamaa.T6
