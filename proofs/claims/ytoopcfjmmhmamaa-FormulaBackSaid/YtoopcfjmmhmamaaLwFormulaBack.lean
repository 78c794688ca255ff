/- WHATEVER THE INPUT: legation/legationlaw06.FormulaBack returns true, and each argument reads behind the call as it read before. Conditions: none beyond the row's own. -/
import Derived.Test.YtoopcfjmmhmamaaT6I
import Derived.Test.YtoopcfjmmhmamaaRows
import Derived.JoinedOf
set_option maxRecDepth 100000
namespace Go.Proofs.Ytoopcfjmmhmamaa.T6
open Go.Proofs.Ytoopcfjmmhmamaa.Lg Go Go.Proofs.Ytoopcfjmmhmamaa.Sp
open Go.Proofs
theorem own5 : ownKnob Try.prog.godebug = none := by kernel_rfl
theorem laid5 : laidOutB Try.prog = true := by kernel_rfl
theorem lifted5 (os : Os) (started : os.Started) (H : Type) (enc : TypeId × Value → H) :
    ReturnsInHanded {} Try.checked os 5 .any (Ytoopcfjmmhmamaa.Rows.formulaBackSpec.pre6 enc Try.prog Try.f5 Ytoopcfjmmhmamaa.Rows.formulaBackRow.domain false) (Ytoopcfjmmhmamaa.Rows.formulaBackSpec.post enc Try.prog Try.f5 false true false false) := by
  refine returnsInHanded_of_change_sized (C := Try.checked) own5 started (by kernel_rfl) Try.func5
    (ChangeSpec.witness6 (enc := enc) (C := Try.checked) false ⟨#[], #[.slice none 0 0], []⟩ 8 (by kernel_rfl) (by kernel_rfl) (by kernel_rfl) (by kernel_rfl)) ?_
  intro W base args ds gs before hval hW hcnd hsz _
  refine contract_of (ps := [(false, [.sl [.int .i64, .int .i64, .str, .str, .str, .str, .int .i64]])]) satl6 laid5 (by kernel_rfl) (tb := 4) (by kernel_rfl) (by kernel_rfl) rfl (fun ds h => ?_) ?_ W base args ds gs before (JW.none (by kernel_rfl) W) hval hW hsz
  · match ds, h with
    | [d0], _ => rfl
  · rintro ⟨⟨(f : List (RowE [.int .i64, .int .i64, .str, .str, .str, .str, .int .i64])), _⟩, _⟩ hsm
    obtain ⟨⟨hl, _⟩, _⟩ := hsm
    exact ⟨fun x hx => szPt_of (hl.2 x hx), rfl⟩
theorem over5 : Ytoopcfjmmhmamaa.Rows.formulaBackRow.holds Ytoopcfjmmhmamaa.Try.pinned (OpenSpec.ofChange Ytoopcfjmmhmamaa.Rows.formulaBackSpec) :=
  OpenClaim.holds_of_wide 5 Try.f5 rfl rfl rfl rfl rfl rfl rfl ⟨rfl, rfl, rfl, rfl, rfl⟩ rfl rfl rfl rfl rfl (by kernel_rfl) Try.func5 (by kernel_rfl)
    (of_decide_eq_true (by kernel_rfl)) (by unfold Func.isWrapper; first | (rw [if_pos (by decide +kernel)]; kernel_rfl) | (rw [if_neg (by decide +kernel)]; exact ⟨rfl, rfl⟩))
    (fun os started H enc _ => lifted5 os started H enc)
theorem proved5 : Ytoopcfjmmhmamaa.Rows.FormulaBackSaid := over5
#print axioms proved5
end Go.Proofs.Ytoopcfjmmhmamaa.T6
