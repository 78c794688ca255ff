/- WHATEVER THE INPUT: legation/legationlaw06.FormulaFroms returns true, and each argument reads behind the call as it read before. Conditions: none beyond the row's own. -/
import Derived.Test.YtoopcfjmmhmamaaT6F
import Derived.Test.YtoopcfjmmhmamaaRows
import Derived.JoinedOf
set_option maxRecDepth 100000
namespace Go.Proofs.Ytoopcfjmmhmamaa.T6
open Go.Proofs.Ytoopcfjmmhmamaa.Lg Go Go.Proofs.Ytoopcfjmmhmamaa.Sp
open Go.Proofs
theorem own4 : ownKnob Try.prog.godebug = none := by kernel_rfl
theorem laid4 : laidOutB Try.prog = true := by kernel_rfl
theorem lifted4 (os : Os) (started : os.Started) (H : Type) (enc : TypeId × Value → H) :
    ReturnsInHanded {} Try.checked os 4 .any (Ytoopcfjmmhmamaa.Rows.formulaFromsSpec.pre6 enc Try.prog Try.f4 Ytoopcfjmmhmamaa.Rows.formulaFromsRow.domain false) (Ytoopcfjmmhmamaa.Rows.formulaFromsSpec.post enc Try.prog Try.f4 false true false false) := by
  refine returnsInHanded_of_change_sized (C := Try.checked) own4 started (by kernel_rfl) Try.func4
    (ChangeSpec.witness6 (enc := enc) (C := Try.checked) false ⟨#[], #[.slice none 0 0, .int .i64 0], []⟩ 8 (by kernel_rfl) (by kernel_rfl) (by kernel_rfl) (by kernel_rfl)) ?_
  intro W base args ds gs before hval hW hcnd hsz _
  refine contract_of (ps := [(false, [.sl [.int .i64, .int .i64, .str, .str, .str, .str, .int .i64]]), (false, [.int .i64])]) satl4 laid4 (by kernel_rfl) (tb := 4) (by kernel_rfl) (by kernel_rfl) rfl (fun ds h => ?_) ?_ W base args ds gs before (JW.none (by kernel_rfl) W) hval hW hsz
  · match ds, h with
    | [d0, d1], _ => rfl
  · rintro ⟨⟨(f : List (RowE [.int .i64, .int .i64, .str, .str, .str, .str, .int .i64])), _⟩, ⟨(i : Int), _⟩, _⟩ hsm
    obtain ⟨⟨hl, _⟩, _⟩ := hsm
    exact ⟨fun x hx => szPt_of (hl.2 x hx), rfl⟩
theorem over4 : Ytoopcfjmmhmamaa.Rows.formulaFromsRow.holds Ytoopcfjmmhmamaa.Try.pinned (OpenSpec.ofChange Ytoopcfjmmhmamaa.Rows.formulaFromsSpec) :=
  OpenClaim.holds_of_wide 4 Try.f4 rfl rfl rfl rfl rfl rfl rfl ⟨rfl, rfl, rfl, rfl, rfl⟩ rfl rfl rfl rfl rfl (by kernel_rfl) Try.func4 (by kernel_rfl)
    (of_decide_eq_true (by kernel_rfl)) (by unfold Func.isWrapper; first | (rw [if_pos (by decide +kernel)]; kernel_rfl) | (rw [if_neg (by decide +kernel)]; exact ⟨rfl, rfl⟩))
    (fun os started H enc _ => lifted4 os started H enc)
theorem proved4 : Ytoopcfjmmhmamaa.Rows.FormulaFromsSaid := over4
#print axioms proved4
end Go.Proofs.Ytoopcfjmmhmamaa.T6
