/- WHATEVER THE INPUT: legation/legationlaw06.FormulaTexts returns true, and each argument reads behind the call as it read before. Conditions: none beyond the row's own. -/
import Derived.Test.YtoopcfjmmhmamaaT6H
import Derived.Test.YtoopcfjmmhmamaaRows
import Derived.JoinedOf
set_option maxRecDepth 100000
namespace Go.Proofs.Ytoopcfjmmhmamaa.T6
open Go.Proofs.Ytoopcfjmmhmamaa.Lg Go Go.Proofs.Ytoopcfjmmhmamaa.Sp
open Go.Proofs
theorem own6 : ownKnob Try.prog.godebug = none := by kernel_rfl
theorem laid6 : laidOutB Try.prog = true := by kernel_rfl
theorem lifted6 (os : Os) (started : os.Started) (H : Type) (enc : TypeId × Value → H) :
    ReturnsInHanded {} Try.checked os 6 .any (Ytoopcfjmmhmamaa.Rows.formulaTextsSpec.pre6 enc Try.prog Try.f6 Ytoopcfjmmhmamaa.Rows.formulaTextsRow.domain false) (Ytoopcfjmmhmamaa.Rows.formulaTextsSpec.post enc Try.prog Try.f6 false true false false) := by
  refine returnsInHanded_of_change_sized (C := Try.checked) own6 started (by kernel_rfl) Try.func6
    (ChangeSpec.witness6 (enc := enc) (C := Try.checked) false ⟨#[], #[.slice none 0 0], []⟩ 8 (by kernel_rfl) (by kernel_rfl) (by kernel_rfl) (by kernel_rfl)) ?_
  intro W base args ds gs before hval hW hcnd hsz _
  refine contract_of (ps := [(false, [.sl [.int .i64, .int .i64, .str, .str, .str, .str, .int .i64]])]) satl5 laid6 (by kernel_rfl) (tb := 4) (by kernel_rfl) (by kernel_rfl) rfl (fun ds h => ?_) ?_ W base args ds gs before (JW.none (by kernel_rfl) W) hval hW hsz
  · match ds, h with
    | [d0], _ => rfl
  · rintro ⟨⟨(f : List (RowE [.int .i64, .int .i64, .str, .str, .str, .str, .int .i64])), _⟩, _⟩ hsm
    obtain ⟨⟨hl, _⟩, _⟩ := hsm
    refine ⟨⟨fun x hx => szPt_of (hl.2 x hx), ?_⟩, rfl⟩
    have h1 := hl.1
    rw [show bytesL ptS = 88 from rfl] at h1
    have h2 : f.length * 88 ≤ 140737488355328 := Nat.le_trans h1 (by decide)
    show f.length ≤ _
    omega
theorem over6 : Ytoopcfjmmhmamaa.Rows.formulaTextsRow.holds Ytoopcfjmmhmamaa.Try.pinned (OpenSpec.ofChange Ytoopcfjmmhmamaa.Rows.formulaTextsSpec) :=
  OpenClaim.holds_of_wide 6 Try.f6 rfl rfl rfl rfl rfl rfl rfl ⟨rfl, rfl, rfl, rfl, rfl⟩ rfl rfl rfl rfl rfl (by kernel_rfl) Try.func6 (by kernel_rfl)
    (of_decide_eq_true (by kernel_rfl)) (by unfold Func.isWrapper; first | (rw [if_pos (by decide +kernel)]; kernel_rfl) | (rw [if_neg (by decide +kernel)]; exact ⟨rfl, rfl⟩))
    (fun os started H enc _ => lifted6 os started H enc)
theorem proved6 : Ytoopcfjmmhmamaa.Rows.FormulaTextsSaid := over6
#print axioms proved6
end Go.Proofs.Ytoopcfjmmhmamaa.T6
