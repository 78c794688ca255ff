/- WHATEVER THE INPUT: legation/legationlaw07.ScopeFroms returns true, and each argument reads behind the call as it read before. Conditions: none beyond the row's own. -/
import Derived.Test.YtfpojhphmgnfhaaT7H
import Derived.Test.YtfpojhphmgnfhaaRows
import Derived.JoinedOf
set_option maxRecDepth 100000
namespace Go.Proofs.Ytfpojhphmgnfhaa.T7
open Go.Proofs.Ytfpojhphmgnfhaa.Lg Go Go.Proofs.Ytfpojhphmgnfhaa.Sp
open Go.Proofs
theorem own7 : ownKnob Try.prog.godebug = none := by kernel_rfl
theorem laid7 : laidOutB Try.prog = true := by kernel_rfl
theorem lifted7 (os : Os) (started : os.Started) (H : Type) (enc : TypeId × Value → H) :
    ReturnsInHanded {} Try.checked os 7 .any (Ytfpojhphmgnfhaa.Rows.scopeFromsSpec.pre6 enc Try.prog Try.f7 Ytfpojhphmgnfhaa.Rows.scopeFromsRow.domain false) (Ytfpojhphmgnfhaa.Rows.scopeFromsSpec.post enc Try.prog Try.f7 false true false false) := by
  refine returnsInHanded_of_change_sized (C := Try.checked) own7 started (by kernel_rfl) Try.func7
    (ChangeSpec.witness6 (enc := enc) (C := Try.checked) false ⟨#[], #[.slice none 0 0, .int .i64 0], []⟩ 8 (by kernel_rfl) (by kernel_rfl) (by kernel_rfl) (by kernel_rfl)) ?_
  intro W base args ds gs before hval hW hcnd hsz _
  refine contract_of (ps := [(false, [.sl [.int .i64, .sl [.int .i64, .str, .str, .str, .int .i64, .str, .str, .str, .int .i64, .str, .str, .str], .sl [.str], .sl [.sl [.int .i64, .str, .str, .str]], .sl [.int .i64, .int .i64, .str, .str, .str, .str, .int .i64], .str, .bool]]), (false, [.int .i64])]) satl_Froms laid7 (by kernel_rfl) (tb := 4) (by kernel_rfl) (by kernel_rfl) rfl (fun ds h => ?_) ?_ W base args ds gs before (JW.none (by kernel_rfl) W) hval hW hsz
  · match ds, h with
    | [d0, d1], _ => rfl
  · rintro ⟨⟨(c : List (RowE [.int .i64, .sl [.int .i64, .str, .str, .str, .int .i64, .str, .str, .str, .int .i64, .str, .str, .str], .sl [.str], .sl [.sl [.int .i64, .str, .str, .str]], .sl [.int .i64, .int .i64, .str, .str, .str, .str, .int .i64], .str, .bool])), _⟩, ⟨(i : Int), _⟩, _⟩ hsm
    obtain ⟨⟨hc, _⟩, _⟩ := hsm
    exact ⟨small_C hc, rfl⟩
theorem over7 : Ytfpojhphmgnfhaa.Rows.scopeFromsRow.holds Ytfpojhphmgnfhaa.Try.pinned (OpenSpec.ofChange Ytfpojhphmgnfhaa.Rows.scopeFromsSpec) :=
  OpenClaim.holds_of_wide 7 Try.f7 rfl rfl rfl rfl rfl rfl rfl ⟨rfl, rfl, rfl, rfl, rfl⟩ rfl rfl rfl rfl rfl (by kernel_rfl) Try.func7 (by kernel_rfl)
    (of_decide_eq_true (by kernel_rfl)) (by unfold Func.isWrapper; first | (rw [if_pos (by decide +kernel)]; kernel_rfl) | (rw [if_neg (by decide +kernel)]; exact ⟨rfl, rfl⟩))
    (fun os started H enc _ => lifted7 os started H enc)
theorem proved7 : Ytfpojhphmgnfhaa.Rows.ScopeFromsSaid := over7
#print axioms proved7
end Go.Proofs.Ytfpojhphmgnfhaa.T7
