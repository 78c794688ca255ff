/- WHATEVER THE INPUT: legation/legationlaw03.TriplesWrites returns true, and each argument reads behind the call as it read before. Conditions: none beyond the row's own. -/
import Derived.Test.YtglchbjdjnffcaaT3G
import Derived.Test.YtglchbjdjnffcaaRows
import Derived.JoinedOf
set_option maxRecDepth 100000
namespace Go.Proofs.Ytglchbjdjnffcaa.T3
open Go.Proofs.Ytglchbjdjnffcaa.Lg Go Go.Proofs.Ytglchbjdjnffcaa.Sp
open Go.Proofs
theorem own8 : ownKnob Try.prog.godebug = none := by kernel_rfl
theorem laid8 : laidOutB Try.prog = true := by kernel_rfl
theorem lifted8 (os : Os) (started : os.Started) (H : Type) (enc : TypeId × Value → H) :
    ReturnsInHanded {} Try.checked os 8 .any (Ytglchbjdjnffcaa.Rows.triplesWritesSpec.pre6 enc Try.prog Try.f8 Ytglchbjdjnffcaa.Rows.triplesWritesRow.domain false) (Ytglchbjdjnffcaa.Rows.triplesWritesSpec.post enc Try.prog Try.f8 false true false false) := by
  refine returnsInHanded_of_change_sized (C := Try.checked) own8 started (by kernel_rfl) Try.func8
    (ChangeSpec.witness6 (enc := enc) (C := Try.checked) false ⟨#[], #[.slice none 0 0], []⟩ 8 (by kernel_rfl) (by kernel_rfl) (by kernel_rfl) (by kernel_rfl)) ?_
  intro W base args ds gs before hval hW hcnd hsz _
  refine contract_of (ps := [(false, [.sl [.int .i64, .str, .str, .str, .int .i64, .str, .str, .str, .int .i64, .str, .str, .str]])]) satl2 laid8 (by kernel_rfl) (tb := 4) (by kernel_rfl) (by kernel_rfl) rfl (fun ds h => ?_) ?_ W base args ds gs before hval hW hsz
  · match ds, h with
    | [d0], _ => rfl
  · rintro ⟨⟨(l : List (RowE [.int .i64, .str, .str, .str, .int .i64, .str, .str, .str, .int .i64, .str, .str, .str])), _⟩, _⟩ hsm
    obtain ⟨⟨hl, _⟩, _⟩ := hsm
    exact ⟨fun x hx => sz3_of (hl.2 x hx), rfl⟩
theorem over8 : Ytglchbjdjnffcaa.Rows.triplesWritesRow.holds Ytglchbjdjnffcaa.Try.pinned (OpenSpec.ofChange Ytglchbjdjnffcaa.Rows.triplesWritesSpec) :=
  OpenClaim.holds_of_wide 8 Try.f8 rfl rfl rfl rfl rfl rfl rfl ⟨rfl, rfl, rfl, rfl, rfl⟩ rfl rfl rfl rfl rfl (by kernel_rfl) Try.func8 (by kernel_rfl)
    (of_decide_eq_true (by kernel_rfl)) (by unfold Func.isWrapper; first | (rw [if_pos (by decide +kernel)]; kernel_rfl) | (rw [if_neg (by decide +kernel)]; exact ⟨rfl, rfl⟩))
    (fun os started H enc _ => lifted8 os started H enc)
theorem proved8 : Ytglchbjdjnffcaa.Rows.TriplesWritesSaid := over8
#print axioms proved8
end Go.Proofs.Ytglchbjdjnffcaa.T3
