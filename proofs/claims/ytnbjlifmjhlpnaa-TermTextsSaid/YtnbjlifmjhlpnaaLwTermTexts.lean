/- WHATEVER THE INPUT: legation/legationlaw01.TermTexts returns true, and each argument reads behind the call as it read before. Conditions: none beyond the row's own. -/
import Derived.Test.YtnbjlifmjhlpnaaT1E
import Derived.Test.YtnbjlifmjhlpnaaRows
import Derived.JoinedOf
set_option maxRecDepth 100000
namespace Go.Proofs.Ytnbjlifmjhlpnaa.T1
open Go.Proofs.Ytnbjlifmjhlpnaa.Lg Go Go.Proofs.Ytnbjlifmjhlpnaa.Sp
open Go.Proofs
theorem own4 : ownKnob Try.prog.godebug = none := by kernel_rfl
theorem laid4 : laidOutB Try.prog = true := by kernel_rfl
theorem lifted4 (os : Os) (started : os.Started) (H : Type) (enc : TypeId × Value → H) :
    ReturnsInHanded {} Try.checked os 4 .any (Ytnbjlifmjhlpnaa.Rows.termTextsSpec.pre6 enc Try.prog Try.f4 Ytnbjlifmjhlpnaa.Rows.termTextsRow.domain false) (Ytnbjlifmjhlpnaa.Rows.termTextsSpec.post enc Try.prog Try.f4 false true false false) := by
  refine returnsInHanded_of_change_sized (C := Try.checked) own4 started (by kernel_rfl) Try.func4
    (ChangeSpec.witness6 (enc := enc) (C := Try.checked) false ⟨#[], #[.agg #[.int .i64 0, .string ByteArray.empty, .string ByteArray.empty, .string ByteArray.empty]], []⟩ 8 (by kernel_rfl) (by kernel_rfl) (by kernel_rfl) (by kernel_rfl)) ?_
  intro W base args ds gs before hval hW hcnd hsz _
  refine contract_of (ps := [(true, [.int .i64, .str, .str, .str])]) satl4 laid4 (by kernel_rfl) (tb := 4) (by kernel_rfl) (by kernel_rfl) rfl (fun ds h => ?_) ?_ W base args ds gs before hval hW hsz
  · match ds, h with
    | [d0], _ => rfl
  · rintro ⟨t, _⟩ hsm
    obtain ⟨ht, _⟩ := hsm
    obtain ⟨_, t1, t2, t3, _⟩ := ht
    have t1 : t.2.1.length ≤ reachBytes := t1
    have t2 : t.2.2.1.length ≤ reachBytes := t2
    have t3 : t.2.2.2.1.length ≤ reachBytes := t3
    unfold reachBytes at t1 t2 t3
    exact ⟨⟨Nat.le_trans t1 (by decide), Nat.le_trans t2 (by decide), Nat.le_trans t3 (by decide)⟩, rfl⟩
theorem over4 : Ytnbjlifmjhlpnaa.Rows.termTextsRow.holds Ytnbjlifmjhlpnaa.Try.pinned (OpenSpec.ofChange Ytnbjlifmjhlpnaa.Rows.termTextsSpec) :=
  OpenClaim.holds_of_wide 4 Try.f4 rfl rfl rfl rfl rfl rfl rfl ⟨rfl, rfl, rfl, rfl, rfl⟩ rfl rfl rfl rfl rfl (by kernel_rfl) Try.func4 (by kernel_rfl)
    (of_decide_eq_true (by kernel_rfl)) (by unfold Func.isWrapper; first | (rw [if_pos (by decide +kernel)]; kernel_rfl) | (rw [if_neg (by decide +kernel)]; exact ⟨rfl, rfl⟩))
    (fun os started H enc _ => lifted4 os started H enc)
theorem proved4 : Ytnbjlifmjhlpnaa.Rows.TermTextsSaid := over4
#print axioms proved4
end Go.Proofs.Ytnbjlifmjhlpnaa.T1
