/- WHATEVER THE INPUT: legation/legationlaw01.TermOrders returns true, and each argument reads behind the call as it read before. Conditions: none beyond the row's own. -/
import Derived.Test.YtnbjlifmjhlpnaaT1E
import Derived.Test.YtnbjlifmjhlpnaaRows
import Derived.JoinedOf
set_option maxRecDepth 100000
namespace Go.Proofs.Ytnbjlifmjhlpnaa.T1
open Go.Proofs.Ytnbjlifmjhlpnaa.Lg Go Go.Proofs.Ytnbjlifmjhlpnaa.Sp
open Go.Proofs
theorem own10 : ownKnob Try.prog.godebug = none := by kernel_rfl
theorem laid10 : laidOutB Try.prog = true := by kernel_rfl
theorem lifted10 (os : Os) (started : os.Started) (H : Type) (enc : TypeId × Value → H) :
    ReturnsInHanded {} Try.checked os 10 .any (Ytnbjlifmjhlpnaa.Rows.termOrdersSpec.pre6 enc Try.prog Try.f10 Ytnbjlifmjhlpnaa.Rows.termOrdersRow.domain false) (Ytnbjlifmjhlpnaa.Rows.termOrdersSpec.post enc Try.prog Try.f10 false true false false) := by
  refine returnsInHanded_of_change_sized (C := Try.checked) own10 started (by kernel_rfl) Try.func10
    (ChangeSpec.witness6 (enc := enc) (C := Try.checked) false ⟨#[], #[.agg #[.int .i64 0, .string ByteArray.empty, .string ByteArray.empty, .string ByteArray.empty], .agg #[.int .i64 0, .string ByteArray.empty, .string ByteArray.empty, .string ByteArray.empty]], []⟩ 8 (by kernel_rfl) (by kernel_rfl) (by kernel_rfl) (by kernel_rfl)) ?_
  intro W base args ds gs before hval hW hcnd hsz _
  refine contract_of (ps := [(true, [.int .i64, .str, .str, .str]), (true, [.int .i64, .str, .str, .str])]) satl10 laid10 (by kernel_rfl) (tb := 4) (by kernel_rfl) (by kernel_rfl) rfl (fun ds h => ?_) ?_ W base args ds gs before hval hW hsz
  · match ds, h with
    | [d0, d1], _ => rfl
  · rintro ⟨a, b, _⟩ hsm
    obtain ⟨ha, hb, _⟩ := hsm
    obtain ⟨_, a1, a2, a3, _⟩ := ha
    have a1 : a.2.1.length ≤ reachBytes := a1
    have a2 : a.2.2.1.length ≤ reachBytes := a2
    have a3 : a.2.2.2.1.length ≤ reachBytes := a3
    unfold reachBytes at a1 a2 a3
    obtain ⟨_, b1, b2, b3, _⟩ := hb
    have b1 : b.2.1.length ≤ reachBytes := b1
    have b2 : b.2.2.1.length ≤ reachBytes := b2
    have b3 : b.2.2.2.1.length ≤ reachBytes := b3
    unfold reachBytes at b1 b2 b3
    exact ⟨⟨⟨Nat.le_trans a1 (by decide), Nat.le_trans a2 (by decide), Nat.le_trans a3 (by decide)⟩, ⟨Nat.le_trans b1 (by decide), Nat.le_trans b2 (by decide), Nat.le_trans b3 (by decide)⟩⟩, rfl⟩
theorem over10 : Ytnbjlifmjhlpnaa.Rows.termOrdersRow.holds Ytnbjlifmjhlpnaa.Try.pinned (OpenSpec.ofChange Ytnbjlifmjhlpnaa.Rows.termOrdersSpec) :=
  OpenClaim.holds_of_wide 10 Try.f10 rfl rfl rfl rfl rfl rfl rfl ⟨rfl, rfl, rfl, rfl, rfl⟩ rfl rfl rfl rfl rfl (by kernel_rfl) Try.func10 (by kernel_rfl)
    (of_decide_eq_true (by kernel_rfl)) (by unfold Func.isWrapper; first | (rw [if_pos (by decide +kernel)]; kernel_rfl) | (rw [if_neg (by decide +kernel)]; exact ⟨rfl, rfl⟩))
    (fun os started H enc _ => lifted10 os started H enc)
theorem proved10 : Ytnbjlifmjhlpnaa.Rows.TermOrdersSaid := over10
#print axioms proved10
end Go.Proofs.Ytnbjlifmjhlpnaa.T1
