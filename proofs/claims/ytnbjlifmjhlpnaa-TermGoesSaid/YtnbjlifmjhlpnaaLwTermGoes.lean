/- WHATEVER THE INPUT: legation/legationlaw01.TermGoes returns true, and each argument reads behind the call as it read before. Conditions: none beyond the row's own. -/
import Derived.Test.YtnbjlifmjhlpnaaT1E
import Derived.Test.YtnbjlifmjhlpnaaRows
import Derived.JoinedOf
set_option maxRecDepth 100000
namespace Go.Proofs.Ytnbjlifmjhlpnaa.T1
open Go.Proofs.Ytnbjlifmjhlpnaa.Lg Go Go.Proofs.Ytnbjlifmjhlpnaa.Sp
open Go.Proofs
theorem own8 : ownKnob Try.prog.godebug = none := by kernel_rfl
theorem laid8 : laidOutB Try.prog = true := by kernel_rfl
theorem lifted8 (os : Os) (started : os.Started) (H : Type) (enc : TypeId × Value → H) :
    ReturnsInHanded {} Try.checked os 8 .any (Ytnbjlifmjhlpnaa.Rows.termGoesSpec.pre6 enc Try.prog Try.f8 Ytnbjlifmjhlpnaa.Rows.termGoesRow.domain false) (Ytnbjlifmjhlpnaa.Rows.termGoesSpec.post enc Try.prog Try.f8 false true false false) := by
  refine returnsInHanded_of_change_sized (C := Try.checked) own8 started (by kernel_rfl) Try.func8
    (ChangeSpec.witness6 (enc := enc) (C := Try.checked) false ⟨#[], #[.agg #[.int .i64 0, .string ByteArray.empty, .string ByteArray.empty, .string ByteArray.empty], .string ByteArray.empty], []⟩ 8 (by kernel_rfl) (by kernel_rfl) (by kernel_rfl) (by kernel_rfl)) ?_
  intro W base args ds gs before hval hW hcnd hsz _
  refine contract_of (ps := [(true, [.int .i64, .str, .str, .str]), (false, [.str])]) satl8 laid8 (by kernel_rfl) (tb := 4) (by kernel_rfl) (by kernel_rfl) rfl (fun ds h => ?_) ?_ W base args ds gs before hval hW hsz
  · match ds, h with
    | [d0, d1], _ => rfl
  · rintro ⟨t, ⟨(rest : List UInt8), _⟩, _⟩ hsm
    obtain ⟨ht, hs, _⟩ := hsm
    obtain ⟨_, t1, t2, t3, _⟩ := ht
    have t1 : t.2.1.length ≤ reachBytes := t1
    have t2 : t.2.2.1.length ≤ reachBytes := t2
    have t3 : t.2.2.2.1.length ≤ reachBytes := t3
    unfold reachBytes at t1 t2 t3
    obtain ⟨rest1, _⟩ := hs
    have rest1 : rest.length ≤ reachBytes := rest1
    unfold reachBytes at rest1
    exact ⟨⟨⟨Nat.le_trans t1 (by decide), Nat.le_trans t2 (by decide), Nat.le_trans t3 (by decide)⟩, rest1⟩, rfl⟩
theorem over8 : Ytnbjlifmjhlpnaa.Rows.termGoesRow.holds Ytnbjlifmjhlpnaa.Try.pinned (OpenSpec.ofChange Ytnbjlifmjhlpnaa.Rows.termGoesSpec) :=
  OpenClaim.holds_of_wide 8 Try.f8 rfl rfl rfl rfl rfl rfl rfl ⟨rfl, rfl, rfl, rfl, rfl⟩ rfl rfl rfl rfl rfl (by kernel_rfl) Try.func8 (by kernel_rfl)
    (of_decide_eq_true (by kernel_rfl)) (by unfold Func.isWrapper; first | (rw [if_pos (by decide +kernel)]; kernel_rfl) | (rw [if_neg (by decide +kernel)]; exact ⟨rfl, rfl⟩))
    (fun os started H enc _ => lifted8 os started H enc)
theorem proved8 : Ytnbjlifmjhlpnaa.Rows.TermGoesSaid := over8
#print axioms proved8
end Go.Proofs.Ytnbjlifmjhlpnaa.T1
