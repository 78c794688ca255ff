/- WHATEVER THE TERM: legationlaw01.TermChecks returns true, and the term reads behind the call as it read before. Conditions: none beyond the row's own. -/
import Derived.Test.YtnbjlifmjhlpnaaT1B
import Derived.Test.YtnbjlifmjhlpnaaRows
import Derived.JoinedOf
set_option maxRecDepth 100000
namespace Go.Proofs.Ytnbjlifmjhlpnaa.T1
open Go.Proofs.Ytnbjlifmjhlpnaa.Lg Go Go.Proofs.Ytnbjlifmjhlpnaa.Sp
open Go.Proofs
theorem own : ownKnob Try.prog.godebug = none := by kernel_rfl
theorem laid : laidOutB Try.prog = true := by kernel_rfl
theorem lifted3 (os : Os) (started : os.Started) (H : Type) (enc : TypeId × Value → H) :
    ReturnsInHanded {} Try.checked os 3 .any (Ytnbjlifmjhlpnaa.Rows.termChecksSpec.pre6 enc Try.prog Try.f3 Ytnbjlifmjhlpnaa.Rows.termChecksRow.domain false) (Ytnbjlifmjhlpnaa.Rows.termChecksSpec.post enc Try.prog Try.f3 false true false false) := by
  refine returnsInHanded_of_change_sized (C := Try.checked) own started (by kernel_rfl) Try.func3
    (ChangeSpec.witness6 (enc := enc) (C := Try.checked) false ⟨#[], #[.agg #[.int .i64 0, .string ByteArray.empty, .string ByteArray.empty, .string ByteArray.empty]], []⟩ 8 (by kernel_rfl) (by kernel_rfl) (by kernel_rfl) (by kernel_rfl)) ?_
  intro W base args ds gs before hval hW hcnd hsz _
  refine contract_of (ps := [trm]) sat3 laid (by kernel_rfl) (tb := 4) (by kernel_rfl) (by kernel_rfl) rfl (fun ds h => ?_) ?_ W base args ds gs before hval hW hsz
  · match ds, h with
    | [d], _ => rfl
  · rintro ⟨⟨(k : Int), (a : List UInt8), (t : List UInt8), (l : List UInt8), _⟩, _⟩ ⟨⟨_, ha, ht, hl, _⟩, _⟩
    have ha : a.length ≤ reachBytes := ha
    have ht : t.length ≤ reachBytes := ht
    have hl : l.length ≤ reachBytes := hl
    unfold reachBytes at ha ht hl
    exact ⟨⟨Nat.le_trans ha (by decide), Nat.le_trans ht (by decide), Nat.le_trans hl (by decide)⟩, rfl⟩
theorem over3 : Ytnbjlifmjhlpnaa.Rows.termChecksRow.holds Ytnbjlifmjhlpnaa.Try.pinned (OpenSpec.ofChange Ytnbjlifmjhlpnaa.Rows.termChecksSpec) :=
  OpenClaim.holds_of_wide 3 Try.f3 rfl rfl rfl rfl rfl rfl rfl ⟨rfl, rfl, rfl, rfl, rfl⟩ rfl rfl rfl rfl rfl (by kernel_rfl) Try.func3 (by kernel_rfl)
    (of_decide_eq_true (by kernel_rfl)) (by unfold Func.isWrapper; first | (rw [if_pos (by decide +kernel)]; kernel_rfl) | (rw [if_neg (by decide +kernel)]; exact ⟨rfl, rfl⟩))
    (fun os started H enc _ => lifted3 os started H enc)
theorem proved3 : Ytnbjlifmjhlpnaa.Rows.TermChecksSaid := over3
#print axioms proved3
end Go.Proofs.Ytnbjlifmjhlpnaa.T1
