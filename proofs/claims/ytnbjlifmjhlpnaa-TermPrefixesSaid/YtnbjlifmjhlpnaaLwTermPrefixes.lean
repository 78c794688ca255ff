/- WHATEVER THE INPUT: legation/legationlaw01.TermPrefixes returns true, and each argument reads behind the call as it read before. Conditions: none beyond the row's own. -/
import Derived.Test.YtnbjlifmjhlpnaaT1E
import Derived.Test.YtnbjlifmjhlpnaaRows
import Derived.JoinedOf
set_option maxRecDepth 100000
namespace Go.Proofs.Ytnbjlifmjhlpnaa.T1
open Go.Proofs.Ytnbjlifmjhlpnaa.Lg Go Go.Proofs.Ytnbjlifmjhlpnaa.Sp
open Go.Proofs
theorem own6 : ownKnob Try.prog.godebug = none := by kernel_rfl
theorem laid6 : laidOutB Try.prog = true := by kernel_rfl
theorem lifted6 (os : Os) (started : os.Started) (H : Type) (enc : TypeId × Value → H) :
    ReturnsInHanded {} Try.checked os 6 .any (Ytnbjlifmjhlpnaa.Rows.termPrefixesSpec.pre6 enc Try.prog Try.f6 Ytnbjlifmjhlpnaa.Rows.termPrefixesRow.domain false) (Ytnbjlifmjhlpnaa.Rows.termPrefixesSpec.post enc Try.prog Try.f6 false true false false) := by
  refine returnsInHanded_of_change_sized (C := Try.checked) own6 started (by kernel_rfl) Try.func6
    (ChangeSpec.witness6 (enc := enc) (C := Try.checked) false ⟨#[], #[.string ByteArray.empty], []⟩ 8 (by kernel_rfl) (by kernel_rfl) (by kernel_rfl) (by kernel_rfl)) ?_
  intro W base args ds gs before hval hW hcnd hsz _
  refine contract_of (ps := [(false, [.str])]) satl6 laid6 (by kernel_rfl) (tb := 4) (by kernel_rfl) (by kernel_rfl) rfl (fun ds h => ?_) ?_ W base args ds gs before hval hW hsz
  · match ds, h with
    | [d0], _ => rfl
  · rintro ⟨⟨(s : List UInt8), _⟩, _⟩ hsm
    obtain ⟨ht, _⟩ := hsm
    obtain ⟨s1, _⟩ := ht
    have s1 : s.length ≤ reachBytes := s1
    unfold reachBytes at s1
    exact ⟨s1, rfl⟩
theorem over6 : Ytnbjlifmjhlpnaa.Rows.termPrefixesRow.holds Ytnbjlifmjhlpnaa.Try.pinned (OpenSpec.ofChange Ytnbjlifmjhlpnaa.Rows.termPrefixesSpec) :=
  OpenClaim.holds_of_wide 6 Try.f6 rfl rfl rfl rfl rfl rfl rfl ⟨rfl, rfl, rfl, rfl, rfl⟩ rfl rfl rfl rfl rfl (by kernel_rfl) Try.func6 (by kernel_rfl)
    (of_decide_eq_true (by kernel_rfl)) (by unfold Func.isWrapper; first | (rw [if_pos (by decide +kernel)]; kernel_rfl) | (rw [if_neg (by decide +kernel)]; exact ⟨rfl, rfl⟩))
    (fun os started H enc _ => lifted6 os started H enc)
theorem proved6 : Ytnbjlifmjhlpnaa.Rows.TermPrefixesSaid := over6
#print axioms proved6
end Go.Proofs.Ytnbjlifmjhlpnaa.T1
