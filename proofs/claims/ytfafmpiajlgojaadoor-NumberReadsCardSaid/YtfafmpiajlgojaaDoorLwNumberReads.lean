/- WHATEVER THE INPUT: legation/legationlaw02.NumberReads returns true, and each argument reads behind the call as it read before, where the listed package-level variables hold what the program's text lays. Conditions: none beyond the card's own. -/
import Derived.Test.YtfafmpiajlgojaaDoorT2G
set_option maxRecDepth 100000
namespace Go.Proofs.YtfafmpiajlgojaaDoor.T2
open Go.Proofs.YtfafmpiajlgojaaDoor.Lg Go Go.Proofs.YtfafmpiajlgojaaDoor.Sp
open Go.Proofs
theorem lifted3 (os : Os) (started : os.Started) (H : Type) (enc : TypeId × Value → H) :
    ReturnsInHanded {} Tryd.checked os 3 .any (fun w args => (YtfafmpiajlgojaaDoor.Rows.numberReadsSpec.pre enc Tryd.prog Tryd.f3 [] false w args ∧ laidMetH Tryd.prog LAID w) ∧ sizedMet enc Tryd.prog Tryd.f3 (OpenSpec.ofChange YtfafmpiajlgojaaDoor.Rows.numberReadsSpec) false w args)
      (YtfafmpiajlgojaaDoor.Rows.numberReadsSpec.post enc Tryd.prog Tryd.f3 false true false false) := by
  refine returnsInHanded_of_change_and (C := Tryd.checked) (X := fun w _ => laidMetH Tryd.prog LAID w) (fun _ _ _ hh h => h.of_heap hh) own started (by kernel_rfl) Tryd.func3
    (ChangeSpec.witness_shaped (enc := enc) (C := Tryd.checked) (os := os) (X := fun w _ => laidMetH Tryd.prog LAID w) false (World.doorLaid Tryd.prog 400 os) #[.string ByteArray.empty, .bool false] 8 rfl (World.shaped_of_RefB (by kernel_rfl) (by kernel_rfl)) (by kernel_rfl) (by kernel_rfl) (by kernel_rfl) (door_met os _)) ?_
  intro W base args ds gs before hval hW hcnd hsz hL _
  refine contract_of (ps := [(false, [.str]), (false, [.bool])]) satl3 laidOut (by kernel_rfl) (tb := 4) (by kernel_rfl) (by kernel_rfl) rfl (fun ds h => ?_) ?_ W base args ds gs before (jw hL) hval hW hsz
  · match ds, h with
    | [d0, d1], _ => rfl
  · rintro ⟨⟨(s : List UInt8), _⟩, ⟨(decimal : Bool), _⟩, _⟩ hsm
    obtain ⟨ht, _⟩ := hsm
    obtain ⟨s1, _⟩ := ht
    have s1 : s.length ≤ reachBytes := s1
    unfold reachBytes at s1
    exact ⟨by show s.length ≤ _; omega, rfl⟩
theorem over3 : YtfafmpiajlgojaaDoor.Rows.NumberReadsSaid :=
  OpenClaim.holds_of_wide 3 Tryd.f3 rfl rfl rfl rfl rfl rfl rfl ⟨rfl, rfl, rfl, rfl, rfl⟩ rfl rfl rfl rfl rfl (by kernel_rfl) Tryd.func3 (by kernel_rfl)
    (of_decide_eq_true (by kernel_rfl)) (by unfold Func.isWrapper; first | (rw [if_pos (by decide +kernel)]; kernel_rfl) | (rw [if_neg (by decide +kernel)]; exact ⟨rfl, rfl⟩))
    (fun os started H enc _ => lifted3 os started H enc)
theorem proved3 : YtfafmpiajlgojaaDoor.Rows.NumberReadsCardSaid :=
  Claim7.holds_tied_plain_at .later [] [.data, .data, .data] true (true, YtfafmpiajlgojaaDoor.Rows.numberReadsCard.stood.harness.2) false
    over3 (fun _ h => by cases h) (by kernel_rfl) (fun _ h => by cases h) YtfafmpiajlgojaaDoor.numberReads_row_tie rfl ⟨rfl, rfl⟩ (by kernel_rfl) rfl
    (fun f fn hf hfn => by
      obtain rfl : f = 3 := Option.some.inj ((show Tryd.prog.funcNamed YtfafmpiajlgojaaDoor.Rows.numberReadsRow.func = some 3 by kernel_rfl).symm.trans hf) |>.symm
      obtain rfl : fn = Tryd.f3 := (Option.some.inj (Tryd.func3.symm.trans hfn)).symm
      exact ⟨by kernel_rfl, fun j t ht => by
        have hm : t ∈ Tryd.f3.params.toList := by simpa using Array.mem_of_getElem? ht
        have hall : (Tryd.f3.params.toList.all fun u => !Tryd.prog.wantsStandIn u) = true := by kernel_rfl
        exact (show Tryd.prog.wantsStandIn t = false by simpa using List.all_eq_true.1 hall t hm)⟩)
    (by kernel_rfl)
#print axioms proved3
end Go.Proofs.YtfafmpiajlgojaaDoor.T2
