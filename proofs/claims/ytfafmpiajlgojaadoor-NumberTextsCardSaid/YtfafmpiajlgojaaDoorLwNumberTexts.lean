/- WHATEVER THE INPUT: legation/legationlaw02.NumberTexts returns true, and each argument reads behind the call as it read before, where the listed package-level variables hold what the program's text lays. Conditions: none beyond the card's own. -/
import Derived.Test.YtfafmpiajlgojaaDoorT2G
set_option maxRecDepth 100000
namespace Go.Proofs.YtfafmpiajlgojaaDoor.T2
open Go.Proofs.YtfafmpiajlgojaaDoor.Lg Go Go.Proofs.YtfafmpiajlgojaaDoor.Sp
open Go.Proofs
theorem lifted8 (os : Os) (started : os.Started) (H : Type) (enc : TypeId × Value → H) :
    ReturnsInHanded {} Tryd.checked os 8 .any (fun w args => (YtfafmpiajlgojaaDoor.Rows.numberTextsSpec.pre enc Tryd.prog Tryd.f8 [] false w args ∧ laidMetH Tryd.prog LAID w) ∧ sizedMet enc Tryd.prog Tryd.f8 (OpenSpec.ofChange YtfafmpiajlgojaaDoor.Rows.numberTextsSpec) false w args)
      (YtfafmpiajlgojaaDoor.Rows.numberTextsSpec.post enc Tryd.prog Tryd.f8 false true false false) := by
  refine returnsInHanded_of_change_and (C := Tryd.checked) (X := fun w _ => laidMetH Tryd.prog LAID w) (fun _ _ _ hh h => h.of_heap hh) own started (by kernel_rfl) Tryd.func8
    (ChangeSpec.witness_shaped (enc := enc) (C := Tryd.checked) (os := os) (X := fun w _ => laidMetH Tryd.prog LAID w) false (World.doorLaid Tryd.prog 400 os) #[.agg #[.int .i64 0, .int .i64 0, .bool false]] 8 rfl (World.shaped_of_RefB (by kernel_rfl) (by kernel_rfl)) (by kernel_rfl) (by kernel_rfl) (by kernel_rfl) (door_met os _)) ?_
  intro W base args ds gs before hval hW hcnd hsz hL _
  refine contract_of (ps := [(true, [.int .i64, .int .i64, .bool])]) satl8 laidOut (by kernel_rfl) (tb := 4) (by kernel_rfl) (by kernel_rfl) rfl (fun ds h => ?_) ?_ W base args ds gs before (jw hL) hval hW hsz
  · match ds, h with
    | [d0], _ => rfl
  · rintro ⟨n, _⟩ hsm
    exact rfl
theorem over8 : YtfafmpiajlgojaaDoor.Rows.NumberTextsSaid :=
  OpenClaim.holds_of_wide 8 Tryd.f8 rfl rfl rfl rfl rfl rfl rfl ⟨rfl, rfl, rfl, rfl, rfl⟩ rfl rfl rfl rfl rfl (by kernel_rfl) Tryd.func8 (by kernel_rfl)
    (of_decide_eq_true (by kernel_rfl)) (by unfold Func.isWrapper; first | (rw [if_pos (by decide +kernel)]; kernel_rfl) | (rw [if_neg (by decide +kernel)]; exact ⟨rfl, rfl⟩))
    (fun os started H enc _ => lifted8 os started H enc)
theorem proved8 : YtfafmpiajlgojaaDoor.Rows.NumberTextsCardSaid :=
  Claim7.holds_tied_plain_at .later [] [.data, .data, .data] true (true, YtfafmpiajlgojaaDoor.Rows.numberTextsCard.stood.harness.2) false
    over8 (fun _ h => by cases h) (by kernel_rfl) (fun _ h => by cases h) YtfafmpiajlgojaaDoor.numberTexts_row_tie rfl ⟨rfl, rfl⟩ (by kernel_rfl) rfl
    (fun f fn hf hfn => by
      obtain rfl : f = 8 := Option.some.inj ((show Tryd.prog.funcNamed YtfafmpiajlgojaaDoor.Rows.numberTextsRow.func = some 8 by kernel_rfl).symm.trans hf) |>.symm
      obtain rfl : fn = Tryd.f8 := (Option.some.inj (Tryd.func8.symm.trans hfn)).symm
      exact ⟨by kernel_rfl, fun j t ht => by
        have hm : t ∈ Tryd.f8.params.toList := by simpa using Array.mem_of_getElem? ht
        have hall : (Tryd.f8.params.toList.all fun u => !Tryd.prog.wantsStandIn u) = true := by kernel_rfl
        exact (show Tryd.prog.wantsStandIn t = false by simpa using List.all_eq_true.1 hall t hm)⟩)
    (by kernel_rfl)
#print axioms proved8
end Go.Proofs.YtfafmpiajlgojaaDoor.T2
