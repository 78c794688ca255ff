/- WHATEVER THE INPUT of at most 1048576 values and letters: legation/legationlaw03.TriplesReads returns true, and each argument reads behind the call as it read before. The bound: the arguments together, as the row counts them. -/
import Derived.Test.YtglchbjdjnffcaaT3G
import Derived.Test.YtglchbjdjnffcaaRows
import Derived.Deep.CondSized
import Derived.JoinedCond
import Derived.JoinedOf
set_option maxRecDepth 100000
namespace Go.Proofs.Ytglchbjdjnffcaa.T3
open Go.Proofs.Ytglchbjdjnffcaa.Lg Go Go.Proofs.Ytglchbjdjnffcaa.Sp
open Go.Proofs
theorem ownu3 : ownKnob Try.prog.godebug = none := by kernel_rfl
theorem laidu3 : laidOutB Try.prog = true := by kernel_rfl
mutual
theorem uptoE3 {H : Type} : ∀ d : DataW H, Ytglchbjdjnffcaa.Rows.uptoBulk d = blk d
  | .lit l => by cases l <;> simp [Ytglchbjdjnffcaa.Rows.uptoBulk, blk]
  | .nil => by simp [Ytglchbjdjnffcaa.Rows.uptoBulk, blk]
  | .ptr d => by simp only [Ytglchbjdjnffcaa.Rows.uptoBulk, blk, uptoE3 d]
  | .slice e p => by simp only [Ytglchbjdjnffcaa.Rows.uptoBulk, blk, uptoA3 e, uptoA3 p]
  | .agg l => by simp only [Ytglchbjdjnffcaa.Rows.uptoBulk, blk, uptoA3 l]
  | .iface _ d => by simp only [Ytglchbjdjnffcaa.Rows.uptoBulk, blk, uptoE3 d]
  | .map l => by simp only [Ytglchbjdjnffcaa.Rows.uptoBulk, blk, uptoM3 l]
  | .held _ => by simp [Ytglchbjdjnffcaa.Rows.uptoBulk, blk]
theorem uptoA3 {H : Type} : ∀ l : List (DataW H), Ytglchbjdjnffcaa.Rows.uptoBulkAll l = blkAll l
  | [] => by simp [Ytglchbjdjnffcaa.Rows.uptoBulkAll, blkAll]
  | d :: l => by simp only [Ytglchbjdjnffcaa.Rows.uptoBulkAll, blkAll, uptoE3 d, uptoA3 l]
theorem uptoM3 {H : Type} : ∀ l : List (Lit × DataW H), Ytglchbjdjnffcaa.Rows.uptoBulkEntries l = blkEntries l
  | [] => by simp [Ytglchbjdjnffcaa.Rows.uptoBulkEntries, blkEntries]
  | (k, d) :: l => by have h1 := uptoE3 d; have h2 := uptoM3 l; cases k <;> simp only [Ytglchbjdjnffcaa.Rows.uptoBulkEntries, Ytglchbjdjnffcaa.Rows.uptoBulkEntry, blkEntries, blk, h1, h2] <;> omega
end
theorem bkApp3 {H : Type} : ∀ l m : List (DataW H), blkAll l ≤ blkAll (l ++ m)
  | [], m => by simp [blkAll]
  | d :: l, m => by have := bkApp3 l m; simp only [List.cons_append, blkAll]; omega
theorem liftedu3 (os : Os) (started : os.Started) (H : Type) (enc : TypeId × Value → H) (F : Stop.Interp) :
    ReturnsInHanded {} Try.checked os 3 .any ((Ytglchbjdjnffcaa.Rows.OpenSpec.upto Ytglchbjdjnffcaa.Rows.triplesReadsSpec).pre6 enc Try.prog Try.f3 Ytglchbjdjnffcaa.Rows.triplesReadsUptoRow.domain false) (((Ytglchbjdjnffcaa.Rows.OpenSpec.upto Ytglchbjdjnffcaa.Rows.triplesReadsSpec).at F).post enc Try.prog Try.f3 false true false false) := by
  refine returnsInHanded_of_cond_sized (C := Try.checked) (s := Ytglchbjdjnffcaa.Rows.OpenSpec.upto Ytglchbjdjnffcaa.Rows.triplesReadsSpec) (k := Ytglchbjdjnffcaa.Rows.uptoSmall) rfl ownu3 started (by kernel_rfl) Try.func3
    (OpenSpec.witness (enc := enc) (C := Try.checked) (s := Ytglchbjdjnffcaa.Rows.OpenSpec.upto Ytglchbjdjnffcaa.Rows.triplesReadsSpec) (k := Ytglchbjdjnffcaa.Rows.uptoSmall) rfl false ⟨#[], #[.string ByteArray.empty], []⟩ 8 (by kernel_rfl) (by kernel_rfl) (by kernel_rfl)
      (x := ([.lit (.string [])], [], [])) (by kernel_rfl) rfl (by kernel_rfl)) ?_
  intro W base args ds gs before hval hW _ hk hsz _
  have hk : Ytglchbjdjnffcaa.Rows.uptoBulkAll (ds ++ gs) ≤ 1048576 := of_decide_eq_true hk
  rw [uptoA3] at hk
  refine contract_upto (s := Ytglchbjdjnffcaa.Rows.triplesReadsSpec) (ps := [(false, [.str])]) satl3 laidu3 (by kernel_rfl) (tb := 4) (by kernel_rfl) (by kernel_rfl) rfl (fun ds h => ?_) 1048576 ?_ W base args ds gs before hval hW hsz (Nat.le_trans (bkApp3 ds gs) hk)
  · match ds, h with
    | [d0], _ => rfl
  · rintro ⟨⟨(s : List UInt8), _⟩, _⟩ hsm hbk
    have hbk : s.length + 1 + 0 + 0 ≤ 1048576 := hbk
    exact ⟨by show s.length ≤ _; omega, rfl⟩
theorem overu3 : Ytglchbjdjnffcaa.Rows.TriplesReadsUptoSaid :=
  OpenClaim.holds_of_cond 3 Try.f3 rfl rfl rfl rfl rfl rfl rfl ⟨rfl, rfl, rfl, rfl, rfl⟩ rfl rfl rfl rfl rfl (by kernel_rfl) Try.func3 (by kernel_rfl)
    (of_decide_eq_true (by kernel_rfl)) (by unfold Func.isWrapper; first | (rw [if_pos (by decide +kernel)]; kernel_rfl) | (rw [if_neg (by decide +kernel)]; exact ⟨rfl, rfl⟩))
    (fun os started H enc _ F => liftedu3 os started H enc F)
theorem provedu3 : Ytglchbjdjnffcaa.Rows.TriplesReadsUptoSaid := overu3
#print axioms provedu3
end Go.Proofs.Ytglchbjdjnffcaa.T3
