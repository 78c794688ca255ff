/- WHATEVER THE INPUT of at most 1048576 values and letters: legation/legationlaw03.TriplesJoins returns true, and each argument reads behind the call as it read before. The bound: the arguments together, as the row counts them. -/
import Derived.Test.YtglchbjdjnffcaaT3G
import Derived.Test.YtglchbjdjnffcaaRows
import Derived.Deep.CondSized
import Derived.JoinedCond
import Derived.JoinedOf
set_option maxRecDepth 100000
namespace Go.Proofs.Ytglchbjdjnffcaa.T3
open Go.Proofs.Ytglchbjdjnffcaa.Lg Go Go.Proofs.Ytglchbjdjnffcaa.Sp
open Go.Proofs
theorem ownu4 : ownKnob Try.prog.godebug = none := by kernel_rfl
theorem laidu4 : laidOutB Try.prog = true := by kernel_rfl
mutual
theorem uptoE4 {H : Type} : ∀ d : DataW H, Ytglchbjdjnffcaa.Rows.uptoBulk d = blk d
  | .lit l => by cases l <;> simp [Ytglchbjdjnffcaa.Rows.uptoBulk, blk]
  | .nil => by simp [Ytglchbjdjnffcaa.Rows.uptoBulk, blk]
  | .ptr d => by simp only [Ytglchbjdjnffcaa.Rows.uptoBulk, blk, uptoE4 d]
  | .slice e p => by simp only [Ytglchbjdjnffcaa.Rows.uptoBulk, blk, uptoA4 e, uptoA4 p]
  | .agg l => by simp only [Ytglchbjdjnffcaa.Rows.uptoBulk, blk, uptoA4 l]
  | .iface _ d => by simp only [Ytglchbjdjnffcaa.Rows.uptoBulk, blk, uptoE4 d]
  | .map l => by simp only [Ytglchbjdjnffcaa.Rows.uptoBulk, blk, uptoM4 l]
  | .held _ => by simp [Ytglchbjdjnffcaa.Rows.uptoBulk, blk]
theorem uptoA4 {H : Type} : ∀ l : List (DataW H), Ytglchbjdjnffcaa.Rows.uptoBulkAll l = blkAll l
  | [] => by simp [Ytglchbjdjnffcaa.Rows.uptoBulkAll, blkAll]
  | d :: l => by simp only [Ytglchbjdjnffcaa.Rows.uptoBulkAll, blkAll, uptoE4 d, uptoA4 l]
theorem uptoM4 {H : Type} : ∀ l : List (Lit × DataW H), Ytglchbjdjnffcaa.Rows.uptoBulkEntries l = blkEntries l
  | [] => by simp [Ytglchbjdjnffcaa.Rows.uptoBulkEntries, blkEntries]
  | (k, d) :: l => by have h1 := uptoE4 d; have h2 := uptoM4 l; cases k <;> simp only [Ytglchbjdjnffcaa.Rows.uptoBulkEntries, Ytglchbjdjnffcaa.Rows.uptoBulkEntry, blkEntries, blk, h1, h2] <;> omega
end
theorem bkApp4 {H : Type} : ∀ l m : List (DataW H), blkAll l ≤ blkAll (l ++ m)
  | [], m => by simp [blkAll]
  | d :: l, m => by have := bkApp4 l m; simp only [List.cons_append, blkAll]; omega
theorem liftedu4 (os : Os) (started : os.Started) (H : Type) (enc : TypeId × Value → H) (F : Stop.Interp) :
    ReturnsInHanded {} Try.checked os 4 .any ((Ytglchbjdjnffcaa.Rows.OpenSpec.upto Ytglchbjdjnffcaa.Rows.triplesJoinsSpec).pre6 enc Try.prog Try.f4 Ytglchbjdjnffcaa.Rows.triplesJoinsUptoRow.domain false) (((Ytglchbjdjnffcaa.Rows.OpenSpec.upto Ytglchbjdjnffcaa.Rows.triplesJoinsSpec).at F).post enc Try.prog Try.f4 false true false false) := by
  refine returnsInHanded_of_cond_sized (C := Try.checked) (s := Ytglchbjdjnffcaa.Rows.OpenSpec.upto Ytglchbjdjnffcaa.Rows.triplesJoinsSpec) (k := Ytglchbjdjnffcaa.Rows.uptoSmall) rfl ownu4 started (by kernel_rfl) Try.func4
    (OpenSpec.witness (enc := enc) (C := Try.checked) (s := Ytglchbjdjnffcaa.Rows.OpenSpec.upto Ytglchbjdjnffcaa.Rows.triplesJoinsSpec) (k := Ytglchbjdjnffcaa.Rows.uptoSmall) rfl false ⟨#[], #[.string ByteArray.empty, .string ByteArray.empty], []⟩ 8 (by kernel_rfl) (by kernel_rfl) (by kernel_rfl)
      (x := ([.lit (.string []), .lit (.string [])], [], [])) (by kernel_rfl) rfl (by kernel_rfl)) ?_
  intro W base args ds gs before hval hW _ hk hsz _
  have hk : Ytglchbjdjnffcaa.Rows.uptoBulkAll (ds ++ gs) ≤ 1048576 := of_decide_eq_true hk
  rw [uptoA4] at hk
  refine contract_upto (s := Ytglchbjdjnffcaa.Rows.triplesJoinsSpec) (ps := [(false, [.str]), (false, [.str])]) satl6 laidu4 (by kernel_rfl) (tb := 4) (by kernel_rfl) (by kernel_rfl) rfl (fun ds h => ?_) 1048576 ?_ W base args ds gs before hval hW hsz (Nat.le_trans (bkApp4 ds gs) hk)
  · match ds, h with
    | [d0, d1], _ => rfl
  · rintro ⟨⟨(a : List UInt8), _⟩, ⟨(b : List UInt8), _⟩, _⟩ hsm hbk
    have hbk : a.length + 1 + 0 + (b.length + 1 + 0 + 0) ≤ 1048576 := hbk
    exact ⟨by show a.length + b.length ≤ _; omega, rfl⟩
theorem overu4 : Ytglchbjdjnffcaa.Rows.TriplesJoinsUptoSaid :=
  OpenClaim.holds_of_cond 4 Try.f4 rfl rfl rfl rfl rfl rfl rfl ⟨rfl, rfl, rfl, rfl, rfl⟩ rfl rfl rfl rfl rfl (by kernel_rfl) Try.func4 (by kernel_rfl)
    (of_decide_eq_true (by kernel_rfl)) (by unfold Func.isWrapper; first | (rw [if_pos (by decide +kernel)]; kernel_rfl) | (rw [if_neg (by decide +kernel)]; exact ⟨rfl, rfl⟩))
    (fun os started H enc _ F => liftedu4 os started H enc F)
theorem provedu4 : Ytglchbjdjnffcaa.Rows.TriplesJoinsUptoSaid := overu4
#print axioms provedu4
end Go.Proofs.Ytglchbjdjnffcaa.T3
