/- WHATEVER THE INPUT of at most 1048576 values and letters: legation/legationlaw03.TriplesBack returns true, and each argument reads behind the call as it read before. The bound: the arguments together, as the row counts them. -/
import Derived.Test.YtglchbjdjnffcaaT3G
import Derived.Test.YtglchbjdjnffcaaRows
import Derived.Deep.CondSized
import Derived.JoinedCond
import Derived.JoinedOf
set_option maxRecDepth 100000
namespace Go.Proofs.Ytglchbjdjnffcaa.T3
open Go.Proofs.Ytglchbjdjnffcaa.Lg Go Go.Proofs.Ytglchbjdjnffcaa.Sp
open Go.Proofs
theorem ownu9 : ownKnob Try.prog.godebug = none := by kernel_rfl
theorem laidu9 : laidOutB Try.prog = true := by kernel_rfl
mutual
theorem uptoE9 {H : Type} : ∀ d : DataW H, Ytglchbjdjnffcaa.Rows.uptoBulk d = blk d
  | .lit l => by cases l <;> simp [Ytglchbjdjnffcaa.Rows.uptoBulk, blk]
  | .nil => by simp [Ytglchbjdjnffcaa.Rows.uptoBulk, blk]
  | .ptr d => by simp only [Ytglchbjdjnffcaa.Rows.uptoBulk, blk, uptoE9 d]
  | .slice e p => by simp only [Ytglchbjdjnffcaa.Rows.uptoBulk, blk, uptoA9 e, uptoA9 p]
  | .agg l => by simp only [Ytglchbjdjnffcaa.Rows.uptoBulk, blk, uptoA9 l]
  | .iface _ d => by simp only [Ytglchbjdjnffcaa.Rows.uptoBulk, blk, uptoE9 d]
  | .map l => by simp only [Ytglchbjdjnffcaa.Rows.uptoBulk, blk, uptoM9 l]
  | .held _ => by simp [Ytglchbjdjnffcaa.Rows.uptoBulk, blk]
theorem uptoA9 {H : Type} : ∀ l : List (DataW H), Ytglchbjdjnffcaa.Rows.uptoBulkAll l = blkAll l
  | [] => by simp [Ytglchbjdjnffcaa.Rows.uptoBulkAll, blkAll]
  | d :: l => by simp only [Ytglchbjdjnffcaa.Rows.uptoBulkAll, blkAll, uptoE9 d, uptoA9 l]
theorem uptoM9 {H : Type} : ∀ l : List (Lit × DataW H), Ytglchbjdjnffcaa.Rows.uptoBulkEntries l = blkEntries l
  | [] => by simp [Ytglchbjdjnffcaa.Rows.uptoBulkEntries, blkEntries]
  | (k, d) :: l => by have h1 := uptoE9 d; have h2 := uptoM9 l; cases k <;> simp only [Ytglchbjdjnffcaa.Rows.uptoBulkEntries, Ytglchbjdjnffcaa.Rows.uptoBulkEntry, blkEntries, blk, h1, h2] <;> omega
end
theorem bkApp9 {H : Type} : ∀ l m : List (DataW H), blkAll l ≤ blkAll (l ++ m)
  | [], m => by simp [blkAll]
  | d :: l, m => by have := bkApp9 l m; simp only [List.cons_append, blkAll]; omega
theorem liftedu9 (os : Os) (started : os.Started) (H : Type) (enc : TypeId × Value → H) (F : Stop.Interp) :
    ReturnsInHanded {} Try.checked os 9 .any ((Ytglchbjdjnffcaa.Rows.OpenSpec.upto Ytglchbjdjnffcaa.Rows.triplesBackSpec).pre6 enc Try.prog Try.f9 Ytglchbjdjnffcaa.Rows.triplesBackUptoRow.domain false) (((Ytglchbjdjnffcaa.Rows.OpenSpec.upto Ytglchbjdjnffcaa.Rows.triplesBackSpec).at F).post enc Try.prog Try.f9 false true false false) := by
  refine returnsInHanded_of_cond_sized (C := Try.checked) (s := Ytglchbjdjnffcaa.Rows.OpenSpec.upto Ytglchbjdjnffcaa.Rows.triplesBackSpec) (k := Ytglchbjdjnffcaa.Rows.uptoSmall) rfl ownu9 started (by kernel_rfl) Try.func9
    (OpenSpec.witness (enc := enc) (C := Try.checked) (s := Ytglchbjdjnffcaa.Rows.OpenSpec.upto Ytglchbjdjnffcaa.Rows.triplesBackSpec) (k := Ytglchbjdjnffcaa.Rows.uptoSmall) rfl false ⟨#[], #[.slice none 0 0, .string ByteArray.empty], []⟩ 8 (by kernel_rfl) (by kernel_rfl) (by kernel_rfl)
      (x := ([.nil, .lit (.string [])], [], [])) (by kernel_rfl) rfl (by kernel_rfl)) ?_
  intro W base args ds gs before hval hW _ hk hsz _
  have hk : Ytglchbjdjnffcaa.Rows.uptoBulkAll (ds ++ gs) ≤ 1048576 := of_decide_eq_true hk
  rw [uptoA9] at hk
  refine contract_upto (s := Ytglchbjdjnffcaa.Rows.triplesBackSpec) (ps := [(false, [.sl [.int .i64, .str, .str, .str, .int .i64, .str, .str, .str, .int .i64, .str, .str, .str]]), (false, [.str])]) satl5 laidu9 (by kernel_rfl) (tb := 4) (by kernel_rfl) (by kernel_rfl) rfl (fun ds h => ?_) 1048576 ?_ W base args ds gs before hval hW hsz (Nat.le_trans (bkApp9 ds gs) hk)
  · match ds, h with
    | [d0, d1], _ => rfl
  · rintro ⟨⟨(l : List (RowE [.int .i64, .str, .str, .str, .int .i64, .str, .str, .str, .int .i64, .str, .str, .str])), _⟩, ⟨(s : List UInt8), _⟩, _⟩ hsm hbk
    have hbk : (l.map (RowE.bulk t3S)).sum + 1 + 0 + (s.length + 1 + 0 + 0) ≤ 1048576 := hbk
    obtain ⟨⟨hl, _⟩, _⟩ := hsm
    exact ⟨⟨fun x hx => sz3_of (hl.2 x hx), by show s.length ≤ _; omega⟩, rfl⟩
theorem overu9 : Ytglchbjdjnffcaa.Rows.TriplesBackUptoSaid :=
  OpenClaim.holds_of_cond 9 Try.f9 rfl rfl rfl rfl rfl rfl rfl ⟨rfl, rfl, rfl, rfl, rfl⟩ rfl rfl rfl rfl rfl (by kernel_rfl) Try.func9 (by kernel_rfl)
    (of_decide_eq_true (by kernel_rfl)) (by unfold Func.isWrapper; first | (rw [if_pos (by decide +kernel)]; kernel_rfl) | (rw [if_neg (by decide +kernel)]; exact ⟨rfl, rfl⟩))
    (fun os started H enc _ F => liftedu9 os started H enc F)
theorem provedu9 : Ytglchbjdjnffcaa.Rows.TriplesBackUptoSaid := overu9
#print axioms provedu9
end Go.Proofs.Ytglchbjdjnffcaa.T3
