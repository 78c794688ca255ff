/- WHATEVER THE INPUT of at most 1048576 values and letters: legation/legationlaw05.LexJoins returns true, and each argument reads behind the call as it read before. The bound: the arguments together, as the row counts them. -/
import Derived.Test.YtcmdlllcjpbbkaaT5O
import Derived.Test.YtcmdlllcjpbbkaaRows
import Derived.Deep.CondSized
import Derived.JoinedCond
import Derived.JoinedOf
set_option maxRecDepth 100000
namespace Go.Proofs.Ytcmdlllcjpbbkaa.T5
open Go.Proofs.Ytcmdlllcjpbbkaa.Lg Go Go.Proofs.Ytcmdlllcjpbbkaa.Sp
open Go.Proofs
theorem ownu6 : ownKnob Try.prog.godebug = none := by kernel_rfl
theorem laidu6 : laidOutB Try.prog = true := by kernel_rfl
mutual
theorem uptoE6 {H : Type} : ∀ d : DataW H, Ytcmdlllcjpbbkaa.Rows.uptoBulk d = blk d
  | .lit l => by cases l <;> simp [Ytcmdlllcjpbbkaa.Rows.uptoBulk, blk]
  | .nil => by simp [Ytcmdlllcjpbbkaa.Rows.uptoBulk, blk]
  | .ptr d => by simp only [Ytcmdlllcjpbbkaa.Rows.uptoBulk, blk, uptoE6 d]
  | .slice e p => by simp only [Ytcmdlllcjpbbkaa.Rows.uptoBulk, blk, uptoA6 e, uptoA6 p]
  | .agg l => by simp only [Ytcmdlllcjpbbkaa.Rows.uptoBulk, blk, uptoA6 l]
  | .iface _ d => by simp only [Ytcmdlllcjpbbkaa.Rows.uptoBulk, blk, uptoE6 d]
  | .map l => by simp only [Ytcmdlllcjpbbkaa.Rows.uptoBulk, blk, uptoM6 l]
  | .held _ => by simp [Ytcmdlllcjpbbkaa.Rows.uptoBulk, blk]
theorem uptoA6 {H : Type} : ∀ l : List (DataW H), Ytcmdlllcjpbbkaa.Rows.uptoBulkAll l = blkAll l
  | [] => by simp [Ytcmdlllcjpbbkaa.Rows.uptoBulkAll, blkAll]
  | d :: l => by simp only [Ytcmdlllcjpbbkaa.Rows.uptoBulkAll, blkAll, uptoE6 d, uptoA6 l]
theorem uptoM6 {H : Type} : ∀ l : List (Lit × DataW H), Ytcmdlllcjpbbkaa.Rows.uptoBulkEntries l = blkEntries l
  | [] => by simp [Ytcmdlllcjpbbkaa.Rows.uptoBulkEntries, blkEntries]
  | (k, d) :: l => by have h1 := uptoE6 d; have h2 := uptoM6 l; cases k <;> simp only [Ytcmdlllcjpbbkaa.Rows.uptoBulkEntries, Ytcmdlllcjpbbkaa.Rows.uptoBulkEntry, blkEntries, blk, h1, h2] <;> omega
end
theorem bkApp6 {H : Type} : ∀ l m : List (DataW H), blkAll l ≤ blkAll (l ++ m)
  | [], m => by simp [blkAll]
  | d :: l, m => by have := bkApp6 l m; simp only [List.cons_append, blkAll]; omega
theorem liftedu6 (os : Os) (started : os.Started) (H : Type) (enc : TypeId × Value → H) (F : Stop.Interp) :
    ReturnsInHanded {} Try.checked os 6 .any ((Ytcmdlllcjpbbkaa.Rows.OpenSpec.upto Ytcmdlllcjpbbkaa.Rows.lexJoinsSpec).pre6 enc Try.prog Try.f6 Ytcmdlllcjpbbkaa.Rows.lexJoinsUptoRow.domain false) (((Ytcmdlllcjpbbkaa.Rows.OpenSpec.upto Ytcmdlllcjpbbkaa.Rows.lexJoinsSpec).at F).post enc Try.prog Try.f6 false true false false) := by
  refine returnsInHanded_of_cond_sized (C := Try.checked) (s := Ytcmdlllcjpbbkaa.Rows.OpenSpec.upto Ytcmdlllcjpbbkaa.Rows.lexJoinsSpec) (k := Ytcmdlllcjpbbkaa.Rows.uptoSmall) rfl ownu6 started (by kernel_rfl) Try.func6
    (OpenSpec.witness (enc := enc) (C := Try.checked) (s := Ytcmdlllcjpbbkaa.Rows.OpenSpec.upto Ytcmdlllcjpbbkaa.Rows.lexJoinsSpec) (k := Ytcmdlllcjpbbkaa.Rows.uptoSmall) rfl false ⟨#[], #[.slice none 0 0], []⟩ 8 (by kernel_rfl) (by kernel_rfl) (by kernel_rfl)
      (x := ([.nil], [], [])) (by kernel_rfl) rfl (by kernel_rfl)) ?_
  intro W base args ds gs before hval hW _ hk hsz _
  have hk : Ytcmdlllcjpbbkaa.Rows.uptoBulkAll (ds ++ gs) ≤ 1048576 := of_decide_eq_true hk
  rw [uptoA6] at hk
  refine contract_upto (s := Ytcmdlllcjpbbkaa.Rows.lexJoinsSpec) (ps := [(false, [.sl [.int .i64, .str, .int .i64, .str, .str, .str, .int .i64]])]) satl6 laidu6 (by kernel_rfl) (tb := 4) (by kernel_rfl) (by kernel_rfl) rfl (fun ds h => ?_) 1048576 ?_ W base args ds gs before hval hW hsz (Nat.le_trans (bkApp6 ds gs) hk)
  · match ds, h with
    | [d0], _ => rfl
  · rintro ⟨⟨(l : List (RowE [.int .i64, .str, .int .i64, .str, .str, .str, .int .i64])), _⟩, _⟩ hsm hbk
    have hbk : (l.map (RowE.bulk [.int .i64, .str, .int .i64, .str, .str, .str, .int .i64])).sum + 1 + 0 + 0 ≤ 1048576 := hbk
    have hj := joinF_bulk l
    have hlen := len_sum (f := RowE.bulk [.int .i64, .str, .int .i64, .str, .str, .str, .int .i64]) (fun t => by have := bulk_tok t; omega) l
    refine ⟨⟨fun t ht => ?_, ?_, ?_⟩, rfl⟩
    · have ht : t ∈ l := ht
      have h1 := mem_sum (f := RowE.bulk [.int .i64, .str, .int .i64, .str, .str, .str, .int .i64]) ht
      have h2 := bulk_tok t
      exact ⟨by omega, by omega, by omega, by omega⟩
    · show l.length ≤ _; omega
    · show (joinF l).length ≤ _; omega
theorem overu6 : Ytcmdlllcjpbbkaa.Rows.LexJoinsUptoSaid :=
  OpenClaim.holds_of_cond 6 Try.f6 rfl rfl rfl rfl rfl rfl rfl ⟨rfl, rfl, rfl, rfl, rfl⟩ rfl rfl rfl rfl rfl (by kernel_rfl) Try.func6 (by kernel_rfl)
    (of_decide_eq_true (by kernel_rfl)) (by unfold Func.isWrapper; first | (rw [if_pos (by decide +kernel)]; kernel_rfl) | (rw [if_neg (by decide +kernel)]; exact ⟨rfl, rfl⟩))
    (fun os started H enc _ F => liftedu6 os started H enc F)
theorem provedu6 : Ytcmdlllcjpbbkaa.Rows.LexJoinsUptoSaid := overu6
#print axioms provedu6
end Go.Proofs.Ytcmdlllcjpbbkaa.T5
