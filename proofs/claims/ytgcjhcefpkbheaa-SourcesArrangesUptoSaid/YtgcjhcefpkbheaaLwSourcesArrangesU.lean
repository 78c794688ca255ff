/- WHATEVER THE INPUT of at most 1048576 values and letters: legation/legationlaw20.SourcesArranges returns true, and each argument reads behind the call as it read before. The bound: the arguments together, as the row counts them. -/
import Derived.Test.YtgcjhcefpkbheaaSwG
import Derived.Test.YtgcjhcefpkbheaaT20E
import Derived.Test.YtgcjhcefpkbheaaRows
import Derived.Deep.CondSized
import Derived.JoinedCond
import Derived.JoinedOf
set_option maxRecDepth 100000
namespace Go.Proofs.Ytgcjhcefpkbheaa.T20
open Go.Proofs.Ytgcjhcefpkbheaa.Lg Go Go.Proofs.Ytgcjhcefpkbheaa.Sp
open Go.Proofs
theorem ownu7 : ownKnob Try.prog.godebug = none := by kernel_rfl
theorem laidu7 : laidOutB Try.prog = true := by kernel_rfl
mutual
theorem uptoE7 {H : Type} : ∀ d : DataW H, Ytgcjhcefpkbheaa.Rows.uptoBulk d = blk d
  | .lit l => by cases l <;> simp [Ytgcjhcefpkbheaa.Rows.uptoBulk, blk]
  | .nil => by simp [Ytgcjhcefpkbheaa.Rows.uptoBulk, blk]
  | .ptr d => by simp only [Ytgcjhcefpkbheaa.Rows.uptoBulk, blk, uptoE7 d]
  | .slice e p => by simp only [Ytgcjhcefpkbheaa.Rows.uptoBulk, blk, uptoA7 e, uptoA7 p]
  | .agg l => by simp only [Ytgcjhcefpkbheaa.Rows.uptoBulk, blk, uptoA7 l]
  | .iface _ d => by simp only [Ytgcjhcefpkbheaa.Rows.uptoBulk, blk, uptoE7 d]
  | .map l => by simp only [Ytgcjhcefpkbheaa.Rows.uptoBulk, blk, uptoM7 l]
  | .held _ => by simp [Ytgcjhcefpkbheaa.Rows.uptoBulk, blk]
theorem uptoA7 {H : Type} : ∀ l : List (DataW H), Ytgcjhcefpkbheaa.Rows.uptoBulkAll l = blkAll l
  | [] => by simp [Ytgcjhcefpkbheaa.Rows.uptoBulkAll, blkAll]
  | d :: l => by simp only [Ytgcjhcefpkbheaa.Rows.uptoBulkAll, blkAll, uptoE7 d, uptoA7 l]
theorem uptoM7 {H : Type} : ∀ l : List (Lit × DataW H), Ytgcjhcefpkbheaa.Rows.uptoBulkEntries l = blkEntries l
  | [] => by simp [Ytgcjhcefpkbheaa.Rows.uptoBulkEntries, blkEntries]
  | (k, d) :: l => by have h1 := uptoE7 d; have h2 := uptoM7 l; cases k <;> simp only [Ytgcjhcefpkbheaa.Rows.uptoBulkEntries, Ytgcjhcefpkbheaa.Rows.uptoBulkEntry, blkEntries, blk, h1, h2] <;> omega
end
theorem bkApp7 {H : Type} : ∀ l m : List (DataW H), blkAll l ≤ blkAll (l ++ m)
  | [], m => by simp [blkAll]
  | d :: l, m => by have := bkApp7 l m; simp only [List.cons_append, blkAll]; omega
theorem liftedu7 (os : Os) (started : os.Started) (H : Type) (enc : TypeId × Value → H) (F : Stop.Interp) :
    ReturnsInHanded {} Try.checked os 7 .any ((Ytgcjhcefpkbheaa.Rows.OpenSpec.upto Ytgcjhcefpkbheaa.Rows.sourcesArrangesSpec).pre6 enc Try.prog Try.f7 Ytgcjhcefpkbheaa.Rows.sourcesArrangesUptoRow.domain false) (((Ytgcjhcefpkbheaa.Rows.OpenSpec.upto Ytgcjhcefpkbheaa.Rows.sourcesArrangesSpec).at F).post enc Try.prog Try.f7 false true false false) := by
  refine returnsInHanded_of_cond_sized (C := Try.checked) (s := Ytgcjhcefpkbheaa.Rows.OpenSpec.upto Ytgcjhcefpkbheaa.Rows.sourcesArrangesSpec) (k := Ytgcjhcefpkbheaa.Rows.uptoSmall) rfl ownu7 started (by kernel_rfl) Try.func7
    (OpenSpec.witness (enc := enc) (C := Try.checked) (s := Ytgcjhcefpkbheaa.Rows.OpenSpec.upto Ytgcjhcefpkbheaa.Rows.sourcesArrangesSpec) (k := Ytgcjhcefpkbheaa.Rows.uptoSmall) rfl false ⟨#[], #[.slice none 0 0, .slice none 0 0, .bool false], []⟩ 8 (by kernel_rfl) (by kernel_rfl) (by kernel_rfl)
      (x := ([.nil, .nil, .lit (.bool false)], [], [])) (by kernel_rfl) rfl (by kernel_rfl)) ?_
  intro W base args ds gs before hval hW _ hk hsz _
  have hk : Ytgcjhcefpkbheaa.Rows.uptoBulkAll (ds ++ gs) ≤ 1048576 := of_decide_eq_true hk
  rw [uptoA7] at hk
  refine contract_upto (s := Ytgcjhcefpkbheaa.Rows.sourcesArrangesSpec) (ps := [(false, [.sl [.int .i64, .str, .str, .str, .int .i64, .str, .str, .str, .int .i64, .str, .str, .str]]), (false, [.sl [.sl [.int .i64], .sl [.int .i64]]]), (false, [.bool])]) satl_Arranges laidu7 (by kernel_rfl) (tb := 4) (by kernel_rfl) (by kernel_rfl) rfl (fun ds h => ?_) 1048576 ?_ W base args ds gs before (JW.none (by kernel_rfl) W) hval hW hsz (Nat.le_trans (bkApp7 ds gs) hk)
  · match ds, h with
    | [d0, d1, d2], _ => rfl
  · rintro ⟨⟨(l : List (RowE [.int .i64, .str, .str, .str, .int .i64, .str, .str, .str, .int .i64, .str, .str, .str])), _⟩, ⟨(groups : List (RowE [.sl [.int .i64], .sl [.int .i64]])), _⟩, ⟨(reverse : Bool), _⟩, _⟩ hsm hbk
    have hbk : (l.map (RowE.bulk [.int .i64, .str, .str, .str, .int .i64, .str, .str, .str, .int .i64, .str, .str, .str])).sum + 1 + 0 + ((groups.map (RowE.bulk [.sl [.int .i64], .sl [.int .i64]])).sum + 1 + 0 + (1 + 0 + 0)) ≤ 1048576 := hbk
    obtain ⟨⟨hl, _⟩, _⟩ := hsm
    have b1 := len_sum (f := RowE.bulk [.int .i64, .str, .str, .str, .int .i64, .str, .str, .str, .int .i64, .str, .str, .str]) (fun t => bulk_pos3 t) l
    have b2 := len_sum (f := RowE.bulk [.sl [.int .i64], .sl [.int .i64]]) (fun t => bulk_posG t) groups
    refine ⟨⟨by show l.length ≤ _; omega, fun x hx => sz3_of (hl.2 x hx), by show groups.length ≤ _; omega, fun g hg => ?_⟩, rfl⟩
    have hg : g ∈ groups := hg
    have h1 := mem_sum (f := RowE.bulk [.sl [.int .i64], .sl [.int .i64]]) hg
    have h2 := bulk_gr g
    exact ⟨by omega, by omega⟩
theorem overu7 : Ytgcjhcefpkbheaa.Rows.SourcesArrangesUptoSaid :=
  OpenClaim.holds_of_cond 7 Try.f7 rfl rfl rfl rfl rfl rfl rfl ⟨rfl, rfl, rfl, rfl, rfl⟩ rfl rfl rfl rfl rfl (by kernel_rfl) Try.func7 (by kernel_rfl)
    (of_decide_eq_true (by kernel_rfl)) (by unfold Func.isWrapper; first | (rw [if_pos (by decide +kernel)]; kernel_rfl) | (rw [if_neg (by decide +kernel)]; exact ⟨rfl, rfl⟩))
    (fun os started H enc _ F => liftedu7 os started H enc F)
theorem provedu7 : Ytgcjhcefpkbheaa.Rows.SourcesArrangesUptoSaid := overu7
#print axioms provedu7
end Go.Proofs.Ytgcjhcefpkbheaa.T20
