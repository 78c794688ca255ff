/- Chapter 20: what the rows' bounds give. -/
import Derived.Test.YtgcjhcefpkbheaaSwF
namespace Go.Proofs.Ytgcjhcefpkbheaa.Sp
open Go.Proofs.Ytgcjhcefpkbheaa.Lg Go Go.Proofs
theorem sz3_of {t : T3} (h : RowE.small [.int .i64, .str, .str, .str, .int .i64, .str, .str, .str, .int .i64, .str, .str, .str] t) : sz3 140737488355328 t := by
  obtain ⟨_, a1, a2, a3, _, b1, b2, b3, _, c1, c2, c3, _⟩ := h
  exact ⟨⟨Nat.le_trans a1 (by decide), Nat.le_trans a2 (by decide), Nat.le_trans a3 (by decide)⟩, ⟨Nat.le_trans b1 (by decide), Nat.le_trans b2 (by decide), Nat.le_trans b3 (by decide)⟩, Nat.le_trans c1 (by decide), Nat.le_trans c2 (by decide), Nat.le_trans c3 (by decide)⟩
theorem small_rows {es : List Sh} {l : List (RowE es)} (h : CE.small (.sl es) l) (k : Nat) (hk : bytesL es = k) : l.length * k ≤ 140737488355328 := by
  simp only [CE.small, hk] at h
  exact Nat.le_trans h.1 (by decide)
theorem bulk_pos3 (t : T3) : 1 ≤ RowE.bulk [.int .i64, .str, .str, .str, .int .i64, .str, .str, .str, .int .i64, .str, .str, .str] t := by
  simp only [RowE.bulk, CE.bulk]; omega
theorem bulk_posG (g : Gr) : 1 ≤ RowE.bulk [.sl [.int .i64], .sl [.int .i64]] g := by
  simp only [RowE.bulk, CE.bulk]; omega
theorem bulk_gr (g : Gr) : (g.1 : List Nt).length + (g.2.1 : List Nt).length ≤ RowE.bulk [.sl [.int .i64], .sl [.int .i64]] g := by
  have h1 := len_sum (f := RowE.bulk [.int .i64]) (fun t => by simp only [RowE.bulk, CE.bulk]; omega) (g.1 : List Nt)
  have h2 := len_sum (f := RowE.bulk [.int .i64]) (fun t => by simp only [RowE.bulk, CE.bulk]; omega) (g.2.1 : List Nt)
  simp only [RowE.bulk, CE.bulk] at h1 h2 ⊢
  omega
end Go.Proofs.Ytgcjhcefpkbheaa.Sp
