/- Chapter 7, plain: certain names are in scope. -/
import Derived.Test.YtfpojhphmgnfhaaSvD
namespace Go.Proofs.Ytfpojhphmgnfhaa.Sp
open Go.Proofs.Ytfpojhphmgnfhaa.Lg Go
theorem asc_at {l : List (RowE [.str])} (h : asc l) {i j : Nat} (hij : i < j) (hj : j < l.length) : bytesLess ((getR [.str] l (i : Int)).1) ((getR [.str] l (j : Int)).1) = true := by
  rw [getR_of (List.getElem?_eq_getElem (show i < l.length by omega)), getR_of (List.getElem?_eq_getElem hj)]
  have := List.pairwise_iff_getElem.1 h i j (by simp; omega) (by simpa using hj) hij
  simpa using this
theorem bl_not {a b : B} (h : bytesLess a b = true) : (bytesLess b a || b == a) = false := by
  rw [Bool.or_eq_false_iff]
  refine ⟨?_, ?_⟩
  · cases q : bytesLess b a
    · rfl
    · have := bl_trans a b a h q
      rw [bl_irr] at this; cases this
  · rw [beq_eq_false_iff_ne]
    intro e; subst e
    rw [bl_irr] at h; cases h
theorem has_keys {m : M7} {x : RowE [.str]} (h : x ∈ certs7 m) : hasS (keys7 m) x.1 = true := by
  unfold certs7 at h
  obtain ⟨e, he, rfl⟩ := List.mem_map.1 h
  exact List.any_eq_true.2 ⟨keyR e, List.mem_map_of_mem (List.mem_filter.1 he).1, by simp⟩
theorem keys_len (m : M7) : (keys7 m).length = m.length := by simp [keys7]
theorem certs_len (m : M7) : (certs7 m).length ≤ m.length := by
  unfold certs7; rw [List.length_map]; exact List.length_filter_le _ _
end Go.Proofs.Ytfpojhphmgnfhaa.Sp
