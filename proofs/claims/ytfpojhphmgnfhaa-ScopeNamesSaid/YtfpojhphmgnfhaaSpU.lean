/- Lists of texts: where one is. -/
import Derived.Test.YtfpojhphmgnfhaaSpL
namespace Go.Proofs.Ytfpojhphmgnfhaa.Sp
open Go.Proofs.Ytfpojhphmgnfhaa.Lg
def idxS : List (RowE [.str]) → B → Int → Int
  | [], _, _ => -1
  | r :: l, a, i => if a = r.1 then i else idxS l a (i + 1)
theorem idxS_has : ∀ (l : List (RowE [.str])) (a : B) (i : Int), 0 ≤ i → hasS l a = decide (0 ≤ idxS l a i)
  | [], _, _, _ => rfl
  | r :: l, a, i, h => by
    have ih := idxS_has l a (i + 1) (by omega)
    have e0 : hasS (r :: l) a = (r.1 == a || hasS l a) := rfl
    by_cases e : a = r.1
    · have : idxS (r :: l) a i = i := by rw [idxS, if_pos e]
      rw [e0, this, show (r.1 == a) = true by rw [e]; simp, decide_eq_true h]; rfl
    · have : idxS (r :: l) a i = idxS l a (i + 1) := by rw [idxS, if_neg e]
      rw [e0, this, show (r.1 == a) = false from beq_eq_false_iff_ne.2 (Ne.symm e), Bool.false_or, ih]
theorem txt_at {l : List (RowE [.str])} {i : Nat} (h : i < l.length) : l.drop i = getR [.str] l (i : Int) :: l.drop (i + 1) := by
  rw [List.drop_eq_getElem_cons h]
  simp [getR, List.getElem?_eq_getElem h]
theorem hasS_cons (r : RowE [.str]) (l : List (RowE [.str])) (a : B) : hasS (r :: l) a = (r.1 == a || hasS l a) := rfl
theorem moreS_no {l : List (RowE [.str])} {x : TR} (h : x.1 = 4 → hasS l x.2.1 = true) : moreS l x = l := by
  unfold moreS
  rw [if_neg]
  rintro ⟨h1, h2⟩
  rw [h h1] at h2; cases h2
theorem moreS_yes {l : List (RowE [.str])} {x : TR} (h : x.1 = 4) (h2 : hasS l x.2.1 = false) : moreS l x = l ++ [(x.2.1, ())] := by
  unfold moreS
  rw [if_pos ⟨h, h2⟩]
theorem moreS_len (l : List (RowE [.str])) (x : TR) : (moreS l x).length ≤ l.length + 1 := by
  unfold moreS; split
  · simp
  · omega
theorem varsS_len (t : T3) : (varsS t).length ≤ 3 := by
  unfold varsS
  have h1 := moreS_len [] (tS t)
  have h2 := moreS_len (moreS [] (tS t)) (tP t)
  have h3 := moreS_len (moreS (moreS [] (tS t)) (tP t)) (tO t)
  simp only [List.length_nil] at h1
  omega
theorem sameX_refl (l : List (RowE [.str])) : sameX l l = true := by simp [sameX, sameT1_refl]
end Go.Proofs.Ytfpojhphmgnfhaa.Sp
