/- Chapter 6: what binds closer. -/
import Derived.Test.YtoopcfjmmhmamaaSpS
namespace Go.Proofs.Ytoopcfjmmhmamaa.Sp
open Go.Proofs.Ytoopcfjmmhmamaa.Lg
def lvS (n : Int) : Int × Int := if 6 + n.tmod 12 = 7 then (0, 7) else if 6 + n.tmod 12 = 6 then (1, 6) else if 6 + n.tmod 12 ≤ 13 then (2, 6 + n.tmod 12) else if 6 + n.tmod 12 ≤ 15 then (3, 6 + n.tmod 12) else (4, 6 + n.tmod 12)
def bindT (a b : B) : List Tok := [(2, [97], 0, [], [], [], 0, ()), (5, a, 0, [], [], [], 0, ()), (2, [98], 0, [], [], [], 0, ()), (5, b, 0, [], [], [], 0, ()), (2, [99], 0, [], [], [], 0, ())]
def shortP (p : Pt) : Bool := Nat.ble p.2.2.1.length 10 && (Nat.ble p.2.2.2.1.length 10 && (Nat.ble p.2.2.2.2.1.length 10 && Nat.ble p.2.2.2.2.2.1.length 10))
theorem shortP_sz {p : Pt} (h : shortP p = true) : szPt p := by
  simp only [shortP, Bool.and_eq_true, Nat.ble_eq] at h
  exact ⟨by omega, by omega, by omega, by omega⟩
def bindB (p q : Int × Int) : Bool :=
  ((pfW 0 (bindT (signT p.2) (signT q.2), 0, [], false, ())).2.2.1).all shortP &&
  (let r := parseS (bindT (signT p.2) (signT q.2)) 0
   decide (r.2.2 = 0) && (if p.1 = 2 ∧ q.1 = 2 then decide (r.2.1 = 3) && decide ((r.1.length : Int) = 3)
    else decide (r.2.1 = 5) && (decide ((r.1.length : Int) = 5) && (if q.1 ≤ p.1 then decide ((getR ptS r.1 2).1 = p.2) && decide ((getR ptS r.1 4).1 = q.2) else decide ((getR ptS r.1 3).1 = q.2) && decide ((getR ptS r.1 4).1 = p.2)))))
theorem bind_all : ∀ i j : Fin 12, bindB (lvS i.1) (lvS j.1) = true := by decide +kernel
theorem lvS_mod {n : Int} (h : 0 ≤ n) : ∃ i : Fin 12, lvS n = lvS i.1 := by
  have b1 := Int.tmod_nonneg (a := n) (b := 12) h
  have b2 := Int.tmod_lt_of_pos n (b := 12) (by decide)
  refine ⟨⟨(n.tmod 12).toNat, by omega⟩, ?_⟩
  have e : ((n.tmod 12).toNat : Int) = n.tmod 12 := Int.toNat_of_nonneg b1
  have e2 : (n.tmod 12).tmod 12 = n.tmod 12 := Int.tmod_eq_of_lt b1 b2
  simp only [lvS, e, e2]
theorem bind_any {x y : Int} (hx : 0 ≤ x) (hy : 0 ≤ y) : bindB (lvS x) (lvS y) = true := by
  obtain ⟨i, hi⟩ := lvS_mod hx
  obtain ⟨j, hj⟩ := lvS_mod hy
  rw [hi, hj]; exact bind_all i j
theorem bind_sz {p q : Int × Int} (h : bindB p q = true) : allPt (pfW 0 (bindT (signT p.2) (signT q.2), 0, [], false, ())).2.2.1 := by
  simp only [bindB, Bool.and_eq_true, List.all_eq_true] at h
  exact fun x hx => shortP_sz (h.1 x hx)
theorem bind_ok {p q : Int × Int} (h : bindB p q = true) : (parseS (bindT (signT p.2) (signT q.2)) 0).2.2 = 0 := by
  simp only [bindB, Bool.and_eq_true, decide_eq_true_eq] at h
  exact h.2.1
theorem bind_22 {p q : Int × Int} (h : bindB p q = true) (h1 : p.1 = 2) (h2 : q.1 = 2) : (parseS (bindT (signT p.2) (signT q.2)) 0).2.1 = 3 ∧ ((parseS (bindT (signT p.2) (signT q.2)) 0).1.length : Int) = 3 := by
  simp only [bindB, Bool.and_eq_true, h1, h2, and_self, if_true, decide_eq_true_eq] at h
  exact h.2.2
theorem bind_no {p q : Int × Int} (h : bindB p q = true) (h1 : ¬ (p.1 = 2 ∧ q.1 = 2)) : (parseS (bindT (signT p.2) (signT q.2)) 0).2.1 = 5 ∧ ((parseS (bindT (signT p.2) (signT q.2)) 0).1.length : Int) = 5 ∧
    (q.1 ≤ p.1 → (getR ptS (parseS (bindT (signT p.2) (signT q.2)) 0).1 2).1 = p.2 ∧ (getR ptS (parseS (bindT (signT p.2) (signT q.2)) 0).1 4).1 = q.2) ∧
    (¬ q.1 ≤ p.1 → (getR ptS (parseS (bindT (signT p.2) (signT q.2)) 0).1 3).1 = q.2 ∧ (getR ptS (parseS (bindT (signT p.2) (signT q.2)) 0).1 4).1 = p.2) := by
  simp only [bindB, Bool.and_eq_true, if_neg h1, decide_eq_true_eq] at h
  obtain ⟨_, _, h2, h3, h4⟩ := h
  refine ⟨h2, h3, fun w => ?_, fun w => ?_⟩
  · rw [if_pos w] at h4; simpa using h4
  · rw [if_neg w] at h4; simpa using h4
/-! Where a part's own begin. -/
def nd (f : List Pt) (j : Nat) : Int := needsS (getR ptS f (j : Int))
def cn (f : List Pt) : Nat → Int
  | 0 => 0
  | j + 1 => cn f j + (1 - nd f j)
theorem seg_cons {f : List Pt} {a b : Nat} (h : a < b) (hb : b ≤ f.length) : (f.take b).drop a = getR ptS f (a : Int) :: (f.take b).drop (a + 1) := by
  rw [part_at (f := f.take b) (by rw [List.length_take]; omega)]
  congr 1
  simp only [getR, Int.toNat_natCast, List.getElem?_take, if_pos h]
theorem seg_nil {f : List Pt} {a b : Nat} (h : b ≤ a) : (f.take b).drop a = [] := List.drop_of_length_le (by rw [List.length_take]; omega)
theorem seg_good {f : List Pt} {b : Nat} (hb : b ≤ f.length) : ∀ (k a : Nat) (n : Int), a + k = b → (∀ j, a ≤ j → j < b → rightP (getR ptS f (j : Int)) = true ∧ nd f j ≤ n + (cn f j - cn f a)) → chkN ((f.take b).drop a) n = n + (cn f b - cn f a)
  | 0, a, n, h, _ => by
    have h : a = b := h
    subst h
    rw [seg_nil (Nat.le_refl _), chkN]; omega
  | k + 1, a, n, h, g => by
    rw [seg_cons (by omega) hb, chkN]
    obtain ⟨g1, g2⟩ := g a (Nat.le_refl _) (by omega)
    have hc : cn f (a + 1) = cn f a + (1 - nd f a) := rfl
    have hn : nd f a = needsS (getR ptS f (a : Int)) := rfl
    rw [if_neg (by rw [g1]; intro z; rcases z with z | z; cases z; omega), seg_good hb k (a + 1) _ (by omega)]
    · omega
    · intro j h1 h2
      obtain ⟨q1, q2⟩ := g j (by omega) h2
      exact ⟨q1, by omega⟩
theorem seg_back {f : List Pt} {b : Nat} (hb : b ≤ f.length) : ∀ (k a : Nat) (n : Int), a + k = b → chkN ((f.take b).drop a) n ≠ -1 → chkN ((f.take b).drop a) n = n + (cn f b - cn f a) ∧ ∀ j, a ≤ j → j < b → rightP (getR ptS f (j : Int)) = true ∧ nd f j ≤ n + (cn f j - cn f a)
  | 0, a, n, h, _ => by
    have h : a = b := h
    subst h
    rw [seg_nil (Nat.le_refl _), chkN]; exact ⟨by omega, fun j h1 h2 => by omega⟩
  | k + 1, a, n, h, g => by
    rw [seg_cons (by omega) hb, chkN] at g ⊢
    have hc : cn f (a + 1) = cn f a + (1 - nd f a) := rfl
    have hn : nd f a = needsS (getR ptS f (a : Int)) := rfl
    by_cases c : rightP (getR ptS f (a : Int)) = false ∨ n < needsS (getR ptS f (a : Int))
    · rw [if_pos c] at g; exact absurd rfl g
    · rw [if_neg c] at g ⊢
      obtain ⟨q1, q2⟩ := seg_back hb k (a + 1) _ (by omega) g
      refine ⟨by omega, fun j h1 h2 => ?_⟩
      rcases Nat.eq_or_lt_of_le h1 with e | e
      · subst e
        refine ⟨?_, ?_⟩
        · cases r : rightP (getR ptS f (a : Int))
          · exact absurd (.inl r) c
          · rfl
        · have : ¬ n < needsS (getR ptS f (a : Int)) := fun z => c (.inr z)
          omega
      · obtain ⟨r1, r2⟩ := q2 j e h2
        exact ⟨r1, by omega⟩
theorem from_find {f : List Pt} {i : Nat} (hi : i < f.length) (hl : f.length ≤ 256) (hf : chkN f 0 = 1) : ∀ (p : Nat), p ≤ i → (∀ q, p < q → q ≤ i + 1 → cn f (i + 1) - cn f q ≤ 0) →
    fromN f p (1 - (cn f (i + 1) - cn f (p + 1))) = findAt f i p ∧ 0 ≤ findAt f i p := by
  have hseg : (f.take f.length).drop 0 = f := by simp
  have whole := (seg_back (f := f) (Nat.le_refl _) f.length 0 0 (by omega) (by rw [hseg, hf]; decide)).2
  have hw : ∀ j, j < f.length → rightP (getR ptS f (j : Int)) = true ∧ nd f j ≤ cn f j ∧ 0 ≤ nd f j := fun j h => by
    obtain ⟨q1, q2⟩ := whole j (Nat.zero_le _) h
    have h0 : cn f 0 = 0 := rfl
    exact ⟨q1, by omega, rightP_needs q1⟩
  have yes : ∀ p, p ≤ i → (∀ q, p < q → q ≤ i + 1 → cn f (i + 1) - cn f q ≤ 0) → cn f (i + 1) - cn f p = 1 → checkS ((f.take (i + 1)).drop p) = 0 := by
    intro p hp hq e
    have hg := seg_good (f := f) (b := i + 1) (by omega) (i + 1 - p) p 0 (by omega) fun j h1 h2 => by
      obtain ⟨q1, q2, q3⟩ := hw j (by omega)
      have hc : cn f (j + 1) = cn f j + (1 - nd f j) := rfl
      have := hq (j + 1) (by omega) (by omega)
      exact ⟨q1, by omega⟩
    rw [checkS, if_neg (by rw [List.length_drop, List.length_take]; omega), if_pos (by omega)]
  have no : ∀ p, p ≤ i → ¬ cn f (i + 1) - cn f p = 1 → ¬ checkS ((f.take (i + 1)).drop p) = 0 := by
    intro p hp e hc
    rw [checkS, if_neg (by rw [List.length_drop, List.length_take]; omega)] at hc
    split at hc
    · rename_i h1
      have := (seg_back (f := f) (b := i + 1) (by omega) (i + 1 - p) p 0 (by omega) (by rw [h1]; decide)).1
      omega
    · cases hc
  intro p
  induction p with
  | zero =>
    intro hp hq
    have hc : cn f (0 + 1) = cn f 0 + (1 - nd f 0) := rfl
    have hn : nd f 0 = needsS (getR ptS f 0) := rfl
    have h0 : cn f 0 = 0 := rfl
    have h1 : cn f (i + 1) = cn f i + (1 - nd f i) := rfl
    obtain ⟨_, b2, b3⟩ := hw i hi
    obtain ⟨_, c2, c3⟩ := hw 0 (by omega)
    have := hq 1 (by omega) (by omega)
    have hc1 : cn f 1 = cn f 0 + (1 - nd f 0) := rfl
    have e : cn f (i + 1) - cn f 0 = 1 := by omega
    have e2 := yes 0 (by omega) hq e
    rw [fromN, if_pos (by omega), findAt, if_pos e2]
    exact ⟨rfl, Int.le_refl _⟩
  | succ p ih =>
    intro hp hq
    have hc : cn f (p + 1 + 1) = cn f (p + 1) + (1 - nd f (p + 1)) := rfl
    have hn : nd f (p + 1) = needsS (getR ptS f ((p + 1 : Nat) : Int)) := rfl
    by_cases e : cn f (i + 1) - cn f (p + 1) = 1
    · have e2 := yes (p + 1) hp hq e
      rw [fromN, if_pos (by omega), findAt, if_pos e2]
      exact ⟨rfl, by omega⟩
    · have e2 := no (p + 1) hp e
      rw [fromN, if_neg (by omega), findAt, if_neg e2]
      obtain ⟨_, _, c3⟩ := hw (p + 1) (by omega)
      have h2 := hq (p + 1 + 1) (by omega) (by omega)
      have hx : 1 - (cn f (i + 1) - cn f (p + 1 + 1)) + (needsS (getR ptS f ((p + 1 : Nat) : Int)) - 1) = 1 - (cn f (i + 1) - cn f (p + 1)) := by omega
      rw [hx]
      refine ih (by omega) fun q h3 h4 => ?_
      rcases Nat.eq_or_lt_of_le (show p + 1 ≤ q by omega) with h | h
      · subst h; omega
      · exact hq q h h4
theorem fromS_in {f : List Pt} {i : Int} (h0 : 0 ≤ i) (h1 : i < f.length) (hc : checkS f = 0) : 0 ≤ (fromS f i).1 ∧ (fromS f i).1 = fromR f i ∧ (fromS f i).2 = 0 := by
  obtain ⟨i, rfl⟩ := Int.eq_ofNat_of_zero_le h0
  have hl := checkS_len hc
  have hf : chkN f 0 = 1 := by
    rw [checkS, if_neg (by omega)] at hc
    split at hc
    · assumption
    · cases hc
  have key := from_find (f := f) (i := i) (by omega) hl hf i (Nat.le_refl _) (fun q h1 h2 => by
    have e : q = i + 1 := Nat.le_antisymm h2 h1
    rw [e]; omega)
  rw [show 1 - (cn f (i + 1) - cn f (i + 1)) = 1 by omega] at key
  rw [fromS, if_pos hc, if_neg (by omega), Int.toNat_natCast, fromR, Int.toNat_natCast, if_neg (by omega)]
  exact ⟨by rw [key.1]; exact key.2, key.1, rfl⟩
theorem fromS_out {f : List Pt} {i : Int} (h : i < 0 ∨ (f.length : Int) ≤ i) (hc : checkS f = 0) : fromS f i = (0, 1) := by rw [fromS, if_pos hc, if_pos h]
theorem fromS_bad {f : List Pt} {i : Int} (hc : ¬ checkS f = 0) : fromS f i = (0, checkS f) := by rw [fromS, if_neg hc]
theorem fromS_ge (f : List Pt) (i : Int) : 0 ≤ (fromS f i).1 := by
  by_cases hc : checkS f = 0
  · by_cases h : i < 0 ∨ (f.length : Int) ≤ i
    · rw [fromS_out h hc]; decide
    · exact (fromS_in (by omega) (by omega) hc).1
  · rw [fromS_bad hc]; exact Int.le_refl _
theorem allPt_take {f : List Pt} (h : allPt f) (n : Nat) : allPt (f.take n) := fun p hp => h p (List.mem_of_mem_take hp)
end Go.Proofs.Ytoopcfjmmhmamaa.Sp
