/- Chapter 5: the words of the text that joins words. -/
import Derived.Test.YtfpojhphmgnfhaaSpL
section
namespace Go.Proofs.Ytfpojhphmgnfhaa.Sp
open Go.Proofs.Ytfpojhphmgnfhaa.Lg
/-- A word that reads as itself. -/
def goodW (t : Tok) : Prop := szW t ∧ 0 < (wtext t).length ∧ many spaceI (wtext t) = 0 ∧ (wtext t).length ≤ 20000 ∧ ∀ r, stops r → wordS (wtext t ++ r) = (atT t 0, (wtext t).length)
theorem wtext_at (t : Tok) (n : Int) : wtext (atT t n) = wtext t := rfl
theorem goodW_at {t : Tok} (h : goodW t) (n : Int) : goodW (atT t n) := h
theorem many_append {p : Int → Bool} {s : B} (r : B) (h : many p s < s.length) : many p (s ++ r) = many p s := by
  induction s with
  | nil => simp at h
  | cons b s ih =>
    simp only [many, List.cons_append, List.length_cons] at h ⊢
    split
    · rename_i hb; rw [if_pos hb] at h; rw [ih (by omega)]
    · rfl
theorem many_all {p : Int → Bool} {s r : B} (h : many p s = s.length) (hr : ∀ b q, r = b :: q → p (u b) = false) : many p (s ++ r) = s.length := by
  induction s with
  | nil => cases r with
    | nil => rfl
    | cons b q => simp [many, hr b q rfl]
  | cons b s ih =>
    simp only [many, List.cons_append, List.length_cons] at h ⊢
    split
    · rename_i hb; rw [if_pos hb] at h; rw [ih (by omega)]
    · rename_i hb; rw [if_neg hb] at h; omega
theorem stops_cons {r : B} (h : stops r) : ∀ b q, r = b :: q → b = 32 := by
  rintro b q e
  rcases h with rfl | ⟨_, rfl⟩
  · cases e
  · cases e; rfl
theorem stops_not {p : Int → Bool} {r : B} (h : stops r) (hp : p 32 = false) : ∀ b q, r = b :: q → p (u b) = false := by
  intro b q e
  rw [stops_cons h b q e]; exact hp
theorem prefixS_head {b : UInt8} {r : B} (h1 : ¬ u b = 60) (h2 : ¬ u b = 34) (h3 : ¬ u b = 63) (h4 : ¬ u b = 95) : prefixS (b :: r) = noTerm := by simp [prefixS, h1, h2, h3, h4]
theorem letter_ne {c : Int} (h : letterI c = true) : c ≠ 60 ∧ c ≠ 34 ∧ c ≠ 63 ∧ c ≠ 95 ∧ ¬ (c = 32 ∨ c = 9 ∨ c = 10) := by
  simp [letterI] at h; omega
theorem digit_ne {c : Int} (h : digitI c = true) : c ≠ 60 ∧ c ≠ 34 ∧ c ≠ 63 ∧ c ≠ 95 ∧ letterI c = false ∧ ¬ (c = 32 ∨ c = 9 ∨ c = 10) := by
  simp [digitI] at h
  refine ⟨by omega, by omega, by omega, by omega, ?_, by omega⟩
  simp [letterI]; omega
theorem space_no {c : Int} (h : ¬ (c = 32 ∨ c = 9 ∨ c = 10)) : spaceI c = false := by
  simp [spaceI]; omega
theorem textS_head {k : Int} {a t l : B} (h : right k a t l = true) (hk : k ≠ 0) : ∃ b q, textS k a t l = b :: q ∧ spaceI (u b) = false := by
  unfold right at h
  rw [if_neg hk] at h
  by_cases h1 : k = 1
  · subst h1; exact ⟨60, a ++ [62], rfl, rfl⟩
  rw [if_neg h1] at h
  by_cases h3 : k = 3 ∨ k = 4
  · rcases h3 with rfl | rfl
    · exact ⟨95, 58 :: a, rfl, rfl⟩
    · exact ⟨63, a, rfl, rfl⟩
  rw [if_neg h3] at h
  by_cases h2 : k = 2
  · subst h2
    exact ⟨34, esc a ++ [34] ++ ((if t.isEmpty then [] else [94, 94, 60] ++ t ++ [62]) ++ (if l.isEmpty then [] else 64 :: l)), by simp [textS, quotedS], rfl⟩
  · rw [if_neg h2] at h; cases h
theorem goodW_term {k : Int} {a t l : B} (h : right k a t l = true) (hk : k ≠ 0) (hk4 : k ≠ 4) : goodW (3, [], k, a, t, l, 0, ()) := by
  have hw : wtext (3, [], k, a, t, l, 0, ()) = textS k a t l := by simp [wtext, h]
  obtain ⟨b, q, hb, hs⟩ := textS_head h hk
  obtain ⟨z1, z2, z3⟩ := right_le h
  refine ⟨⟨by simp, by show a.length ≤ _; omega, by show t.length ≤ _; omega, by show l.length ≤ _; omega⟩, ?_, ?_, ?_, ?_⟩
  · rw [hw, hb]; simp
  · rw [hw, hb]; simp [many, hs]
  · rw [hw]; exact textS_le h
  · intro r hr
    have hp := prefix_text h hk hr
    have hl : 0 < (textS k a t l).length := by rw [hb]; simp
    rw [hw]
    unfold wordS
    simp only [hp, if_neg hk4, if_pos (show (0 : Int) < ((textS k a t l).length : Int) by omega)]
    simp [atT]
theorem goodW_var {a : B} (h : isName a = true) : goodW (2, a, 0, [], [], [], 0, ()) := by
  have hw : wtext (2, a, 0, [], [], [], 0, ()) = 63 :: a := by simp [wtext]
  have hr4 : right 4 a [] [] = true := by simp [right, h]
  have hl := isName_le h
  refine ⟨⟨by show a.length ≤ _; omega, by simp, by simp, by simp⟩, ?_, ?_, ?_, ?_⟩
  · rw [hw]; simp
  · rw [hw]; rfl
  · rw [hw]; simp; omega
  · intro r hr
    have hp := prefix_text hr4 (by decide) hr
    have e : textS 4 a [] [] = 63 :: a := rfl
    rw [e] at hp
    rw [hw]
    unfold wordS
    simp only [hp, if_true, if_pos (show (0 : Int) < (((63 :: a : B)).length : Int) by simp)]
    simp [atT]
theorem goodW_letters {a : B} (h : many letterI a = a.length) (h0 : 0 < a.length) (hl : a.length ≤ 4096) : goodW (1, a, 0, [], [], [], 0, ()) := by
  have hw : wtext (1, a, 0, [], [], [], 0, ()) = a := by simp [wtext]
  obtain ⟨b, q, rfl⟩ : ∃ b q, a = b :: q := by cases a with | nil => simp at h0 | cons b q => exact ⟨b, q, rfl⟩
  have hb : letterI (u b) = true := by
    simp only [many, List.length_cons] at h
    split at h
    · assumption
    · omega
  obtain ⟨n1, n2, n3, n4, n5⟩ := letter_ne hb
  refine ⟨⟨by show (b :: q).length ≤ _; omega, by simp, by simp, by simp⟩, by rw [hw]; exact h0, by rw [hw]; simp [many, space_no n5], by rw [hw]; omega, ?_⟩
  intro r hr
  rw [hw]
  have hp : prefixS (b :: q ++ r) = noTerm := prefixS_head n1 n2 n3 n4
  have hm := many_all (r := r) h (stops_not hr rfl)
  unfold wordS
  simp only [hp, hm, show noTerm.2.2.2.2 = 0 from rfl, if_neg (show ¬ (0 : Int) < 0 by decide), if_pos h0]
  simp [atT]
theorem isIn_take (s : B) (b : UInt8) (q : B) : s = b :: q → s.take 1 = [b] := by rintro rfl; rfl
theorem goodW_digits {a : B} (h : many digitI a = a.length) (h0 : 0 < a.length) (hl : a.length ≤ 4096) : goodW (4, a, 0, [], [], [], 0, ()) := by
  have hw : wtext (4, a, 0, [], [], [], 0, ()) = a := by simp [wtext]
  obtain ⟨b, q, rfl⟩ : ∃ b q, a = b :: q := by cases a with | nil => simp at h0 | cons b q => exact ⟨b, q, rfl⟩
  have hb : digitI (u b) = true := by
    simp only [many, List.length_cons] at h
    split at h
    · assumption
    · omega
  obtain ⟨n1, n2, n3, n4, n5, n6⟩ := digit_ne hb
  refine ⟨⟨by show (b :: q).length ≤ _; omega, by simp, by simp, by simp⟩, by rw [hw]; exact h0, by rw [hw]; simp [many, space_no n6], by rw [hw]; omega, ?_⟩
  intro r hr
  rw [hw]
  have hp : prefixS (b :: q ++ r) = noTerm := prefixS_head n1 n2 n3 n4
  have hm := many_all (r := r) h (stops_not hr rfl)
  have hl0 : many letterI (b :: q ++ r) = 0 := by simp [many, n5]
  have hnum : numS (b :: q ++ r) = ((4, b :: q, 0, [], [], [], 0, ()), (b :: q).length) := by
    unfold numS
    simp only [hm, List.drop_left, List.take_left]
    rw [if_neg]
    rintro ⟨z, _⟩
    rcases hr with rfl | ⟨y, rfl⟩ <;> simp at z
  unfold wordS
  simp only [hp, hm, hl0, hnum, show noTerm.2.2.2.2 = 0 from rfl, if_neg (show ¬ (0 : Int) < 0 by decide), if_neg (show ¬ 0 < 0 by decide), if_pos h0]
  simp [atT]
def sign1 (b : UInt8) : Bool := isIn (u b) signs1
theorem sign1_mem {b : UInt8} (h : sign1 b = true) : b ∈ signs1 := by
  simp only [sign1, isIn, List.any_eq_true, decide_eq_true_eq] at h
  obtain ⟨x, hx, e⟩ := h
  rw [u_inj e]; exact hx
theorem signs_all : ∀ b ∈ signs1, ¬ u b = 34 ∧ ¬ u b = 63 ∧ ¬ u b = 95 ∧ letterI (u b) = false ∧ digitI (u b) = false ∧ spaceI (u b) = false ∧ sign1 b = true := by decide
theorem two_cases {s : B} (h : two s = true) : s.take 2 = [60, 61] ∨ s.take 2 = [62, 61] ∨ s.take 2 = [33, 61] ∨ s.take 2 = [38, 38] ∨ s.take 2 = [124, 124] := by
  simp only [two, Bool.or_eq_true, beq_iff_eq] at h
  rcases h with (((h | h) | h) | h) | h <;> simp [h]
theorem noIri {s : B} (h : ∀ n : Nat, 2 ≤ n → n < s.length → s[n]? = some 62 → isIri ((s.take n).drop 1) = false) (h2 : s[1]? ≠ some 62) (h0 : s.head? = some 60) : prefixS s = noTerm := by
  cases s with
  | nil => simp at h0
  | cons b r =>
    simp at h0; subst h0
    show (match iriAt (60 :: r) with | some (x, n) => (1, x, [], [], (n : Int)) | none => noTerm) = noTerm
    have : iriAt (60 :: r) = none := by
      unfold iriAt
      rw [if_neg]
      rintro ⟨_, z1, z2⟩
      have hle := indexByte_le (60 :: r) 62
      obtain ⟨hs, _⟩ := indexByte_split (s := 60 :: r) (c := 62) (by omega)
      generalize hi : (Go.Lib.indexByte (60 :: r) 62).toNat = i at *
      have hil : i < (60 :: r).length := by omega
      have hg : (60 :: r)[i]? = some 62 := by
        conv => lhs; rw [hs]
        have hl : ((60 :: r).take i).length = i := by rw [List.length_take]; omega
        rw [List.getElem?_append_right (by omega), hl]; simp
      by_cases e : i = 1
      · subst e; exact h2 hg
      · rw [h i (by omega) hil hg] at z2; cases z2
    rw [this]
theorem iri_has {x : B} {c : UInt8} (h : c ∈ x) (hc : iriI (u c) = false) : isIri x = false := by
  cases hi : isIri x with
  | false => rfl
  | true =>
    simp only [isIri, Bool.and_eq_true] at hi
    have := all_mem hi.2 c h
    rw [hc] at this; cases this
theorem goodW_sign {a : B} (h : two a = true ∧ a.length = 2 ∨ ∃ b, a = [b] ∧ sign1 b = true) : goodW (5, a, 0, [], [], [], 0, ()) := by
  have hw : wtext (5, a, 0, [], [], [], 0, ()) = a := by simp [wtext]
  -- a sign by itself
  have key : ∀ (b : UInt8) (q r : B), a = b :: q → stops r → prefixS (a ++ r) = noTerm → letterI (u b) = false → digitI (u b) = false → signS (a ++ r) = a → wordS (a ++ r) = ((5, a, 0, [], [], [], 0, ()), a.length) := by
    rintro b q r rfl hr hp h1 h2 h3
    have m1 : many letterI (b :: q ++ r) = 0 := by simp [many, h1]
    have m2 : many digitI (b :: q ++ r) = 0 := by simp [many, h2]
    unfold wordS
    simp only [hp, m1, m2, h3, show noTerm.2.2.2.2 = 0 from rfl, if_neg (show ¬ (0 : Int) < 0 by decide), if_neg (show ¬ 0 < 0 by decide)]
  rcases h with ⟨h, hl⟩ | ⟨b, rfl, hb⟩
  · have ht := two_cases h
    rw [List.take_of_length_le (by omega)] at ht
    refine ⟨⟨by show a.length ≤ _; omega, by simp, by simp, by simp⟩, by rw [hw]; omega, ?_, by rw [hw]; omega, ?_⟩
    · rw [hw]; rcases ht with rfl | rfl | rfl | rfl | rfl <;> rfl
    · intro r hr
      rw [hw]
      have hs : signS (a ++ r) = a := by
        have h2 : two (a ++ r) = true := by rcases ht with rfl | rfl | rfl | rfl | rfl <;> simp [two]
        unfold signS
        rw [if_pos h2, List.take_append_of_le_length (by omega), List.take_of_length_le (by omega)]
      rcases ht with rfl | rfl | rfl | rfl | rfl
      · refine key _ _ _ rfl hr (noIri ?_ (by simp) rfl) rfl rfl hs
        intro n h2 h3 h4
        rcases hr with rfl | ⟨y, rfl⟩
        · simp at h3; omega
        · have : n ≠ 2 := by rintro rfl; simp at h4
          refine iri_has (c := 32) ?_ rfl
          obtain ⟨m, rfl⟩ : ∃ m, n = m + 3 := ⟨n - 3, by omega⟩
          simp
      · exact key _ _ _ rfl hr (prefixS_head (by decide) (by decide) (by decide) (by decide)) rfl rfl hs
      · exact key _ _ _ rfl hr (prefixS_head (by decide) (by decide) (by decide) (by decide)) rfl rfl hs
      · exact key _ _ _ rfl hr (prefixS_head (by decide) (by decide) (by decide) (by decide)) rfl rfl hs
      · exact key _ _ _ rfl hr (prefixS_head (by decide) (by decide) (by decide) (by decide)) rfl rfl hs
  · have hm := sign1_mem hb
    obtain ⟨n1, n2, n3, n4, n5, n6, _⟩ := signs_all b hm
    refine ⟨⟨by show [b].length ≤ _; simp, by simp, by simp, by simp⟩, by rw [hw]; simp, by rw [hw]; simp [many, n6], by rw [hw]; simp, ?_⟩
    intro r hr
    rw [hw]
    have hs : signS ([b] ++ r) = [b] := by
      have h2 : two ([b] ++ r) = false := by rcases hr with rfl | ⟨y, rfl⟩ <;> simp [two]
      unfold signS
      rw [h2]
      simp only [Bool.false_eq_true, if_false, List.cons_append, List.nil_append]
      have hb' : isIn (u b) signs1 = true := hb
      rw [if_pos hb']
    by_cases h60 : u b = 60
    · obtain rfl : b = 60 := u_inj h60
      refine key _ _ _ rfl hr (noIri ?_ ?_ rfl) n4 n5 hs
      · intro n h2 h3 h4
        rcases hr with rfl | ⟨y, rfl⟩
        · simp at h3; omega
        · refine iri_has (c := 32) ?_ rfl
          obtain ⟨m, rfl⟩ : ∃ m, n = m + 2 := ⟨n - 2, by omega⟩
          simp
      · rcases hr with rfl | ⟨y, rfl⟩ <;> simp
    · exact key _ _ _ rfl hr (prefixS_head h60 n1 n2 n3) n4 n5 hs
end Go.Proofs.Ytfpojhphmgnfhaa.Sp
namespace Go.Proofs.Ytfpojhphmgnfhaa.Sp
open Go.Proofs.Ytfpojhphmgnfhaa.Lg
/-- What is read is good. -/
theorem wordS_good (s : B) (hl : s.length ≤ 4096) (h : (wordS s).2 ≠ 0) : goodW (wordS s).1 := by
  have hml := many_le letterI s
  have hmd := many_le digitI s
  unfold wordS at h ⊢
  dsimp only at h ⊢
  by_cases h1 : 0 < (prefixS s).2.2.2.2
  · rw [if_pos h1] at h ⊢
    generalize hp : prefixS s = p at *
    obtain ⟨k, a, t, l, n⟩ := p
    dsimp only at h1 h ⊢
    obtain ⟨hr, ht⟩ := text_prefix hp (by omega)
    have hk0 : k ≠ 0 := by
      rintro rfl
      have hle := prefixS_le s
      rw [hp] at hle
      dsimp only at hle
      have := congrArg List.length ht
      rw [List.length_take] at this
      simp [textS] at this
      omega
    by_cases h4 : k = 4
    · rw [if_pos h4]
      subst h4
      simp [right] at hr
      exact goodW_var hr.2
    · rw [if_neg h4]
      exact goodW_term hr hk0 h4
  rw [if_neg h1] at h ⊢
  by_cases h2 : 0 < many letterI s
  · rw [if_pos h2]
    refine goodW_letters ?_ ?_ ?_
    · rw [many_take, List.length_take]; omega
    · rw [List.length_take]; omega
    · rw [List.length_take]; omega
  rw [if_neg h2] at h ⊢
  by_cases h3 : 0 < many digitI s
  · rw [if_pos h3]
    unfold numS
    dsimp only
    split
    · rename_i hc
      have hm2 := many_le digitI (s.drop (many digitI s + 1))
      rw [List.length_drop] at hm2
      have hlt : many digitI s < s.length := by
        by_cases q : many digitI s < s.length
        · exact q
        · have := hc.1; rw [List.drop_of_length_le (by omega)] at this; simp at this
      refine goodW_term ?_ (by decide) (by decide)
      have hd : ∀ (n : Nat) (r : B), n = many digitI r → allI textI (r.take n) = true := by
        intro n r
        induction r generalizing n with
        | nil => intro _; simp [allI]
        | cons b r ih =>
          rintro rfl
          simp only [many]
          split
          · rename_i hb
            simp only [List.take_succ_cons, allI, List.all_cons]
            have := ih _ rfl
            simp only [allI] at this
            rw [this]
            simp [digitI] at hb
            simp [textI]; omega
          · simp [allI]
      have hsplit : s.take (many digitI s + 1 + many digitI (s.drop (many digitI s + 1))) = s.take (many digitI s) ++ 46 :: (s.drop (many digitI s + 1)).take (many digitI (s.drop (many digitI s + 1))) := by
        have h46 : s.drop (many digitI s) = 46 :: s.drop (many digitI s + 1) := by
          obtain ⟨b, hd, _, _⟩ := byteAt_drop hlt
          have := hc.1
          rw [hd] at this ⊢
          simp at this; rw [this]
        rw [Nat.add_assoc, List.take_add, h46, Nat.add_comm 1, List.take_succ_cons]
      have hall : allI textI (s.take (many digitI s + 1 + many digitI (s.drop (many digitI s + 1)))) = true := by
        rw [hsplit]
        have a1 := hd _ s rfl
        have a2 := hd _ (s.drop (many digitI s + 1)) rfl
        simp only [allI, List.all_append, List.all_cons] at a1 a2 ⊢
        rw [a1, a2]; rfl
      have hdt : isIri decimalT = true := by decide
      simp only [right, show ¬ ((2 : Int) = 0) by decide, show ¬ ((2 : Int) = 1) by decide, show ¬ ((2 : Int) = 3 ∨ (2 : Int) = 4) by decide, if_false, if_true, isText, hall, hdt]
      simp; omega
    · refine goodW_digits ?_ ?_ ?_
      · rw [many_take, List.length_take]; omega
      · rw [List.length_take]; omega
      · rw [List.length_take]; omega
  rw [if_neg h3] at h ⊢
  refine goodW_sign ?_
  unfold signS at h ⊢
  by_cases ht : two s = true
  · rw [if_pos ht]
    left
    have : 2 ≤ s.length := by
      match s, ht with
      | [], h => simp [two] at h
      | [_], h => simp [two] at h
      | _ :: _ :: _, _ => simp
    exact ⟨by simp only [two, List.take_take] at ht ⊢; simpa using ht, by rw [List.length_take]; omega⟩
  · rw [if_neg ht] at h ⊢
    cases s with
    | nil => simp at h
    | cons b r =>
      by_cases hb : isIn (u b) signs1 = true
      · exact .inr ⟨b, by simp [hb], hb⟩
      · simp [hb] at h
theorem lexR_good : ∀ (n : Nat) (s : B) (a : Nat), s.length - a ≤ n → a ≤ s.length → s.length ≤ 4096 → ∀ t ∈ (lexR s a).1, goodW t := by
  intro n
  induction n with
  | zero =>
    intro s a hn ha hl
    have : a = s.length := by omega
    subst this
    rw [lexR_step _ _ (Nat.le_refl _)]
    simp [many]
  | succ n ih =>
    intro s a hn ha hl
    have hm := many_le spaceI (s.drop a)
    have hw := wordS_le (s.drop (a + many spaceI (s.drop a)))
    rw [List.length_drop] at hm hw
    rw [lexR_step s a ha]
    by_cases q : a + many spaceI (s.drop a) = s.length
    · rw [if_pos q]; simp
    · rw [if_neg q]
      by_cases q2 : (wordS (s.drop (a + many spaceI (s.drop a)))).2 = 0
      · rw [if_pos q2]; simp
      · rw [if_neg q2]
        intro t ht
        rcases List.mem_cons.1 ht with rfl | ht
        · exact goodW_at (wordS_good _ (by rw [List.length_drop]; omega) q2) _
        · exact ih s _ (by omega) (by omega) hl t ht
theorem joinF_stops (l : List Tok) : stops (joinF l) := by
  cases l with
  | nil => exact .inl rfl
  | cons t l => exact .inr ⟨_, rfl⟩
/-- Good words, joined, read as they were. -/
theorem lexR_join : ∀ (l : List Tok), (∀ t ∈ l, goodW t) → ∀ (pre : B), (lexR (pre ++ joinF l) pre.length).2 = none ∧ (lexR (pre ++ joinF l) pre.length).1.length = l.length ∧ sameL false l (lexR (pre ++ joinF l) pre.length).1 = true
  | [], _, pre => by
    rw [lexR_step _ _ (by simp)]
    simp [joinF, many, sameL]
  | t :: l, h, pre => by
    obtain ⟨_, h1, h2, _, h3⟩ := h t List.mem_cons_self
    obtain ⟨i1, i2, i3⟩ := lexR_join l (fun x hx => h x (List.mem_cons_of_mem _ hx)) (pre ++ 32 :: wtext t)
    have e : pre ++ joinF (t :: l) = (pre ++ 32 :: wtext t) ++ joinF l := by simp [joinF]
    have el : (pre ++ 32 :: wtext t).length = pre.length + 1 + (wtext t).length := by simp; omega
    have hd : (pre ++ joinF (t :: l)).drop pre.length = 32 :: (wtext t ++ joinF l) := by rw [List.drop_left]; rfl
    have hsp : many spaceI (32 :: (wtext t ++ joinF l)) = 1 := by
      have : many spaceI (wtext t ++ joinF l) = 0 := by
        rw [many_append _ (by omega), h2]
      simp only [many, this]; rfl
    have hd2 : (pre ++ joinF (t :: l)).drop (pre.length + 1) = wtext t ++ joinF l := by rw [← List.drop_drop, hd]; rfl
    have hlen : (pre ++ joinF (t :: l)).length = pre.length + 1 + (wtext t).length + (joinF l).length := by simp [joinF]; omega
    rw [lexR_step _ _ (by simp)]
    rw [hd, hsp, hd2, h3 _ (joinF_stops l)]
    rw [if_neg (by omega), if_neg (by dsimp only; omega)]
    dsimp only
    rw [e, ← el]
    refine ⟨i1, by rw [List.length_cons, i2, List.length_cons], ?_⟩
    simp only [sameL, i3, Bool.and_true]
    simp [sameW, atT]
theorem lexR_joinS (l : List Tok) (h : ∀ t ∈ l, goodW t) : (lexR (joinS l) 0).2 = none ∧ sameS l (lexR (joinS l) 0).1 false = true := by
  cases l with
  | nil => exact ⟨rfl, rfl⟩
  | cons t l =>
    obtain ⟨_, h1, h2, _, h3⟩ := h t List.mem_cons_self
    obtain ⟨i1, i2, i3⟩ := lexR_join l (fun x hx => h x (List.mem_cons_of_mem _ hx)) (wtext t)
    have hsp : many spaceI (wtext t ++ joinF l) = 0 := by rw [many_append _ (by omega), h2]
    have e : joinS (t :: l) = wtext t ++ joinF l := rfl
    rw [lexR_step _ _ (Nat.zero_le _), e]
    simp only [List.drop_zero, hsp, Nat.add_zero, Nat.zero_add, h3 _ (joinF_stops l)]
    rw [if_neg (by simp; omega), if_neg (by omega)]
    dsimp only
    refine ⟨i1, ?_⟩
    simp only [sameS, sameL, i3, Bool.and_true]
    simp [sameW, atT, i2]
theorem joinF_len : ∀ (l : List Tok), (∀ t ∈ l, goodW t) → (joinF l).length ≤ l.length * 20001
  | [], _ => by simp [joinF]
  | t :: l, h => by
    have := joinF_len l fun x hx => h x (List.mem_cons_of_mem _ hx)
    obtain ⟨_, _, _, h4, _⟩ := h t List.mem_cons_self
    rw [joinF_cons, List.length_cons, Nat.succ_mul]; omega
end Go.Proofs.Ytfpojhphmgnfhaa.Sp
end

section
namespace Go.Proofs.Ytfpojhphmgnfhaa.Sp
open Go.Proofs.Ytfpojhphmgnfhaa.Lg
abbrev tkS : List Sh := [.int .i64, .str, .int .i64, .str, .str, .str, .int .i64]
abbrev ptS : List Sh := [.int .i64, .int .i64, .str, .str, .str, .str, .int .i64]
abbrev Pt := Int × Int × B × B × B × B × Int × Unit
abbrev PSt := List Tok × Int × List Pt × Bool × Unit
abbrev psK : List KC := [.v (.sl tkS), .v (.int .i64), .a ptS, .v .bool]
example : KCs psK = PSt := rfl
def kindP (k : Int) : Pt := (k, 0, [], [], [], [], 0, ())
def tokI (p : PSt) : Tok := getR tkS p.1 p.2.1
def isP (p : PSt) (k : Int) (t : B) : Bool := decide (p.2.1 < (p.1.length : Int)) && (decide ((tokI p).1 = k) && decide ((tokI p).2.1 = t))
def adv (p : PSt) : PSt := (p.1, p.2.1 + 1, p.2.2.1, p.2.2.2.1, ())
def failP (p : PSt) : PSt := (p.1, p.2.1, p.2.2.1, true, ())
def badIf (b : Bool) (p : PSt) : PSt := (p.1, p.2.1, p.2.2.1, p.2.2.2.1 || b, ())
def takeP (p : PSt) (t : B) : PSt := if isP p 5 t then adv p else p
def mustP (p : PSt) (t : B) : PSt := if p.2.2.2.1 then p else if isP p 5 t then adv p else failP p
def addP (p : PSt) (x : Pt) : PSt := (p.1, p.2.1, p.2.2.1 ++ [x], p.2.2.2.1, ())
def signT (k : Int) : B :=
  if k = 4 then [33] else if k = 5 then [45] else if k = 6 then [38, 38] else if k = 7 then [124, 124] else if k = 8 then [61] else if k = 9 then [33, 61]
  else if k = 10 then [60] else if k = 11 then [62] else if k = 12 then [60, 61] else if k = 13 then [62, 61] else if k = 14 then [43] else if k = 15 then [45]
  else if k = 16 then [42] else if k = 17 then [47]
  else if k = 18 then [83, 84, 82] else if k = 19 then [76, 65, 78, 71] else if k = 20 then [68, 65, 84, 65, 84, 89, 80, 69] else if k = 21 then [73, 83, 73, 82, 73]
  else if k = 22 then [73, 83, 76, 73, 84, 69, 82, 65, 76] else if k = 23 then [73, 83, 66, 76, 65, 78, 75] else if k = 24 then [83, 65, 77, 69, 84, 69, 82, 77]
  else if k = 25 then [73, 70] else if k = 26 then [67, 79, 65, 76, 69, 83, 67, 69] else []
def signL (n : Int) : List Int := if n = 0 then [7] else if n = 1 then [6] else if n = 2 then [8, 9, 10, 11, 12, 13] else if n = 3 then [14, 15] else [16, 17]
def needsS (p : Pt) : Int :=
  if 1 ≤ p.1 ∧ p.1 ≤ 3 then 0
  else if p.1 = 4 ∨ p.1 = 5 ∨ (18 ≤ p.1 ∧ p.1 ≤ 23) then 1
  else if (6 ≤ p.1 ∧ p.1 ≤ 17) ∨ p.1 = 24 then 2
  else if p.1 = 25 then 3
  else if p.1 = 26 ∧ 1 ≤ p.2.2.2.2.2.2.1 ∧ p.2.2.2.2.2.2.1 ≤ 16 then p.2.2.2.2.2.2.1 else -1
/-- The first of some kinds whose sign comes next. -/
def findK (p : PSt) (l : List Int) : Int := (l.find? fun k => isP p 5 (signT k)).getD 0
def chainF (lev : PSt → Option PSt) (n : Int) : Nat → PSt → Option PSt
  | 0, _ => none
  | m + 1, p => if p.2.2.2.1 then some p else if findK p (signL n) = 0 then some p
    else (lev (adv p)).bind fun q => if n = 2 then some (addP q (kindP (findK p (signL n)))) else chainF lev n m (addP q (kindP (findK p (signL n))))
def leftP (p : PSt) : Nat := p.1.length - p.2.1.toNat
def chainP (lev : PSt → Option PSt) (n : Int) (p : PSt) : Option PSt := chainF lev n (leftP p + 1) p
def argsF (lev : PSt → Option PSt) : Nat → Int → PSt → Option (Int × PSt)
  | 0, _, _ => none
  | m + 1, n, p => if p.2.2.2.1 then some (n, p) else if n = 0 then (lev p).bind fun q => argsF lev m (n + 1) q
    else if isP p 5 [44] then (lev (adv p)).bind fun q => argsF lev m (n + 1) q else some (n, p)
def argsP (lev : PSt → Option PSt) (n : Int) (p : PSt) : Option (Int × PSt) := argsF lev (leftP p + if n = 0 then 2 else 1) n p
def callX (kind n : Int) : Pt := (kind, 0, [], [], [], [], if kind = 26 then n else 0, ())
def callP (lev : PSt → Option PSt) (kind : Int) (p : PSt) : Option PSt :=
  (argsP lev 0 (mustP p [40])).map fun r => addP (badIf (decide (needsS (callX kind r.1) ≠ r.1)) (mustP r.2 [41])) (callX kind r.1)
def typeInt : B := [104, 116, 116, 112, 58, 47, 47, 119, 119, 119, 46, 119, 51, 46, 111, 114, 103, 47, 50, 48, 48, 49, 47, 88, 77, 76, 83, 99, 104, 101, 109, 97, 35, 105, 110, 116, 101, 103, 101, 114]
def typeBool : B := [104, 116, 116, 112, 58, 47, 47, 119, 119, 119, 46, 119, 51, 46, 111, 114, 103, 47, 50, 48, 48, 49, 47, 88, 77, 76, 83, 99, 104, 101, 109, 97, 35, 98, 111, 111, 108, 101, 97, 110]
def litP (t ty : B) : Pt := (1, 2, t, ty, [], [], 0, ())
def boundP (p : PSt) : PSt := mustP (if (mustP p [40]).2.1 < ((mustP p [40]).1.length : Int) ∧ (tokI (mustP p [40])).1 = 2 then adv (addP (mustP p [40]) (3, 0, [], [], [], (tokI (mustP p [40])).2.1, 0, ())) else failP (mustP p [40])) [41]
/-- The function's kind that a word tells, or 0. -/
def wordK (s : B) : Int := ([18, 19, 20, 21, 22, 23, 24, 25, 26].find? fun k => decide (signT k = s)).getD 0
def wordP (lev : PSt → Option PSt) (s : B) (p : PSt) : Option PSt :=
  if s = [84, 82, 85, 69] then some (addP p (litP [116, 114, 117, 101] typeBool))
  else if s = [70, 65, 76, 83, 69] then some (addP p (litP [102, 97, 108, 115, 101] typeBool))
  else if s = [66, 79, 85, 78, 68] then some (boundP p)
  else if wordK s = 0 then some (failP p) else callP lev (wordK s) p
def simpleP (lev : PSt → Option PSt) (p : PSt) : Option PSt :=
  if p.2.2.2.1 = true ∨ p.2.1 = (p.1.length : Int) then some (failP p)
  else if (tokI p).1 = 5 ∧ (tokI p).2.1 = [40] then (lev (adv p)).map fun q => mustP q [41]
  else if (tokI p).1 = 2 then some (addP (adv p) (2, 0, [], [], [], (tokI p).2.1, 0, ()))
  else if (tokI p).1 = 3 then some (addP (adv p) (1, (tokI p).2.2.1, (tokI p).2.2.2.1, (tokI p).2.2.2.2.1, (tokI p).2.2.2.2.2.1, [], 0, ()))
  else if (tokI p).1 = 4 then some (addP (adv p) (litP (tokI p).2.1 typeInt))
  else if (tokI p).1 = 1 then wordP lev (tokI p).2.1 (adv p)
  else some (failP (adv p))
/-- What the parser does by N steps down: levels 0 to 5; 6: what has a sign ahead. -/
def pf : Nat → Int → PSt → Option PSt
  | 0, _, _ => none
  | N + 1, n, p =>
    if n = 6 then
      if isP p 5 [33] then (pf N 6 (adv p)).map fun q => addP q (kindP 4)
      else if isP p 5 [45] then (pf N 6 (adv p)).map fun q => addP q (kindP 5)
      else simpleP (pf N 0) p
    else if n = 5 then pf N 6 p
    else (pf N (n + 1) p).bind (chainP (pf N (n + 1)) n)
def pfD (N : Nat) (n : Int) (p : PSt) : PSt := (pf N n p).getD p
def callD (N : Nat) (k : Int) (p : PSt) : PSt := (callP (pf N 0) k p).getD p
def wordD (N : Nat) (s : B) (p : PSt) : PSt := (wordP (pf N 0) s p).getD p
def simpleD (N : Nat) (p : PSt) : PSt := (simpleP (pf N 0) p).getD p
def chainD (N : Nat) (n : Int) (p : PSt) : PSt := (chainP (pf N (n + 1)) n p).getD p
def argsD (N : Nat) (n : Int) (p : PSt) : Int × PSt := (argsP (pf N 0) n p).getD (n, p)
def rowI (l : List Int) : List (RowE [.int .i64]) := l.map fun k => (k, ())
/-- What the parser's places and sizes keep to. -/
def szP (p : PSt) : Prop := 0 ≤ p.2.1 ∧ p.2.1 ≤ (p.1.length : Int) ∧ (p.2.2.1.length : Int) + (p.1.length : Int) ≤ 999999999999 + p.2.1 ∧ (p.1.length : Int) ≤ 1000000000000
theorem isP_lt {p : PSt} {k : Int} {t : B} (h : isP p k t = true) : p.2.1 < (p.1.length : Int) := by
  simp only [isP, Bool.and_eq_true, decide_eq_true_eq] at h; exact h.1
theorem takeP_t {p : PSt} {t : B} (h : isP p 5 t = true) : takeP p t = adv p := by simp [takeP, h]
theorem takeP_f {p : PSt} {t : B} (h : isP p 5 t = false) : takeP p t = p := by simp [takeP, h]
theorem isP_0 {p : PSt} {k : Int} {t : B} (h : ¬ p.2.1 < (p.1.length : Int)) : isP p k t = false := by simp [isP, h]
theorem isP_k {p : PSt} {k : Int} {t : B} (h : ¬ (getR tkS p.1 p.2.1).1 = k) : isP p k t = false := by
  have h : ¬ (tokI p).1 = k := h
  simp [isP, h]
theorem isP_t {p : PSt} {k : Int} {t : B} {b : Bool} (h0 : p.2.1 < (p.1.length : Int)) (h : (getR tkS p.1 p.2.1).1 = k) (h2 : ((getR tkS p.1 p.2.1).2.1 == t) = b) : isP p k t = b := by
  have h : (tokI p).1 = k := h
  have h2 : ((tokI p).2.1 == t) = b := h2
  simp only [isP, h0, h, decide_true, Bool.true_and, ← h2]
  rw [Bool.eq_iff_iff]; simp
theorem mustP_b {p : PSt} {t : B} (h : p.2.2.2.1 = true) : mustP p t = failP p := by
  obtain ⟨a, b, c, d, e⟩ := p
  simp only at h; subst h; simp [mustP, failP]
theorem mustP_t {p : PSt} {t : B} (hb : p.2.2.2.1 = false) (h : isP p 5 t = true) : mustP p t = adv p := by simp [mustP, hb, h]
theorem mustP_f {p : PSt} {t : B} (hb : p.2.2.2.1 = false) (h : isP p 5 t = false) : mustP p t = failP p := by simp [mustP, hb, h]
theorem adv_b {p : PSt} (hb : p.2.2.2.1 = false) : (p.1, p.2.1 + 1, p.2.2.1, false, ()) = adv p := by simp [adv, hb]
/-- The place behind is no further back, within the words, and at most k parts more than words are added. -/
def stp (k : Int) (p q : PSt) : Prop := q.1 = p.1 ∧ p.2.1 ≤ q.2.1 ∧ 0 ≤ q.2.1 ∧ q.2.1 ≤ (p.1.length : Int) ∧ (q.2.2.1.length : Int) - (p.2.2.1.length : Int) ≤ q.2.1 - p.2.1 + k
def inP (p : PSt) : Prop := 0 ≤ p.2.1 ∧ p.2.1 ≤ (p.1.length : Int)
theorem stp_refl {p : PSt} (h : inP p) : stp 0 p p := ⟨rfl, Int.le_refl _, h.1, h.2, by omega⟩
theorem stp_in {k : Int} {p q : PSt} (h : stp k p q) : inP q := by
  obtain ⟨h1, _, h3, h4, _⟩ := h
  exact ⟨h3, by rw [h1]; exact h4⟩
theorem stp_trans {j k : Int} {p q r : PSt} (h : stp j p q) (g : stp k q r) : stp (j + k) p r := by
  obtain ⟨h1, h2, h3, h4, h5⟩ := h
  obtain ⟨g1, g2, g3, g4, g5⟩ := g
  rw [h1] at g1 g4
  exact ⟨g1, by omega, g3, g4, by omega⟩
theorem stp_mono {j k : Int} {p q : PSt} (h : stp j p q) (w : j ≤ k) : stp k p q := by
  obtain ⟨h1, h2, h3, h4, h5⟩ := h
  exact ⟨h1, h2, h3, h4, by omega⟩
theorem stp_adv {p : PSt} (h : inP p) (w : p.2.1 < (p.1.length : Int)) : stp (-1) p (adv p) := by
  obtain ⟨h1, h2⟩ := h
  refine ⟨rfl, ?_, ?_, ?_, ?_⟩ <;> simp only [adv] <;> omega
theorem stp_fail {p : PSt} (h : inP p) : stp 0 p (failP p) := by
  obtain ⟨h1, h2⟩ := h
  refine ⟨rfl, ?_, ?_, ?_, ?_⟩ <;> simp only [failP] <;> omega
theorem stp_badIf {p : PSt} (b : Bool) (h : inP p) : stp 0 p (badIf b p) := by
  obtain ⟨h1, h2⟩ := h
  refine ⟨rfl, ?_, ?_, ?_, ?_⟩ <;> simp only [badIf] <;> omega
theorem stp_add {p : PSt} (x : Pt) (h : inP p) : stp 1 p (addP p x) := by
  obtain ⟨h1, h2⟩ := h
  refine ⟨rfl, ?_, ?_, ?_, ?_⟩ <;> simp only [addP, List.length_append, List.length_cons, List.length_nil] <;> omega
theorem stp_must {p : PSt} (t : B) (h : inP p) : stp 0 p (mustP p t) := by
  unfold mustP
  split
  · exact stp_refl h
  · split
    · rename_i w; exact stp_mono (stp_adv h (isP_lt w)) (by omega)
    · exact stp_fail h
theorem szP_in {p : PSt} (h : szP p) : inP p := ⟨h.1, h.2.1⟩
theorem szP_stp {k : Int} {p q : PSt} (h : szP p) (g : stp k p q) (hk : k ≤ 0) : szP q := by
  obtain ⟨h1, h2, h3, h4⟩ := h
  obtain ⟨g1, g2, g3, g4, g5⟩ := g
  refine ⟨g3, ?_, ?_, ?_⟩ <;> rw [g1] <;> omega
theorem szP_lt {p : PSt} (h : szP p) : p.2.2.1.length < 1000000000000 := by
  obtain ⟨h1, h2, h3, h4⟩ := h; omega
def levOK (lev : PSt → Option PSt) : Prop := ∀ p q, inP p → lev p = some q → stp 0 p q
theorem findK_ne {p : PSt} {l : List Int} (h : findK p l ≠ 0) : p.2.1 < (p.1.length : Int) := by
  unfold findK at h
  cases e : l.find? fun k => isP p 5 (signT k) with
  | none => simp [e] at h
  | some k => exact isP_lt (List.find?_some (p := fun k => isP p 5 (signT k)) e)
theorem chainF_stp {lev : PSt → Option PSt} (hl : levOK lev) (n : Int) : ∀ (m : Nat) (p q : PSt), inP p → chainF lev n m p = some q → stp 0 p q
  | 0, _, _, _, h => by simp [chainF] at h
  | m + 1, p, q, hp, h => by
    simp only [chainF] at h
    split at h
    · cases h; exact stp_refl hp
    · split at h
      · cases h; exact stp_refl hp
      · rename_i w
        have w := findK_ne w
        cases e : lev (adv p) with
        | none => simp [e] at h
        | some r =>
          rw [e] at h
          simp only [Option.bind_some] at h
          have h1 := stp_adv hp w
          have h2 := hl _ _ (stp_in h1) e
          have h3 := stp_trans (stp_trans h1 h2) (stp_add (kindP (findK p (signL n))) (stp_in h2))
          split at h
          · cases h; exact h3
          · exact stp_trans h3 (chainF_stp hl n m _ _ (stp_in h3) h)
theorem left_lt {k : Int} {p q r : PSt} (hp : inP p) (h : stp k (adv p) q) (w : p.2.1 < (p.1.length : Int)) (hr1 : r.1 = q.1) (hr : r.2.1 = q.2.1) : leftP r < leftP p := by
  obtain ⟨h1, h2, h3, h4, _⟩ := h
  obtain ⟨h0, _⟩ := hp
  simp only [adv] at h1 h2 h4
  simp only [leftP, hr1, hr, h1]
  omega
theorem chainF_fuel {lev : PSt → Option PSt} (hl : levOK lev) (n : Int) : ∀ (m m' : Nat) (p : PSt), inP p → leftP p + 1 ≤ m → leftP p + 1 ≤ m' → chainF lev n m p = chainF lev n m' p
  | 0, _, _, _, h, _ => by omega
  | _ + 1, 0, _, _, _, h => by omega
  | m + 1, m' + 1, p, hp, h, h' => by
    simp only [chainF]
    split
    · rfl
    · split
      · rfl
      · rename_i w
        have w := findK_ne w
        cases e : lev (adv p) with
        | none => rfl
        | some r =>
          simp only [Option.bind_some]
          split
          · rfl
          · have h2 := hl _ _ (stp_in (stp_adv hp w)) e
            have := left_lt hp h2 w (r := addP r (kindP (findK p (signL n)))) rfl rfl
            exact chainF_fuel hl n m m' _ (stp_in (stp_add _ (stp_in h2))) (by omega) (by omega)
theorem chainP_step {lev : PSt → Option PSt} (hl : levOK lev) (n : Int) {p : PSt} (hp : inP p) : chainP lev n p = if p.2.2.2.1 then some p else if findK p (signL n) = 0 then some p
    else (lev (adv p)).bind fun q => if n = 2 then some (addP q (kindP (findK p (signL n)))) else chainP lev n (addP q (kindP (findK p (signL n)))) := by
  rw [chainP]
  simp only [chainF]
  split
  · rfl
  · split
    · rfl
    · rename_i w
      have w := findK_ne w
      cases e : lev (adv p) with
      | none => rfl
      | some r =>
        simp only [Option.bind_some]
        split
        · rfl
        · have h2 := hl _ _ (stp_in (stp_adv hp w)) e
          have := left_lt hp h2 w (r := addP r (kindP (findK p (signL n)))) rfl rfl
          exact chainF_fuel hl n _ _ _ (stp_in (stp_add _ (stp_in h2))) (by omega) (Nat.le_refl _)
theorem argsF_stp {lev : PSt → Option PSt} (hl : levOK lev) : ∀ (m : Nat) (n : Int) (p : PSt) (r : Int × PSt), inP p → argsF lev m n p = some r → stp 0 p r.2
  | 0, _, _, _, _, h => by simp [argsF] at h
  | m + 1, n, p, r, hp, h => by
    simp only [argsF] at h
    split at h
    · cases h; exact stp_refl hp
    · split at h
      · cases e : lev p with
        | none => simp [e] at h
        | some q =>
          rw [e] at h
          have h2 := hl _ _ hp e
          exact stp_trans h2 (argsF_stp hl m _ _ _ (stp_in h2) h)
      · split at h
        · rename_i w
          cases e : lev (adv p) with
          | none => simp [e] at h
          | some q =>
            rw [e] at h
            have h1 := stp_adv hp (isP_lt w)
            have h2 := hl _ _ (stp_in h1) e
            exact stp_mono (stp_trans (stp_trans h1 h2) (argsF_stp hl m _ _ _ (stp_in h2) h)) (by omega)
        · cases h; exact stp_refl hp
theorem argsF_fuel {lev : PSt → Option PSt} (hl : levOK lev) : ∀ (m m' : Nat) (n : Int) (p : PSt), 0 ≤ n → inP p → leftP p + (if n = 0 then 2 else 1) ≤ m → leftP p + (if n = 0 then 2 else 1) ≤ m' → argsF lev m n p = argsF lev m' n p
  | 0, _, _, _, _, _, h, _ => by split at h <;> omega
  | _ + 1, 0, _, _, _, _, _, h => by split at h <;> omega
  | m + 1, m' + 1, n, p, hn, hp, h, h' => by
    simp only [argsF]
    split
    · rfl
    · split
      · rename_i w
        rw [if_pos w] at h h'
        cases e : lev p with
        | none => rfl
        | some q =>
          simp only [Option.bind_some]
          have h2 := hl _ _ hp e
          have hle : leftP q ≤ leftP p := by
            obtain ⟨g1, g2, g3, g4, _⟩ := h2
            simp only [leftP, g1]; omega
          exact argsF_fuel hl m m' _ _ (by omega) (stp_in h2) (by rw [if_neg (by omega)]; omega) (by rw [if_neg (by omega)]; omega)
      · rename_i wn
        rw [if_neg wn] at h h'
        split
        · rename_i w
          have w := isP_lt w
          cases e : lev (adv p) with
          | none => rfl
          | some q =>
            simp only [Option.bind_some]
            have h2 := hl _ _ (stp_in (stp_adv hp w)) e
            have := left_lt hp h2 w (r := q) rfl rfl
            exact argsF_fuel hl m m' _ _ (by omega) (stp_in h2) (by rw [if_neg (by omega)]; omega) (by rw [if_neg (by omega)]; omega)
        · rfl
theorem argsP_step {lev : PSt → Option PSt} (hl : levOK lev) {n : Int} {p : PSt} (hn : 0 ≤ n) (hp : inP p) : argsP lev n p = if p.2.2.2.1 then some (n, p) else if n = 0 then (lev p).bind fun q => argsP lev (n + 1) q
    else if isP p 5 [44] then (lev (adv p)).bind fun q => argsP lev (n + 1) q else some (n, p) := by
  have e : ∃ m, (leftP p + if n = 0 then 2 else 1) = m + 1 ∧ leftP p + (if n = 0 then 1 else 0) ≤ m := by split <;> exact ⟨_, rfl, by omega⟩
  obtain ⟨m, e, hm⟩ := e
  rw [argsP, e]
  simp only [argsF]
  split
  · rfl
  · split
    · rename_i w
      rw [if_pos w] at hm
      cases e : lev p with
      | none => rfl
      | some q =>
        simp only [Option.bind_some]
        have h2 := hl _ _ hp e
        have hle : leftP q ≤ leftP p := by
          obtain ⟨g1, g2, g3, g4, _⟩ := h2
          simp only [leftP, g1]; omega
        exact argsF_fuel hl _ _ _ _ (by omega) (stp_in h2) (by rw [if_neg (by omega)]; omega) (Nat.le_refl _)
    · rename_i wn
      rw [if_neg wn] at hm
      split
      · rename_i w
        have w := isP_lt w
        cases e : lev (adv p) with
        | none => rfl
        | some q =>
          simp only [Option.bind_some]
          have h2 := hl _ _ (stp_in (stp_adv hp w)) e
          have := left_lt hp h2 w (r := q) rfl rfl
          exact argsF_fuel hl _ _ _ _ (by omega) (stp_in h2) (by rw [if_neg (by omega)]; omega) (Nat.le_refl _)
      · rfl
theorem callP_stp {lev : PSt → Option PSt} (hl : levOK lev) {k : Int} {p q : PSt} (hp : inP p) (h : callP lev k p = some q) : stp 1 p q := by
  unfold callP at h
  cases e : argsP lev 0 (mustP p [40]) with
  | none => simp [e] at h
  | some r =>
    rw [e] at h
    cases h
    have h1 := stp_must [40] hp
    have h2 := argsF_stp hl _ _ _ _ (stp_in h1) e
    have h3 := stp_must [41] (stp_in h2)
    exact stp_trans (stp_trans (stp_trans (stp_trans h1 h2) h3) (stp_badIf _ (stp_in h3))) (stp_add _ (stp_in (stp_badIf _ (stp_in h3))))
theorem boundP_stp {p : PSt} (hp : inP p) : stp 0 p (boundP p) := by
  have h1 := stp_must [40] hp
  unfold boundP
  refine stp_mono (j := 0 + 0) (stp_trans (k := 0) (q := if (mustP p [40]).2.1 < ((mustP p [40]).1.length : Int) ∧ (tokI (mustP p [40])).1 = 2 then adv (addP (mustP p [40]) (3, 0, [], [], [], (tokI (mustP p [40])).2.1, 0, ())) else failP (mustP p [40])) (j := 0) ?_ ?_) (by omega)
  · split
    · rename_i w
      have h2 := stp_add (3, 0, [], [], [], (tokI (mustP p [40])).2.1, 0, ()) (stp_in h1)
      exact stp_trans (stp_trans h1 h2) (stp_adv (stp_in h2) w.1)
    · exact stp_trans h1 (stp_fail (stp_in h1))
  · refine stp_must [41] ?_
    split
    · rename_i w
      have h2 := stp_add (3, 0, [], [], [], (tokI (mustP p [40])).2.1, 0, ()) (stp_in h1)
      exact stp_in (stp_adv (stp_in h2) w.1)
    · exact stp_in (stp_fail (stp_in h1))
theorem wordP_stp {lev : PSt → Option PSt} (hl : levOK lev) {s : B} {p q : PSt} (hp : inP p) (h : wordP lev s p = some q) : stp 1 p q := by
  unfold wordP at h
  split at h
  · cases h; exact stp_add _ hp
  · split at h
    · cases h; exact stp_add _ hp
    · split at h
      · cases h; exact stp_mono (boundP_stp hp) (by omega)
      · split at h
        · cases h; exact stp_mono (stp_fail hp) (by omega)
        · exact callP_stp hl hp h
theorem simpleP_stp {lev : PSt → Option PSt} (hl : levOK lev) {p q : PSt} (hp : inP p) (h : simpleP lev p = some q) : stp 0 p q := by
  unfold simpleP at h
  split at h
  · cases h; exact stp_fail hp
  · rename_i w
    have w : p.2.1 < (p.1.length : Int) := by
      have : ¬ p.2.1 = (p.1.length : Int) := fun e => w (.inr e)
      have := hp.2
      omega
    have h1 := stp_adv hp w
    split at h
    · cases e : lev (adv p) with
      | none => simp [e] at h
      | some r =>
        rw [e] at h
        cases h
        have h2 := hl _ _ (stp_in h1) e
        exact stp_mono (stp_trans (stp_trans h1 h2) (stp_must _ (stp_in h2))) (by omega)
    · split at h
      · cases h; exact stp_trans h1 (stp_add _ (stp_in h1))
      · split at h
        · cases h; exact stp_trans h1 (stp_add _ (stp_in h1))
        · split at h
          · cases h; exact stp_trans h1 (stp_add _ (stp_in h1))
          · split at h
            · exact stp_trans h1 (wordP_stp hl (stp_in h1) h)
            · cases h; exact stp_mono (stp_trans h1 (stp_fail (stp_in h1))) (by omega)
theorem pf_stp : ∀ (N : Nat) (n : Int), levOK (pf N n)
  | 0, _ => fun _ _ _ h => by simp [pf] at h
  | N + 1, n => fun p q hp h => by
    simp only [pf] at h
    split at h
    · split at h
      · rename_i w
        cases e : pf N 6 (adv p) with
        | none => simp [e] at h
        | some r =>
          rw [e] at h
          cases h
          have h1 := stp_adv hp (isP_lt w)
          have h2 := pf_stp N 6 _ _ (stp_in h1) e
          exact stp_trans (stp_trans h1 h2) (stp_add _ (stp_in h2))
      · split at h
        · rename_i w
          cases e : pf N 6 (adv p) with
          | none => simp [e] at h
          | some r =>
            rw [e] at h
            cases h
            have h1 := stp_adv hp (isP_lt w)
            have h2 := pf_stp N 6 _ _ (stp_in h1) e
            exact stp_trans (stp_trans h1 h2) (stp_add _ (stp_in h2))
        · exact simpleP_stp (pf_stp N 0) hp h
    · split at h
      · exact pf_stp N 6 _ _ hp h
      · cases e : pf N (n + 1) p with
        | none => simp [e] at h
        | some r =>
          rw [e] at h
          have h2 := pf_stp N (n + 1) _ _ hp e
          exact stp_trans h2 (chainF_stp (pf_stp N (n + 1)) n _ _ _ (stp_in h2) h)
theorem bind_is {α β : Type} {o : Option α} {f : α → Option β} (h : (o.bind f).isSome = true) : ∃ q, o = some q ∧ (f q).isSome = true := by
  cases o with
  | none => simp at h
  | some q => exact ⟨q, rfl, h⟩
theorem map_is {α β : Type} {o : Option α} {f : α → β} (h : (o.map f).isSome = true) : ∃ q, o = some q := by
  cases o with
  | none => simp at h
  | some q => exact ⟨q, rfl⟩
theorem is_some {α : Type} {o : Option α} (h : o.isSome = true) : ∃ q, o = some q := Option.isSome_iff_exists.1 h
theorem pfD_e {N : Nat} {n : Int} {p q : PSt} (h : pf N n p = some q) : pfD N n p = q := by simp [pfD, h]
theorem isSome_e {α : Type} {o : Option α} {a : α} (h : o = some a) : o.isSome = true := by rw [h]; rfl
theorem kindIn {k n : Int} (h : k ∈ signL n) : 6 ≤ k ∧ k ≤ 17 := by
  unfold signL at h
  split at h
  · simp at h; omega
  · split at h
    · simp at h; omega
    · split at h
      · simp at h; omega
      · split at h <;> (simp at h; omega)
theorem findK_cons (p : PSt) (k : Int) (l : List Int) : findK p (k :: l) = if isP p 5 (signT k) = true then k else findK p l := by
  simp only [findK, List.find?_cons]
  split
  · rename_i w; rw [if_pos w]; rfl
  · rename_i w; rw [if_neg (by simp [w])]
theorem findK_nil (p : PSt) : findK p [] = 0 := rfl
def wordL (l : List Int) (s : B) : Int := (l.find? fun k => decide (signT k = s)).getD 0
theorem wordL_cons (k : Int) (l : List Int) (s : B) : wordL (k :: l) s = if signT k = s then k else wordL l s := by
  simp only [wordL, List.find?_cons]
  split
  · rename_i w; rw [if_pos (of_decide_eq_true w)]; rfl
  · rename_i w; rw [if_neg (of_decide_eq_false w)]
theorem wordK_L (s : B) : wordK s = wordL [18, 19, 20, 21, 22, 23, 24, 25, 26] s := rfl
theorem badIf_t {m : PSt} (b : Bool) (h : m.2.2.2.1 = true) : badIf b m = (m.1, m.2.1, m.2.2.1, true, ()) := by simp [badIf, h]
theorem badIf_f {m : PSt} (b : Bool) (h : m.2.2.2.1 = false) : badIf b m = (m.1, m.2.1, m.2.2.1, b, ()) := by simp [badIf, h]
theorem ne_dec (a b : Int) : (a != b) = decide (a ≠ b) := by rw [Bool.eq_iff_iff]; simp
theorem callX_26 (n : Int) : callX 26 n = (26, 0, [], [], [], [], n, ()) := rfl
theorem callX_n {k : Int} (n : Int) (h : ¬ k = 26) : callX k n = (k, 0, [], [], [], [], 0, ()) := by simp [callX, h]
theorem signL_len (n : Int) : (signL n).length ≤ 6 := by
  unfold signL; repeat' split
  all_goals decide
theorem sign_at {n : Int} {i : Nat} (h : i < (signL n).length) : ∃ k, (signL n).drop i = k :: (signL n).drop (i + 1) ∧ getR [.int .i64] (rowI (signL n)) (i : Int) = (k, ()) ∧ 6 ≤ k ∧ k ≤ 17 := by
  refine ⟨(signL n)[i], List.drop_eq_getElem_cons h, ?_, ?_⟩
  · simp only [getR, rowI, Int.toNat_natCast, List.getElem?_map, List.getElem?_eq_getElem h, Option.map_some, Option.getD_some]
  · exact kindIn (List.getElem_mem h)
theorem rowI_len (l : List Int) : (rowI l).length = l.length := by simp [rowI]
theorem findK_ne0 {p : PSt} {k : Int} {l : List Int} (hk : 6 ≤ k) (w : isP p 5 (signT k) = true) : ¬ findK p (k :: l) = 0 := by rw [findK_cons, if_pos w]; omega
theorem chainD_e {N : Nat} {n : Int} {p r : PSt} (h : chainP (pf N (n + 1)) n p = some r) : chainD N n p = r := by simp [chainD, h]
end Go.Proofs.Ytfpojhphmgnfhaa.Sp
end
