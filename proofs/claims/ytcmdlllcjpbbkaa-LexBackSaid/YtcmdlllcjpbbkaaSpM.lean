/- Chapter 5: the words of the text that joins words. -/
import Derived.Test.YtcmdlllcjpbbkaaSpL
namespace Go.Proofs.Ytcmdlllcjpbbkaa.Sp
open Go.Proofs.Ytcmdlllcjpbbkaa.Lg
/-- A word that reads as itself. -/
def goodW (t : Tok) : Prop := szW t ∧ 0 < (wtext t).length ∧ many spaceI (wtext t) = 0 ∧ (wtext t).length ≤ 20000 ∧ ∀ r, stops r → wordS (wtext t ++ r) = (atT t 0, (wtext t).length)
theorem wtext_at (t : Tok) (n : Int) : wtext (atT t n) = wtext t := rfl
theorem goodW_at {t : Tok} (h : goodW t) (n : Int) : goodW (atT t n) := h
theorem many_append {p : Int → Bool} {s : B} (r : B) (h : many p s < s.length) : many p (s ++ r) = many p s := by
  induction s with
  | nil => simp at h
  | cons b s ih =>
    simp only [many, List.cons_append, List.length_cons] at h ⊢
    split
    · rename_i hb; rw [if_pos hb] at h; rw [ih (by omega)]
    · rfl
theorem many_all {p : Int → Bool} {s r : B} (h : many p s = s.length) (hr : ∀ b q, r = b :: q → p (u b) = false) : many p (s ++ r) = s.length := by
  induction s with
  | nil => cases r with
    | nil => rfl
    | cons b q => simp [many, hr b q rfl]
  | cons b s ih =>
    simp only [many, List.cons_append, List.length_cons] at h ⊢
    split
    · rename_i hb; rw [if_pos hb] at h; rw [ih (by omega)]
    · rename_i hb; rw [if_neg hb] at h; omega
theorem stops_cons {r : B} (h : stops r) : ∀ b q, r = b :: q → b = 32 := by
  rintro b q e
  rcases h with rfl | ⟨_, rfl⟩
  · cases e
  · cases e; rfl
theorem stops_not {p : Int → Bool} {r : B} (h : stops r) (hp : p 32 = false) : ∀ b q, r = b :: q → p (u b) = false := by
  intro b q e
  rw [stops_cons h b q e]; exact hp
theorem prefixS_head {b : UInt8} {r : B} (h1 : ¬ u b = 60) (h2 : ¬ u b = 34) (h3 : ¬ u b = 63) (h4 : ¬ u b = 95) : prefixS (b :: r) = noTerm := by simp [prefixS, h1, h2, h3, h4]
theorem letter_ne {c : Int} (h : letterI c = true) : c ≠ 60 ∧ c ≠ 34 ∧ c ≠ 63 ∧ c ≠ 95 ∧ ¬ (c = 32 ∨ c = 9 ∨ c = 10) := by
  simp [letterI] at h; omega
theorem digit_ne {c : Int} (h : digitI c = true) : c ≠ 60 ∧ c ≠ 34 ∧ c ≠ 63 ∧ c ≠ 95 ∧ letterI c = false ∧ ¬ (c = 32 ∨ c = 9 ∨ c = 10) := by
  simp [digitI] at h
  refine ⟨by omega, by omega, by omega, by omega, ?_, by omega⟩
  simp [letterI]; omega
theorem space_no {c : Int} (h : ¬ (c = 32 ∨ c = 9 ∨ c = 10)) : spaceI c = false := by
  simp [spaceI]; omega
theorem textS_head {k : Int} {a t l : B} (h : right k a t l = true) (hk : k ≠ 0) : ∃ b q, textS k a t l = b :: q ∧ spaceI (u b) = false := by
  unfold right at h
  rw [if_neg hk] at h
  by_cases h1 : k = 1
  · subst h1; exact ⟨60, a ++ [62], rfl, rfl⟩
  rw [if_neg h1] at h
  by_cases h3 : k = 3 ∨ k = 4
  · rcases h3 with rfl | rfl
    · exact ⟨95, 58 :: a, rfl, rfl⟩
    · exact ⟨63, a, rfl, rfl⟩
  rw [if_neg h3] at h
  by_cases h2 : k = 2
  · subst h2
    exact ⟨34, esc a ++ [34] ++ ((if t.isEmpty then [] else [94, 94, 60] ++ t ++ [62]) ++ (if l.isEmpty then [] else 64 :: l)), by simp [textS, quotedS], rfl⟩
  · rw [if_neg h2] at h; cases h
theorem goodW_term {k : Int} {a t l : B} (h : right k a t l = true) (hk : k ≠ 0) (hk4 : k ≠ 4) : goodW (3, [], k, a, t, l, 0, ()) := by
  have hw : wtext (3, [], k, a, t, l, 0, ()) = textS k a t l := by simp [wtext, h]
  obtain ⟨b, q, hb, hs⟩ := textS_head h hk
  obtain ⟨z1, z2, z3⟩ := right_le h
  refine ⟨⟨by simp, by show a.length ≤ _; omega, by show t.length ≤ _; omega, by show l.length ≤ _; omega⟩, ?_, ?_, ?_, ?_⟩
  · rw [hw, hb]; simp
  · rw [hw, hb]; simp [many, hs]
  · rw [hw]; exact textS_le h
  · intro r hr
    have hp := prefix_text h hk hr
    have hl : 0 < (textS k a t l).length := by rw [hb]; simp
    rw [hw]
    unfold wordS
    simp only [hp, if_neg hk4, if_pos (show (0 : Int) < ((textS k a t l).length : Int) by omega)]
    simp [atT]
theorem goodW_var {a : B} (h : isName a = true) : goodW (2, a, 0, [], [], [], 0, ()) := by
  have hw : wtext (2, a, 0, [], [], [], 0, ()) = 63 :: a := by simp [wtext]
  have hr4 : right 4 a [] [] = true := by simp [right, h]
  have hl := isName_le h
  refine ⟨⟨by show a.length ≤ _; omega, by simp, by simp, by simp⟩, ?_, ?_, ?_, ?_⟩
  · rw [hw]; simp
  · rw [hw]; rfl
  · rw [hw]; simp; omega
  · intro r hr
    have hp := prefix_text hr4 (by decide) hr
    have e : textS 4 a [] [] = 63 :: a := rfl
    rw [e] at hp
    rw [hw]
    unfold wordS
    simp only [hp, if_true, if_pos (show (0 : Int) < (((63 :: a : B)).length : Int) by simp)]
    simp [atT]
theorem goodW_letters {a : B} (h : many letterI a = a.length) (h0 : 0 < a.length) (hl : a.length ≤ 4096) : goodW (1, a, 0, [], [], [], 0, ()) := by
  have hw : wtext (1, a, 0, [], [], [], 0, ()) = a := by simp [wtext]
  obtain ⟨b, q, rfl⟩ : ∃ b q, a = b :: q := by cases a with | nil => simp at h0 | cons b q => exact ⟨b, q, rfl⟩
  have hb : letterI (u b) = true := by
    simp only [many, List.length_cons] at h
    split at h
    · assumption
    · omega
  obtain ⟨n1, n2, n3, n4, n5⟩ := letter_ne hb
  refine ⟨⟨by show (b :: q).length ≤ _; omega, by simp, by simp, by simp⟩, by rw [hw]; exact h0, by rw [hw]; simp [many, space_no n5], by rw [hw]; omega, ?_⟩
  intro r hr
  rw [hw]
  have hp : prefixS (b :: q ++ r) = noTerm := prefixS_head n1 n2 n3 n4
  have hm := many_all (r := r) h (stops_not hr rfl)
  unfold wordS
  simp only [hp, hm, show noTerm.2.2.2.2 = 0 from rfl, if_neg (show ¬ (0 : Int) < 0 by decide), if_pos h0]
  simp [atT]
theorem isIn_take (s : B) (b : UInt8) (q : B) : s = b :: q → s.take 1 = [b] := by rintro rfl; rfl
theorem goodW_digits {a : B} (h : many digitI a = a.length) (h0 : 0 < a.length) (hl : a.length ≤ 4096) : goodW (4, a, 0, [], [], [], 0, ()) := by
  have hw : wtext (4, a, 0, [], [], [], 0, ()) = a := by simp [wtext]
  obtain ⟨b, q, rfl⟩ : ∃ b q, a = b :: q := by cases a with | nil => simp at h0 | cons b q => exact ⟨b, q, rfl⟩
  have hb : digitI (u b) = true := by
    simp only [many, List.length_cons] at h
    split at h
    · assumption
    · omega
  obtain ⟨n1, n2, n3, n4, n5, n6⟩ := digit_ne hb
  refine ⟨⟨by show (b :: q).length ≤ _; omega, by simp, by simp, by simp⟩, by rw [hw]; exact h0, by rw [hw]; simp [many, space_no n6], by rw [hw]; omega, ?_⟩
  intro r hr
  rw [hw]
  have hp : prefixS (b :: q ++ r) = noTerm := prefixS_head n1 n2 n3 n4
  have hm := many_all (r := r) h (stops_not hr rfl)
  have hl0 : many letterI (b :: q ++ r) = 0 := by simp [many, n5]
  have hnum : numS (b :: q ++ r) = ((4, b :: q, 0, [], [], [], 0, ()), (b :: q).length) := by
    unfold numS
    simp only [hm, List.drop_left, List.take_left]
    rw [if_neg]
    rintro ⟨z, _⟩
    rcases hr with rfl | ⟨y, rfl⟩ <;> simp at z
  unfold wordS
  simp only [hp, hm, hl0, hnum, show noTerm.2.2.2.2 = 0 from rfl, if_neg (show ¬ (0 : Int) < 0 by decide), if_neg (show ¬ 0 < 0 by decide), if_pos h0]
  simp [atT]
def sign1 (b : UInt8) : Bool := isIn (u b) signs1
theorem sign1_mem {b : UInt8} (h : sign1 b = true) : b ∈ signs1 := by
  simp only [sign1, isIn, List.any_eq_true, decide_eq_true_eq] at h
  obtain ⟨x, hx, e⟩ := h
  rw [u_inj e]; exact hx
theorem signs_all : ∀ b ∈ signs1, ¬ u b = 34 ∧ ¬ u b = 63 ∧ ¬ u b = 95 ∧ letterI (u b) = false ∧ digitI (u b) = false ∧ spaceI (u b) = false ∧ sign1 b = true := by decide
theorem two_cases {s : B} (h : two s = true) : s.take 2 = [60, 61] ∨ s.take 2 = [62, 61] ∨ s.take 2 = [33, 61] ∨ s.take 2 = [38, 38] ∨ s.take 2 = [124, 124] := by
  simp only [two, Bool.or_eq_true, beq_iff_eq] at h
  rcases h with (((h | h) | h) | h) | h <;> simp [h]
theorem noIri {s : B} (h : ∀ n : Nat, 2 ≤ n → n < s.length → s[n]? = some 62 → isIri ((s.take n).drop 1) = false) (h2 : s[1]? ≠ some 62) (h0 : s.head? = some 60) : prefixS s = noTerm := by
  cases s with
  | nil => simp at h0
  | cons b r =>
    simp at h0; subst h0
    show (match iriAt (60 :: r) with | some (x, n) => (1, x, [], [], (n : Int)) | none => noTerm) = noTerm
    have : iriAt (60 :: r) = none := by
      unfold iriAt
      rw [if_neg]
      rintro ⟨_, z1, z2⟩
      have hle := indexByte_le (60 :: r) 62
      obtain ⟨hs, _⟩ := indexByte_split (s := 60 :: r) (c := 62) (by omega)
      generalize hi : (Go.Lib.indexByte (60 :: r) 62).toNat = i at *
      have hil : i < (60 :: r).length := by omega
      have hg : (60 :: r)[i]? = some 62 := by
        conv => lhs; rw [hs]
        have hl : ((60 :: r).take i).length = i := by rw [List.length_take]; omega
        rw [List.getElem?_append_right (by omega), hl]; simp
      by_cases e : i = 1
      · subst e; exact h2 hg
      · rw [h i (by omega) hil hg] at z2; cases z2
    rw [this]
theorem iri_has {x : B} {c : UInt8} (h : c ∈ x) (hc : iriI (u c) = false) : isIri x = false := by
  cases hi : isIri x with
  | false => rfl
  | true =>
    simp only [isIri, Bool.and_eq_true] at hi
    have := all_mem hi.2 c h
    rw [hc] at this; cases this
theorem goodW_sign {a : B} (h : two a = true ∧ a.length = 2 ∨ ∃ b, a = [b] ∧ sign1 b = true) : goodW (5, a, 0, [], [], [], 0, ()) := by
  have hw : wtext (5, a, 0, [], [], [], 0, ()) = a := by simp [wtext]
  -- a sign by itself
  have key : ∀ (b : UInt8) (q r : B), a = b :: q → stops r → prefixS (a ++ r) = noTerm → letterI (u b) = false → digitI (u b) = false → signS (a ++ r) = a → wordS (a ++ r) = ((5, a, 0, [], [], [], 0, ()), a.length) := by
    rintro b q r rfl hr hp h1 h2 h3
    have m1 : many letterI (b :: q ++ r) = 0 := by simp [many, h1]
    have m2 : many digitI (b :: q ++ r) = 0 := by simp [many, h2]
    unfold wordS
    simp only [hp, m1, m2, h3, show noTerm.2.2.2.2 = 0 from rfl, if_neg (show ¬ (0 : Int) < 0 by decide), if_neg (show ¬ 0 < 0 by decide)]
  rcases h with ⟨h, hl⟩ | ⟨b, rfl, hb⟩
  · have ht := two_cases h
    rw [List.take_of_length_le (by omega)] at ht
    refine ⟨⟨by show a.length ≤ _; omega, by simp, by simp, by simp⟩, by rw [hw]; omega, ?_, by rw [hw]; omega, ?_⟩
    · rw [hw]; rcases ht with rfl | rfl | rfl | rfl | rfl <;> rfl
    · intro r hr
      rw [hw]
      have hs : signS (a ++ r) = a := by
        have h2 : two (a ++ r) = true := by rcases ht with rfl | rfl | rfl | rfl | rfl <;> simp [two]
        unfold signS
        rw [if_pos h2, List.take_append_of_le_length (by omega), List.take_of_length_le (by omega)]
      rcases ht with rfl | rfl | rfl | rfl | rfl
      · refine key _ _ _ rfl hr (noIri ?_ (by simp) rfl) rfl rfl hs
        intro n h2 h3 h4
        rcases hr with rfl | ⟨y, rfl⟩
        · simp at h3; omega
        · have : n ≠ 2 := by rintro rfl; simp at h4
          refine iri_has (c := 32) ?_ rfl
          obtain ⟨m, rfl⟩ : ∃ m, n = m + 3 := ⟨n - 3, by omega⟩
          simp
      · exact key _ _ _ rfl hr (prefixS_head (by decide) (by decide) (by decide) (by decide)) rfl rfl hs
      · exact key _ _ _ rfl hr (prefixS_head (by decide) (by decide) (by decide) (by decide)) rfl rfl hs
      · exact key _ _ _ rfl hr (prefixS_head (by decide) (by decide) (by decide) (by decide)) rfl rfl hs
      · exact key _ _ _ rfl hr (prefixS_head (by decide) (by decide) (by decide) (by decide)) rfl rfl hs
  · have hm := sign1_mem hb
    obtain ⟨n1, n2, n3, n4, n5, n6, _⟩ := signs_all b hm
    refine ⟨⟨by show [b].length ≤ _; simp, by simp, by simp, by simp⟩, by rw [hw]; simp, by rw [hw]; simp [many, n6], by rw [hw]; simp, ?_⟩
    intro r hr
    rw [hw]
    have hs : signS ([b] ++ r) = [b] := by
      have h2 : two ([b] ++ r) = false := by rcases hr with rfl | ⟨y, rfl⟩ <;> simp [two]
      unfold signS
      rw [h2]
      simp only [Bool.false_eq_true, if_false, List.cons_append, List.nil_append]
      have hb' : isIn (u b) signs1 = true := hb
      rw [if_pos hb']
    by_cases h60 : u b = 60
    · obtain rfl : b = 60 := u_inj h60
      refine key _ _ _ rfl hr (noIri ?_ ?_ rfl) n4 n5 hs
      · intro n h2 h3 h4
        rcases hr with rfl | ⟨y, rfl⟩
        · simp at h3; omega
        · refine iri_has (c := 32) ?_ rfl
          obtain ⟨m, rfl⟩ : ∃ m, n = m + 2 := ⟨n - 2, by omega⟩
          simp
      · rcases hr with rfl | ⟨y, rfl⟩ <;> simp
    · exact key _ _ _ rfl hr (prefixS_head h60 n1 n2 n3) n4 n5 hs
end Go.Proofs.Ytcmdlllcjpbbkaa.Sp
namespace Go.Proofs.Ytcmdlllcjpbbkaa.Sp
open Go.Proofs.Ytcmdlllcjpbbkaa.Lg
/-- What is read is good. -/
theorem wordS_good (s : B) (hl : s.length ≤ 4096) (h : (wordS s).2 ≠ 0) : goodW (wordS s).1 := by
  have hml := many_le letterI s
  have hmd := many_le digitI s
  unfold wordS at h ⊢
  dsimp only at h ⊢
  by_cases h1 : 0 < (prefixS s).2.2.2.2
  · rw [if_pos h1] at h ⊢
    generalize hp : prefixS s = p at *
    obtain ⟨k, a, t, l, n⟩ := p
    dsimp only at h1 h ⊢
    obtain ⟨hr, ht⟩ := text_prefix hp (by omega)
    have hk0 : k ≠ 0 := by
      rintro rfl
      have hle := prefixS_le s
      rw [hp] at hle
      dsimp only at hle
      have := congrArg List.length ht
      rw [List.length_take] at this
      simp [textS] at this
      omega
    by_cases h4 : k = 4
    · rw [if_pos h4]
      subst h4
      simp [right] at hr
      exact goodW_var hr.2
    · rw [if_neg h4]
      exact goodW_term hr hk0 h4
  rw [if_neg h1] at h ⊢
  by_cases h2 : 0 < many letterI s
  · rw [if_pos h2]
    refine goodW_letters ?_ ?_ ?_
    · rw [many_take, List.length_take]; omega
    · rw [List.length_take]; omega
    · rw [List.length_take]; omega
  rw [if_neg h2] at h ⊢
  by_cases h3 : 0 < many digitI s
  · rw [if_pos h3]
    unfold numS
    dsimp only
    split
    · rename_i hc
      have hm2 := many_le digitI (s.drop (many digitI s + 1))
      rw [List.length_drop] at hm2
      have hlt : many digitI s < s.length := by
        by_cases q : many digitI s < s.length
        · exact q
        · have := hc.1; rw [List.drop_of_length_le (by omega)] at this; simp at this
      refine goodW_term ?_ (by decide) (by decide)
      have hd : ∀ (n : Nat) (r : B), n = many digitI r → allI textI (r.take n) = true := by
        intro n r
        induction r generalizing n with
        | nil => intro _; simp [allI]
        | cons b r ih =>
          rintro rfl
          simp only [many]
          split
          · rename_i hb
            simp only [List.take_succ_cons, allI, List.all_cons]
            have := ih _ rfl
            simp only [allI] at this
            rw [this]
            simp [digitI] at hb
            simp [textI]; omega
          · simp [allI]
      have hsplit : s.take (many digitI s + 1 + many digitI (s.drop (many digitI s + 1))) = s.take (many digitI s) ++ 46 :: (s.drop (many digitI s + 1)).take (many digitI (s.drop (many digitI s + 1))) := by
        have h46 : s.drop (many digitI s) = 46 :: s.drop (many digitI s + 1) := by
          obtain ⟨b, hd, _, _⟩ := byteAt_drop hlt
          have := hc.1
          rw [hd] at this ⊢
          simp at this; rw [this]
        rw [Nat.add_assoc, List.take_add, h46, Nat.add_comm 1, List.take_succ_cons]
      have hall : allI textI (s.take (many digitI s + 1 + many digitI (s.drop (many digitI s + 1)))) = true := by
        rw [hsplit]
        have a1 := hd _ s rfl
        have a2 := hd _ (s.drop (many digitI s + 1)) rfl
        simp only [allI, List.all_append, List.all_cons] at a1 a2 ⊢
        rw [a1, a2]; rfl
      have hdt : isIri decimalT = true := by decide
      simp only [right, show ¬ ((2 : Int) = 0) by decide, show ¬ ((2 : Int) = 1) by decide, show ¬ ((2 : Int) = 3 ∨ (2 : Int) = 4) by decide, if_false, if_true, isText, hall, hdt]
      simp; omega
    · refine goodW_digits ?_ ?_ ?_
      · rw [many_take, List.length_take]; omega
      · rw [List.length_take]; omega
      · rw [List.length_take]; omega
  rw [if_neg h3] at h ⊢
  refine goodW_sign ?_
  unfold signS at h ⊢
  by_cases ht : two s = true
  · rw [if_pos ht]
    left
    have : 2 ≤ s.length := by
      match s, ht with
      | [], h => simp [two] at h
      | [_], h => simp [two] at h
      | _ :: _ :: _, _ => simp
    exact ⟨by simp only [two, List.take_take] at ht ⊢; simpa using ht, by rw [List.length_take]; omega⟩
  · rw [if_neg ht] at h ⊢
    cases s with
    | nil => simp at h
    | cons b r =>
      by_cases hb : isIn (u b) signs1 = true
      · exact .inr ⟨b, by simp [hb], hb⟩
      · simp [hb] at h
theorem lexR_good : ∀ (n : Nat) (s : B) (a : Nat), s.length - a ≤ n → a ≤ s.length → s.length ≤ 4096 → ∀ t ∈ (lexR s a).1, goodW t := by
  intro n
  induction n with
  | zero =>
    intro s a hn ha hl
    have : a = s.length := by omega
    subst this
    rw [lexR_step _ _ (Nat.le_refl _)]
    simp [many]
  | succ n ih =>
    intro s a hn ha hl
    have hm := many_le spaceI (s.drop a)
    have hw := wordS_le (s.drop (a + many spaceI (s.drop a)))
    rw [List.length_drop] at hm hw
    rw [lexR_step s a ha]
    by_cases q : a + many spaceI (s.drop a) = s.length
    · rw [if_pos q]; simp
    · rw [if_neg q]
      by_cases q2 : (wordS (s.drop (a + many spaceI (s.drop a)))).2 = 0
      · rw [if_pos q2]; simp
      · rw [if_neg q2]
        intro t ht
        rcases List.mem_cons.1 ht with rfl | ht
        · exact goodW_at (wordS_good _ (by rw [List.length_drop]; omega) q2) _
        · exact ih s _ (by omega) (by omega) hl t ht
theorem joinF_stops (l : List Tok) : stops (joinF l) := by
  cases l with
  | nil => exact .inl rfl
  | cons t l => exact .inr ⟨_, rfl⟩
/-- Good words, joined, read as they were. -/
theorem lexR_join : ∀ (l : List Tok), (∀ t ∈ l, goodW t) → ∀ (pre : B), (lexR (pre ++ joinF l) pre.length).2 = none ∧ (lexR (pre ++ joinF l) pre.length).1.length = l.length ∧ sameL false l (lexR (pre ++ joinF l) pre.length).1 = true
  | [], _, pre => by
    rw [lexR_step _ _ (by simp)]
    simp [joinF, many, sameL]
  | t :: l, h, pre => by
    obtain ⟨_, h1, h2, _, h3⟩ := h t List.mem_cons_self
    obtain ⟨i1, i2, i3⟩ := lexR_join l (fun x hx => h x (List.mem_cons_of_mem _ hx)) (pre ++ 32 :: wtext t)
    have e : pre ++ joinF (t :: l) = (pre ++ 32 :: wtext t) ++ joinF l := by simp [joinF]
    have el : (pre ++ 32 :: wtext t).length = pre.length + 1 + (wtext t).length := by simp; omega
    have hd : (pre ++ joinF (t :: l)).drop pre.length = 32 :: (wtext t ++ joinF l) := by rw [List.drop_left]; rfl
    have hsp : many spaceI (32 :: (wtext t ++ joinF l)) = 1 := by
      have : many spaceI (wtext t ++ joinF l) = 0 := by
        rw [many_append _ (by omega), h2]
      simp only [many, this]; rfl
    have hd2 : (pre ++ joinF (t :: l)).drop (pre.length + 1) = wtext t ++ joinF l := by rw [← List.drop_drop, hd]; rfl
    have hlen : (pre ++ joinF (t :: l)).length = pre.length + 1 + (wtext t).length + (joinF l).length := by simp [joinF]; omega
    rw [lexR_step _ _ (by simp)]
    rw [hd, hsp, hd2, h3 _ (joinF_stops l)]
    rw [if_neg (by omega), if_neg (by dsimp only; omega)]
    dsimp only
    rw [e, ← el]
    refine ⟨i1, by rw [List.length_cons, i2, List.length_cons], ?_⟩
    simp only [sameL, i3, Bool.and_true]
    simp [sameW, atT]
theorem lexR_joinS (l : List Tok) (h : ∀ t ∈ l, goodW t) : (lexR (joinS l) 0).2 = none ∧ sameS l (lexR (joinS l) 0).1 false = true := by
  cases l with
  | nil => exact ⟨rfl, rfl⟩
  | cons t l =>
    obtain ⟨_, h1, h2, _, h3⟩ := h t List.mem_cons_self
    obtain ⟨i1, i2, i3⟩ := lexR_join l (fun x hx => h x (List.mem_cons_of_mem _ hx)) (wtext t)
    have hsp : many spaceI (wtext t ++ joinF l) = 0 := by rw [many_append _ (by omega), h2]
    have e : joinS (t :: l) = wtext t ++ joinF l := rfl
    rw [lexR_step _ _ (Nat.zero_le _), e]
    simp only [List.drop_zero, hsp, Nat.add_zero, Nat.zero_add, h3 _ (joinF_stops l)]
    rw [if_neg (by simp; omega), if_neg (by omega)]
    dsimp only
    refine ⟨i1, ?_⟩
    simp only [sameS, sameL, i3, Bool.and_true]
    simp [sameW, atT, i2]
theorem joinF_len : ∀ (l : List Tok), (∀ t ∈ l, goodW t) → (joinF l).length ≤ l.length * 20001
  | [], _ => by simp [joinF]
  | t :: l, h => by
    have := joinF_len l fun x hx => h x (List.mem_cons_of_mem _ hx)
    obtain ⟨_, _, _, h4, _⟩ := h t List.mem_cons_self
    rw [joinF_cons, List.length_cons, Nat.succ_mul]; omega
end Go.Proofs.Ytcmdlllcjpbbkaa.Sp
