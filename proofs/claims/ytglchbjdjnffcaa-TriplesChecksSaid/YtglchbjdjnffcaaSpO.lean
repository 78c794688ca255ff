/- Part of a proof of the seat's statements: no statement by itself. -/
import Derived.Test.YtglchbjdjnffcaaSpL
set_option maxRecDepth 100000
namespace Go.Proofs.Ytglchbjdjnffcaa.Sp
open Go.Proofs.Ytglchbjdjnffcaa.Lg Go
open Go.Lib
/- Chapter 3: there and back. -/
theorem all_no10 {p : Int → Bool} {x : B} (h : allI p x = true) (hp : p 10 = false) : (10 : UInt8) ∉ x := by
  intro hm
  have := all_mem h 10 hm
  rw [show u 10 = 10 from rfl, hp] at this
  cases this
theorem esc_no10 : ∀ a : B, (10 : UInt8) ∉ esc a
  | [] => by simp [esc]
  | b :: s => by
    have := esc_no10 s
    simp only [esc, List.mem_append, not_or]
    refine ⟨?_, this⟩
    unfold escB
    split
    · rename_i h
      simp
      rintro rfl
      revert h; decide
    · split
      · decide
      · split
        · decide
        · rename_i h1 h2 _
          simp
          rintro rfl
          exact h2 rfl
theorem iri_no10 {a : B} (h : isIri a = true) : (10 : UInt8) ∉ a := by
  simp only [isIri, Bool.and_eq_true] at h
  exact all_no10 h.2 (by decide)
theorem name_no10 {a : B} (h : isName a = true) : (10 : UInt8) ∉ a := by
  rw [isName_eq, kindI3] at h
  simp only [Bool.and_eq_true] at h
  exact all_no10 h.1.2 (by decide)
theorem lang_no10 {a : B} (h : isLang a = true) : (10 : UInt8) ∉ a := by
  simp only [isLang, Bool.and_eq_true] at h
  exact all_no10 h.2 (by decide)
theorem text_no10 {k : Int} {a t l : B} (h : right k a t l = true) : (10 : UInt8) ∉ textS k a t l := by
  unfold right at h
  unfold textS
  by_cases h1 : k = 1
  · subst h1
    simp at h
    have := iri_no10 h.2
    simp [this]
  · by_cases h3 : k = 3
    · subst h3
      simp at h
      have := name_no10 h.2
      simp [this]
    · by_cases h4 : k = 4
      · subst h4
        simp at h
        have := name_no10 h.2
        simp [this]
      · by_cases h2 : k = 2
        · subst h2
          have h := (show (isText a && (t.isEmpty || isIri t && l.isEmpty) && (l.isEmpty || isLang l)) = true from h)
          simp only [Bool.and_eq_true, Bool.or_eq_true] at h
          obtain ⟨⟨_, ht⟩, hl⟩ := h
          rw [if_neg (by decide), if_neg (by decide), if_neg (by decide), if_pos rfl]
          simp only [quotedS, List.mem_append, List.mem_cons, not_or]
          refine ⟨⟨by decide, esc_no10 a, by decide, by simp⟩, ?_, ?_⟩
          · split
            · simp
            · rcases ht with ht | ht
              · contradiction
              · have := iri_no10 ht.1
                simp [this]
          · split
            · simp
            · rcases hl with hl | hl
              · contradiction
              · have := lang_no10 hl
                simp [this]
        · simp [h1, h3, h4, h2]
def body3 (t : T3) : B := textT (tS t) ++ 32 :: (textT (tP t) ++ 32 :: (textT (tO t) ++ [32, 46]))
theorem text3_body (t : T3) : text3 t = body3 t ++ [10] := by simp [text3, body3]
theorem body3_no10 {t : T3} (h : tri t = true) : (10 : UInt8) ∉ body3 t := by
  obtain ⟨⟨h1, h2⟩, h3⟩ := tri_all h
  have e1 := text_no10 h1
  have e2 := text_no10 h2
  have e3 := text_no10 h3
  simp only [body3, textT, tS, tP, tO, List.mem_append, List.mem_cons, not_or]
  exact ⟨e1, by decide, e2, by decide, e3, by decide, by decide, by simp⟩
theorem tri_kinds {t : T3} (h : tri t = true) : t.1 ≠ 0 ∧ t.2.2.2.2.1 ≠ 0 ∧ t.2.2.2.2.2.2.2.2.1 ≠ 0 := by
  simp only [tri, triK, Bool.and_eq_true, Bool.or_eq_true, decide_eq_true_eq] at h
  omega
theorem head3_text {k : Int} {a t l : B} (h : right k a t l = true) (hk : k ≠ 0) (r : B) : head3 (textS k a t l ++ 32 :: r) = some ((k, a, t, l, ()), r) := by
  have e := prefix_text h hk (r := 32 :: r) (.inr ⟨r, rfl⟩)
  have hpos : 0 < (textS k a t l).length := by
    rcases right_k h with q | q | q | q | q
    · exact absurd q hk
    all_goals subst q; simp [textS, quotedS]
  have key := head3_some (s := textS k a t l ++ 32 :: r) (by rw [e]; show ((textS k a t l).length : Int) ≠ 0; omega) (by rw [e]; show ((textS k a t l ++ 32 :: r).drop (((textS k a t l).length : Int)).toNat).take 1 = [32]; rw [Int.toNat_natCast, List.drop_left]; rfl)
  rw [key, e]
  show some (_, (textS k a t l ++ 32 :: r).drop ((((textS k a t l).length : Int)).toNat + 1)) = _
  rw [Int.toNat_natCast, ← List.drop_drop, List.drop_left]; rfl
theorem head3_of {s r : B} {a : TR} (h : head3 s = some (a, r)) : rightT a = true ∧ s = textT a ++ 32 :: r := by
  unfold head3 at h
  split at h
  · rename_i q
    simp only [Option.some.injEq, Prod.mk.injEq] at h
    obtain ⟨q1, q2⟩ := q
    obtain ⟨rfl, rfl⟩ := h
    have ht := text_prefix (s := s) (k := (prefixS s).1) (a := (prefixS s).2.1) (t := (prefixS s).2.2.1) (l := (prefixS s).2.2.2.1) (n := (prefixS s).2.2.2.2) rfl q1
    refine ⟨ht.1, ?_⟩
    have hd := List.take_append_drop (prefixS s).2.2.2.2.toNat s
    show s = textS _ _ _ _ ++ _
    rw [ht.2, ← List.drop_drop]
    generalize s.drop (prefixS s).2.2.2.2.toNat = r at *
    cases r with
    | nil => simp at q2
    | cons c r => simp at q2; subst q2; simpa using hd.symm
  · cases h
theorem mk3_parts (t : T3) : mk3 (tS t) (tP t) (tO t) = t := rfl
theorem lineS_body {t : T3} (h : tri t = true) : lineS (body3 t) = (t, true) := by
  obtain ⟨⟨h1, h2⟩, h3⟩ := tri_all h
  obtain ⟨k1, k2, k3⟩ := tri_kinds h
  have e1 : head3 (body3 t) = some (tS t, textT (tP t) ++ 32 :: (textT (tO t) ++ [32, 46])) := head3_text h1 k1 _
  have e2 : head3 (textT (tP t) ++ 32 :: (textT (tO t) ++ [32, 46])) = some (tP t, textT (tO t) ++ [32, 46]) := head3_text h2 k2 _
  have e3 : head3 (textT (tO t) ++ [32, 46]) = some (tO t, [46]) := head3_text h3 k3 _
  simp only [lineS, e1, e2, e3, mk3_parts, h, decide_true, Bool.and_true]
theorem lineS_of {s : B} (h : (lineS s).2 = true) : tri (lineS s).1 = true ∧ body3 (lineS s).1 = s := by
  unfold lineS at h ⊢
  cases h1 : head3 s with
  | none => rw [h1] at h; cases h
  | some p =>
    obtain ⟨a, s1⟩ := p
    rw [h1] at h
    simp only at h ⊢
    cases h2 : head3 s1 with
    | none => rw [h2] at h; cases h
    | some p =>
      obtain ⟨b, s2⟩ := p
      rw [h2] at h
      simp only at h ⊢
      cases h3 : head3 s2 with
      | none => rw [h3] at h; cases h
      | some p =>
        obtain ⟨c, s3⟩ := p
        rw [h3] at h
        simp only [Bool.and_eq_true, decide_eq_true_eq] at h ⊢
        refine ⟨h.2, ?_⟩
        obtain ⟨_, e1⟩ := head3_of h1
        obtain ⟨_, e2⟩ := head3_of h2
        obtain ⟨_, e3⟩ := head3_of h3
        rw [e1, e2, e3, h.1]; rfl
theorem readL_text {t : T3} (h : tri t = true) (s : B) : readL (text3 t ++ s) = (t :: (readL s).1, (readL s).2) := by
  have e : text3 t ++ s = body3 t ++ 10 :: s := by rw [text3_body]; simp
  rw [e, readL_eq, indexByte_append _ (body3_no10 h), if_neg (by omega), Int.toNat_natCast, List.take_left, lineS_body h, if_pos rfl]
  have e2 : (body3 t ++ 10 :: s).drop ((body3 t).length + 1) = s := by rw [← List.drop_drop, List.drop_left]; rfl
  rw [e2]
theorem readL_write : ∀ {l : List T3}, triL l = true → readL (writeT l) = (l, [], false)
  | [], _ => rfl
  | t :: l, h => by
    rw [triL_cons, Bool.and_eq_true] at h
    rw [writeT_cons, readL_text h.1, readL_write h.2]
theorem failL_write {l : List T3} (h : triL l = true) : failL (writeT l) = false := by
  unfold failL; rw [readL_write h]; rfl
theorem write_readL : ∀ (n : Nat) (s : B), s.length ≤ n → failL s = false → triL (readL s).1 = true ∧ writeT (readL s).1 = s
  | 0, s, h, _ => by
    have : s = [] := List.length_eq_zero_iff.1 (by omega)
    subst this; exact ⟨rfl, rfl⟩
  | n + 1, s, h, k => by
    rw [failL_eq] at k
    by_cases q : s = []
    · subst q; exact ⟨rfl, rfl⟩
    · rw [if_neg q] at k
      by_cases q2 : indexByte s 10 < 0
      · rw [if_pos q2] at k; cases k
      · rw [if_neg q2] at k
        rw [readL_fst, if_neg q2]
        by_cases q3 : (lineS (s.take (indexByte s 10).toNat)).2 = true
        · rw [if_pos q3] at k ⊢
          have hl : 0 < s.length := by cases s with | nil => exact absurd rfl q | cons _ _ => simp
          obtain ⟨i1, i2⟩ := write_readL n (s.drop ((indexByte s 10).toNat + 1)) (by simp; omega) k
          obtain ⟨j1, j2⟩ := lineS_of q3
          refine ⟨by rw [triL_cons, j1, i1]; rfl, ?_⟩
          rw [writeT_cons, i2, text3_body, j2]
          have := indexByte_split (s := s) (c := 10) (by omega)
          have := this.1.symm
          simpa using this
        · rw [if_neg q3] at k; cases k
theorem write_read {s : B} (h : failL s = false) : triL (readL s).1 = true ∧ writeT (readL s).1 = s := write_readL _ s (Nat.le_refl _) h
theorem triL_append {a b : List T3} (h : triL a = true) (k : triL b = true) : triL (a ++ b) = true := by unfold triL at *; rw [List.all_append, h, k]; rfl
theorem writeT_append (a b : List T3) : writeT (a ++ b) = writeT a ++ writeT b := by simp [writeT]
theorem read_join {a b : B} (h : failL a = false) (k : failL b = false) : failL (a ++ b) = false ∧ (readL (a ++ b)).1 = (readL a).1 ++ (readL b).1 := by
  obtain ⟨a1, a2⟩ := write_read h
  obtain ⟨b1, b2⟩ := write_read k
  have e : a ++ b = writeT ((readL a).1 ++ (readL b).1) := by rw [writeT_append, a2, b2]
  have t := triL_append a1 b1
  generalize (readL a).1 ++ (readL b).1 = l at *
  rw [e]
  exact ⟨failL_write t, by rw [readL_write t]⟩
theorem tri_sz {t : T3} (h : tri t = true) : sz3 140737488355328 t := by
  obtain ⟨⟨a1, a2⟩, a3⟩ := tri_all h
  have b1 := right_le a1
  have b2 := right_le a2
  have b3 := right_le a3
  exact ⟨⟨by omega, by omega, by omega⟩, ⟨by omega, by omega, by omega⟩, by omega, by omega, by omega⟩
theorem triL_sz {l : List T3} (h : triL l = true) : szL l := fun t ht => tri_sz (List.all_eq_true.1 h t ht)
theorem same3_refl (a : List T3) : same3 a a = true := (same3_iff a a).2 rfl
end Go.Proofs.Ytglchbjdjnffcaa.Sp
