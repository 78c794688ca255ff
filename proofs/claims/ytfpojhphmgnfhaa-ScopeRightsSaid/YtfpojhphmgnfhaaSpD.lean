/- Part of a proof of the seat's statements: no statement by itself. -/
import Derived.Test.YtfpojhphmgnfhaaSpC
namespace Go.Proofs.Ytfpojhphmgnfhaa.Sp
open Go.Proofs.Ytfpojhphmgnfhaa.Lg
/-! A term's text, read. -/
def stops (r : B) : Prop := r = [] ∨ ∃ q, r = 32 :: q
theorem all_mem {p : Int → Bool} {s : B} (h : allI p s = true) : ∀ b ∈ s, p (u b) = true := by
  simpa [allI] using h
theorem iri_no62 {x : B} (h : isIri x = true) : (62 : UInt8) ∉ x := by
  intro hm
  simp only [isIri, Bool.and_eq_true] at h
  have := all_mem h.2 62 hm
  exact absurd this (by decide)
theorem iriAt_text {x : B} (h : isIri x = true) (r : B) : iriAt (60 :: (x ++ 62 :: r)) = some (x, x.length + 2) := by
  have hi : Go.Lib.indexByte (60 :: (x ++ 62 :: r)) 62 = ((x.length + 1 : Nat) : Int) := by
    have := indexByte_append (s := 60 :: x) (c := 62) r (by simp; exact iri_no62 h)
    simpa using this
  unfold iriAt
  rw [hi, Int.toNat_natCast]
  have e : ((60 :: (x ++ 62 :: r)).take (x.length + 1)).drop 1 = x := by simp
  rw [e, if_pos ⟨rfl, by omega, h⟩]
theorem nameRun_append : ∀ (k : Nat) (a r : B), nameRun k a = a.length → (∀ b q, r = b :: q → nameI (u b) = false) → nameRun k (a ++ r) = a.length
  | 0, a, r, h, _ => by simpa [nameRun] using h
  | k + 1, [], r, _, hr => by
    cases r with
    | nil => simp [nameRun]
    | cons b q => simp [nameRun, hr b q rfl]
  | k + 1, b :: a, r, h, hr => by
    simp only [nameRun, List.length_cons] at h
    split at h
    · rename_i hb
      simp only [List.cons_append, nameRun, hb, if_true, List.length_cons]
      rw [nameRun_append k a r (by omega) hr]
    · omega
theorem named_append {a r : B} (h : isName a = true) (hr : ∀ b q, r = b :: q → nameI (u b) = false) : named (a ++ r) = a.length := by
  simp only [isName, Bool.and_eq_true, decide_eq_true_eq] at h
  cases a with
  | nil => simp at h
  | cons b a =>
    have h2 := h.2
    simp only [named, List.length_cons] at h2
    split at h2
    · rename_i hb
      simp only [List.cons_append, named, hb, if_true, List.length_cons]
      rw [nameRun_append 31 a r (by omega) hr]
    · omega
theorem stops_name {r : B} (h : stops r) : ∀ b q, r = b :: q → nameI (u b) = false := by
  rintro b q e
  rcases h with rfl | ⟨_, rfl⟩
  · cases e
  · cases e; decide
theorem isName_pos {a : B} (h : isName a = true) : 0 < a.length := by
  cases a with
  | nil => simp [isName] at h
  | cons _ _ => simp
theorem esc_app (a : B) (b : UInt8) : esc (b :: a) = escB b ++ esc a := rfl
theorem scan_esc : ∀ (a : B), allI textI a = true → ∀ q : B, scan (esc a ++ 34 :: q) = some (a, 34 :: q)
  | [], _, q => by
    show scan (34 :: q) = _
    conv => lhs; unfold scan
    rfl
  | b :: a, h, q => by
    simp only [allI, List.all_cons, Bool.and_eq_true] at h
    have ih := scan_esc a h.2 q
    rw [esc_app, List.append_assoc]
    unfold escB
    by_cases h1 : u b = 34
    · obtain rfl : b = 34 := u_inj h1
      rw [if_pos (.inl h1)]
      show scan (92 :: 34 :: (esc a ++ 34 :: q)) = _
      conv => lhs; unfold scan
      rw [if_neg (by decide), if_pos (by decide)]
      show Option.map _ (scan (esc a ++ 34 :: q)) = _
      rw [ih]; rfl
    by_cases h2 : u b = 92
    · obtain rfl : b = 92 := u_inj h2
      rw [if_pos (.inr h2)]
      show scan (92 :: 92 :: (esc a ++ 34 :: q)) = _
      conv => lhs; unfold scan
      rw [if_neg (by decide), if_pos (by decide)]
      show Option.map _ (scan (esc a ++ 34 :: q)) = _
      rw [ih]; rfl
    rw [if_neg (by rintro (z | z) <;> contradiction)]
    by_cases h3 : u b = 10
    · obtain rfl : b = 10 := u_inj h3
      rw [if_pos h3]
      show scan (92 :: 110 :: (esc a ++ 34 :: q)) = _
      conv => lhs; unfold scan
      rw [if_neg (by decide), if_pos (by decide)]
      show Option.map _ (scan (esc a ++ 34 :: q)) = _
      rw [ih]; rfl
    rw [if_neg h3]
    by_cases h4 : u b = 9
    · obtain rfl : b = 9 := u_inj h4
      rw [if_pos h4]
      show scan (92 :: 116 :: (esc a ++ 34 :: q)) = _
      conv => lhs; unfold scan
      rw [if_neg (by decide), if_pos (by decide)]
      show Option.map _ (scan (esc a ++ 34 :: q)) = _
      rw [ih]; rfl
    rw [if_neg h4]
    show scan (b :: (esc a ++ 34 :: q)) = _
    conv => lhs; unfold scan
    rw [if_neg h1, if_neg h2, if_neg (by rintro (z | z) <;> contradiction), ih]; rfl
theorem lowRun_append {l r : B} (h : allI lowI l = true) (hr : ∀ b q, r = b :: q → lowI (u b) = false) : lowRun (l ++ r) = l := by
  induction l with
  | nil =>
    cases r with
    | nil => rfl
    | cons b q => simp [lowRun, hr b q rfl]
  | cons b l ih =>
    simp only [allI, List.all_cons, Bool.and_eq_true] at h
    simp only [List.cons_append, lowRun, h.1, if_true]
    rw [ih h.2]
theorem literal_text {a t l r : B} (ha : isText a = true) (h : (t = [] ∨ (isIri t = true ∧ l = [])) ∧ (l = [] ∨ isLang l = true)) (hs : stops r) :
    literalS (quotedS a ++ ((if t.isEmpty then [] else [94, 94, 60] ++ t ++ [62]) ++ (if l.isEmpty then [] else 64 :: l)) ++ r) = (2, a, t, l, ((quotedS a ++ ((if t.isEmpty then [] else [94, 94, 60] ++ t ++ [62]) ++ (if l.isEmpty then [] else 64 :: l))).length : Int)) := by
  simp only [isText, Bool.and_eq_true, decide_eq_true_eq] at ha
  generalize hq : ((if t.isEmpty then [] else [94, 94, 60] ++ t ++ [62]) ++ (if l.isEmpty then [] else 64 :: l) : B) = q
  have e1 : quotedS a ++ q ++ r = 34 :: (esc a ++ 34 :: (q ++ r)) := by simp [quotedS]
  have hsc := scan_esc a ha.2 (q ++ r)
  rw [e1]
  unfold literalS
  rw [show List.drop 1 (34 :: (esc a ++ 34 :: (q ++ r))) = esc a ++ 34 :: (q ++ r) from rfl, hsc]
  have hit : isText a = true := by simp [isText, ha]
  simp only [hit, if_true]
  have el : (34 :: (esc a ++ 34 :: (q ++ r))).length - (q ++ r).length = (esc a).length + 2 := by simp; omega
  have ed : (34 :: (esc a ++ 34 :: (q ++ r))).drop ((esc a).length + 2) = q ++ r := by
    rw [show (esc a).length + 2 = ((esc a).length + 1) + 1 by omega, List.drop_succ_cons]
    rw [List.drop_append]
    simp
  rw [el]
  unfold behindS
  simp only [ed]
  have hql : ((quotedS a ++ q).length : Int) = (esc a).length + 2 + q.length := by simp [quotedS]; omega
  have hr2 : ∀ b z, r = b :: z → b = 32 := by
    rintro b z e
    rcases hs with rfl | ⟨_, rfl⟩
    · cases e
    · cases e; rfl
  rcases h.1 with ht | ⟨ht, hl⟩
  · subst ht
    rcases h.2 with hl | hl
    · subst hl
      simp at hq; subst hq
      have n1 : ¬ (r.take 2 = [94, 94]) := by
        rcases hs with rfl | ⟨z, rfl⟩
        · simp
        · cases z <;> simp
      have n2 : ¬ (r.head? = some 64 ∧ isLang (lowRun (r.drop 1)) = true) := by
        rcases hs with rfl | ⟨z, rfl⟩ <;> simp
      simp only [List.nil_append, if_neg n1, if_neg n2]
      simp [quotedS]; omega
    · have hle : l.isEmpty = false := by cases l <;> simp_all [isLang]
      simp [hle] at hq; subst hq
      simp only [isLang, Bool.and_eq_true] at hl
      have hlr : lowRun (l ++ r) = l := lowRun_append hl.2 (by
        rintro b z e; rw [hr2 b z e]; decide)
      have n1 : ¬ ((64 :: l ++ r).take 2 = [94, 94]) := by
        cases l <;> simp_all
      have hil : isLang l = true := by simp [isLang, hl]
      simp only [List.cons_append, List.drop_succ_cons, List.drop_zero, hlr, List.head?_cons, hil, and_self, if_true]
      rw [if_neg (by simp)]
      rw [hql]
      simp; omega
  · subst hl
    have hte : t.isEmpty = false := by cases t <;> simp_all [isIri]
    simp [hte] at hq; subst hq
    have hi := iriAt_text ht r
    simp only [List.cons_append, List.append_assoc, List.nil_append, List.take_succ_cons, List.take_zero, if_true, List.drop_succ_cons, List.drop_zero, hi]
    rw [hql]
    simp; omega
theorem prefix_text {k : Int} {a t l r : B} (h : right k a t l = true) (hk : k ≠ 0) (hs : stops r) : prefixS (textS k a t l ++ r) = (k, a, t, l, ((textS k a t l).length : Int)) := by
  unfold right at h
  rw [if_neg hk] at h
  by_cases h1 : k = 1
  · subst h1
    simp at h
    obtain ⟨⟨rfl, rfl⟩, hi⟩ := h
    have := iriAt_text hi r
    have e : textS 1 a [] [] = 60 :: (a ++ [62]) := rfl
    have e2 : (60 :: (a ++ [62])) ++ r = 60 :: (a ++ 62 :: r) := by simp
    rw [e, e2]
    show (match iriAt (60 :: (a ++ 62 :: r)) with | some (x, n) => (1, x, [], [], (n : Int)) | none => noTerm) = _
    rw [this]
    simp; omega
  rw [if_neg h1] at h
  by_cases h3 : k = 3 ∨ k = 4
  · rw [if_pos h3] at h
    simp at h
    obtain ⟨⟨rfl, rfl⟩, hn⟩ := h
    have hna := named_append hn (stops_name hs)
    have hp := isName_pos hn
    rcases h3 with rfl | rfl
    · show (if 0 < named (a ++ r) then ((3 : Int), (a ++ r).take (named (a ++ r)), ([] : B), ([] : B), ((named (a ++ r) + 2 : Nat) : Int)) else noTerm) = (3, a, [], [], ((a.length + 2 : Nat) : Int))
      rw [hna, if_pos hp]; simp
    · show (if 0 < named (a ++ r) then ((4 : Int), (a ++ r).take (named (a ++ r)), ([] : B), ([] : B), ((named (a ++ r) + 1 : Nat) : Int)) else noTerm) = (4, a, [], [], ((a.length + 1 : Nat) : Int))
      rw [hna, if_pos hp]; simp
  rw [if_neg h3] at h
  by_cases h2 : k = 2
  · rw [if_pos h2] at h
    subst h2
    simp only [Bool.and_eq_true, Bool.or_eq_true, List.isEmpty_iff] at h
    have hl := literal_text (r := r) h.1.1 ⟨h.1.2, h.2⟩ hs
    have e : textS 2 a t l = quotedS a ++ ((if t.isEmpty then [] else [94, 94, 60] ++ t ++ [62]) ++ (if l.isEmpty then [] else 64 :: l)) := by simp [textS]
    rw [e, ← hl]
    generalize ((if t.isEmpty then [] else [94, 94, 60] ++ t ++ [62]) ++ (if l.isEmpty then [] else 64 :: l) : B) = q
    simp only [quotedS, List.cons_append, prefixS]
    rw [if_neg (by decide), if_pos (by decide)]
  · rw [if_neg h2] at h; cases h
theorem read_text {k : Int} {a t l : B} (h : right k a t l = true) : readS (textS k a t l) = (k, a, t, l, 0) := by
  by_cases hk : k = 0
  · subst hk
    simp [right] at h
    obtain ⟨⟨rfl, rfl⟩, rfl⟩ := h
    rfl
  · have := prefix_text (r := []) h hk (.inl rfl)
    rw [List.append_nil] at this
    simp only [readS, this, if_true]
end Go.Proofs.Ytfpojhphmgnfhaa.Sp
namespace Go.Proofs.Ytfpojhphmgnfhaa.Sp
open Go.Proofs.Ytfpojhphmgnfhaa.Lg
theorem iriAt_take {s x : B} {n : Nat} (h : iriAt s = some (x, n)) : isIri x = true ∧ s.take n = 60 :: (x ++ [62]) ∧ n = x.length + 2 := by
  unfold iriAt at h
  split at h
  · rename_i hc
    obtain ⟨h1, h2, h3⟩ := hc
    simp at h
    obtain ⟨hx, hn⟩ := h
    have hsp := indexByte_split (s := s) (c := 62) (by omega)
    generalize hi : (Go.Lib.indexByte s 62).toNat = i at *
    cases s with
    | nil => simp at h1
    | cons b s =>
      simp at h1; subst h1
      cases i with
      | zero => omega
      | succ i =>
        simp only [List.take_succ_cons, List.drop_succ_cons, List.drop_zero] at hx h3 hsp
        rw [← List.drop_one, List.drop_succ_cons, List.drop_zero] at hx
        subst hx
        refine ⟨h3, ?_, ?_⟩
        · rw [← hn, List.take_succ_cons]
          congr 1
          have := hsp.1
          simp only [List.cons_append, List.cons.injEq, true_and] at this
          have hl : (s.take i).length = i := by
            have hle := indexByte_le (60 :: s) 62
            simp at hle
            rw [List.length_take]; omega
          conv => lhs; rw [this]
          rw [List.take_append, hl, List.take_of_length_le (by omega)]
          simp
        · rw [← hn]
          have hle := indexByte_le (60 :: s) 62
          simp at hle
          rw [List.length_take]; omega
  · cases h
theorem escB_of {c d : UInt8} (h : unesc c = some d) : escB d = [92, c] := by
  rcases unesc_some h with ⟨z, rfl⟩ | ⟨z, rfl⟩ | ⟨z, rfl⟩ | ⟨z, rfl⟩
  · obtain rfl : c = 34 := u_inj z; rfl
  · obtain rfl : c = 92 := u_inj z; rfl
  · obtain rfl : c = 110 := u_inj z; rfl
  · obtain rfl : c = 116 := u_inj z; rfl
theorem esc_unesc : ∀ (n : Nat) (r o : B), r.length ≤ n → unescS r = some o → esc o = r
  | 0, r, o, hn, h => by
    obtain rfl : r = [] := List.length_eq_zero_iff.1 (by omega)
    simp [unescS] at h; subst h; rfl
  | n + 1, [], o, _, h => by simp [unescS] at h; subst h; rfl
  | n + 1, b :: s, o, hn, h => by
    by_cases h1 : u b = 92
    · obtain rfl : b = 92 := u_inj h1
      cases s with
      | nil => simp [unescS, h1] at h
      | cons c r =>
        rw [unesc_e h1] at h
        cases hu : unesc c with
        | none => rw [hu] at h; cases h
        | some d =>
          rw [hu] at h
          cases hr : unescS r with
          | none => rw [hr] at h; cases h
          | some o' =>
            rw [hr] at h
            simp at h; subst h
            rw [esc_app, escB_of hu, esc_unesc n r o' (by simp at hn; omega) hr]; rfl
    · by_cases h2 : u b = 34 ∨ u b = 10 ∨ u b = 9
      · rw [unesc_bad s h1 h2] at h; cases h
      · rw [unesc_o s h1 h2] at h
        cases hr : unescS s with
        | none => rw [hr] at h; cases h
        | some o' =>
          rw [hr] at h
          simp at h; subst h
          simp only [not_or] at h2
          have : escB b = [b] := by
            unfold escB
            rw [if_neg (by rintro (z | z); exact h2.1 z; exact h1 z), if_neg h2.2.1, if_neg h2.2.2]
          rw [esc_app, this, esc_unesc n s o' (by simp at hn; omega) hr]; rfl
theorem run_quote : ∀ (n : Nat) (r : B), r.length ≤ n → ∀ h : run r < r.length, r[run r] = 34
  | 0, r, hn, h => by omega
  | n + 1, [], _, h => by simp at h
  | n + 1, b :: s, hn, h => by
    by_cases h1 : u b = 34
    · have e := run_q s h1
      obtain rfl : b = 34 := u_inj h1
      simp [e]
    · by_cases h2 : u b = 92
      · cases s with
        | nil => simp [run, h2] at h
        | cons c r =>
          have e : run (b :: c :: r) = run r + 2 := by simp [run, h2]
          have := run_quote n r (by simp at hn; omega) (by rw [e] at h; simp at h; omega)
          simp only [e]
          simpa using this
      · have e := run_o s h1 h2
        have := run_quote n s (by simp at hn; omega) (by rw [e] at h; simp at h; omega)
        simp only [e]
        simpa using this
theorem text_prefix {s a t l : B} {k n : Int} (h : prefixS s = (k, a, t, l, n)) (hn : n ≠ 0) : right k a t l = true ∧ textS k a t l = s.take n.toNat := by
  cases s with
  | nil => simp [prefixS, noTerm] at h; exact absurd h.2.2.2.2.symm hn
  | cons b r =>
    simp only [prefixS] at h
    split at h
    · rename_i hb
      obtain rfl : b = 60 := u_inj hb
      cases hi : iriAt (60 :: r) with
      | none => rw [hi] at h; simp [noTerm] at h; exact absurd h.2.2.2.2.symm hn
      | some p =>
        obtain ⟨x, m⟩ := p
        rw [hi] at h
        simp at h
        obtain ⟨rfl, rfl, rfl, rfl, rfl⟩ := h
        obtain ⟨q1, q2, q3⟩ := iriAt_take hi
        rw [Int.toNat_natCast, q2]
        exact ⟨by simp [right, q1], rfl⟩
    split at h
    · rename_i hb
      obtain rfl : b = 34 := u_inj hb
      rw [literalS_eq] at h
      split at h
      · rename_i hr
        cases hu : unescS (r.take (run r)) with
        | none => rw [hu] at h; simp [noTerm] at h; exact absurd h.2.2.2.2.symm hn
        | some o =>
          rw [hu] at h
          dsimp only at h
          split at h
          · rename_i ht
            have he := esc_unesc _ _ _ (Nat.le_refl _) hu
            have hq := run_quote _ r (Nat.le_refl _) hr
            have hd : (34 :: r).drop (run r + 2) = r.drop (run r + 1) := rfl
            have hsplit : 34 :: r = quotedS o ++ r.drop (run r + 1) := by
              simp only [quotedS, he, List.cons_append, List.append_assoc, List.nil_append]
              congr 1
              conv => lhs; rw [← List.take_append_drop (run r) r]
              congr 1
              rw [List.drop_eq_getElem_cons hr, hq]
            have hql : (quotedS o).length = run r + 2 := by
              simp only [quotedS, he, List.length_cons, List.length_append, List.length_take, List.length_nil]; omega
            have hit : isText o = true := ht
            unfold behindS at h
            simp only [hd] at h
            split at h
            · rename_i hc
              cases hi : iriAt ((r.drop (run r + 1)).drop 2) with
              | none =>
                rw [hi] at h
                simp at h
                obtain ⟨rfl, rfl, rfl, rfl, rfl⟩ := h
                refine ⟨by simp [right, hit], ?_⟩
                rw [show ((run r : Int) + 2).toNat = (quotedS o).length by rw [hql]; omega, hsplit]
                rw [List.take_left]; simp [textS]
              | some p =>
                obtain ⟨x, m⟩ := p
                rw [hi] at h
                simp at h
                obtain ⟨rfl, rfl, rfl, rfl, rfl⟩ := h
                obtain ⟨q1, q2, q3⟩ := iriAt_take hi
                have hx : x.isEmpty = false := by cases x <;> simp_all [isIri]
                refine ⟨by simp [right, hit, q1], ?_⟩
                rw [show ((run r : Int) + 2 + 2 + (m : Int)).toNat = (quotedS o).length + (2 + m) by rw [hql]; omega, hsplit]
                rw [List.take_length_add_append]
                simp only [textS, hx]
                simp
                rw [show 2 + m = m + 2 by omega]
                have : (r.drop (run r + 1)) = 94 :: 94 :: (r.drop (run r + 1)).drop 2 := by
                  match hz : r.drop (run r + 1), hc with
                  | x :: y :: z, hc => simp at hc; rw [hc.1, hc.2]; rfl
                  | [x], hc => simp at hc
                  | [], hc => simp at hc
                rw [this]
                simp only [List.take_succ_cons]
                rw [q2]
            · split at h
              · rename_i hc
                simp at h
                obtain ⟨rfl, rfl, rfl, rfl, rfl⟩ := h
                have hil := hc.2
                rw [List.drop_drop] at hil
                generalize hl : lowRun (r.drop (run r + 1 + 1)) = l at *
                have hlt := lowRun_take (r.drop (run r + 1 + 1))
                rw [hl] at hlt
                have hle : l.isEmpty = false := by cases l <;> simp_all [isLang]
                refine ⟨by simp [right, hit, hil], ?_⟩
                rw [show ((run r : Int) + 2 + 1 + (l.length : Int)).toNat = (quotedS o).length + (1 + l.length) by rw [hql]; omega, hsplit]
                rw [List.take_length_add_append]
                simp only [textS, hle]
                simp
                have : (r.drop (run r + 1)) = 64 :: r.drop (run r + 1 + 1) := by
                  have h0 := hc.1
                  cases hz : r.drop (run r + 1) with
                  | nil => rw [hz] at h0; simp at h0
                  | cons x z =>
                    rw [hz] at h0
                    simp at h0; subst h0
                    rw [← List.drop_drop, hz]; rfl
                rw [this, show 1 + l.length = l.length + 1 by omega, List.take_succ_cons, hlt]
              · simp at h
                obtain ⟨rfl, rfl, rfl, rfl, rfl⟩ := h
                refine ⟨by simp [right, hit], ?_⟩
                rw [show ((run r : Int) + 2).toNat = (quotedS o).length by rw [hql]; omega, hsplit]
                rw [List.take_left]; simp [textS]
          · simp [noTerm] at h; exact absurd h.2.2.2.2.symm hn
      · simp [noTerm] at h; exact absurd h.2.2.2.2.symm hn
    split at h
    · rename_i hb
      obtain rfl : b = 63 := u_inj hb
      split at h
      · rename_i hp
        simp at h
        obtain ⟨rfl, rfl, rfl, rfl, rfl⟩ := h
        have hle := named_le r
        have hnm : isName (r.take (named r)) = true := by
          unfold isName
          rw [named_take, List.length_take]
          have hne : (r.take (named r)).isEmpty = false := by
            cases r with
            | nil => simp [named] at hp
            | cons x z => obtain ⟨m, hm⟩ : ∃ m, named (x :: z) = m + 1 := ⟨named (x :: z) - 1, by omega⟩
                          rw [hm]; rfl
          rw [hne]; simp; omega
        refine ⟨by simp [right, hnm], ?_⟩
        rw [show ((named r : Int) + 1).toNat = named r + 1 by omega, List.take_succ_cons]; rfl
      · simp [noTerm] at h; exact absurd h.2.2.2.2.symm hn
    split at h
    · rename_i hb
      obtain rfl : b = 95 := u_inj hb.1
      cases r with
      | nil => simp at hb
      | cons c r =>
        have hc : c = 58 := by simpa using hb.2
        subst hc
        simp only [List.drop_succ_cons, List.drop_zero] at h
        split at h
        · rename_i hp
          simp at h
          obtain ⟨rfl, rfl, rfl, rfl, rfl⟩ := h
          have hle := named_le r
          have hnm : isName (r.take (named r)) = true := by
            unfold isName
            rw [named_take, List.length_take]
            have hne : (r.take (named r)).isEmpty = false := by
              cases r with
              | nil => simp [named] at hp
              | cons x z => obtain ⟨m, hm⟩ : ∃ m, named (x :: z) = m + 1 := ⟨named (x :: z) - 1, by omega⟩
                            rw [hm]; rfl
            rw [hne]; simp; omega
          refine ⟨by simp [right, hnm], ?_⟩
          rw [show ((named r : Int) + 2).toNat = named r + 1 + 1 by omega, List.take_succ_cons, List.take_succ_cons]; rfl
        · simp [noTerm] at h; exact absurd h.2.2.2.2.symm hn
    · simp [noTerm] at h; exact absurd h.2.2.2.2.symm hn
theorem text_read {s : B} (h : (readS s).2.2.2.2 = 0) : right (readS s).1 (readS s).2.1 (readS s).2.2.1 (readS s).2.2.2.1 = true ∧ textS (readS s).1 (readS s).2.1 (readS s).2.2.1 (readS s).2.2.2.1 = s := by
  unfold readS at h ⊢
  simp only at h ⊢
  by_cases q : (prefixS s).2.2.2.2 = (s.length : Int)
  · simp only [q, if_true]
    cases s with
    | nil => exact ⟨rfl, rfl⟩
    | cons b r =>
      have := text_prefix (s := b :: r) (k := (prefixS (b :: r)).1) (a := (prefixS (b :: r)).2.1) (t := (prefixS (b :: r)).2.2.1) (l := (prefixS (b :: r)).2.2.2.1) (n := (prefixS (b :: r)).2.2.2.2) rfl (by rw [q]; simp; omega)
      refine ⟨this.1, this.2.trans ?_⟩
      rw [q, Int.toNat_natCast, List.take_length]
  · simp [q] at h
end Go.Proofs.Ytfpojhphmgnfhaa.Sp
namespace Go.Proofs.Ytfpojhphmgnfhaa.Sp
open Go.Lib
theorem compare_range : ∀ a b : B, compareBytes a b = -1 ∨ compareBytes a b = 0 ∨ compareBytes a b = 1
  | [], [] => by simp [compareBytes]
  | [], _ :: _ => by simp [compareBytes]
  | _ :: _, [] => by simp [compareBytes]
  | a :: as, b :: bs => by
    have := compare_range as bs
    simp only [compareBytes]
    split
    · simp
    · split
      · simp
      · exact this
theorem compare_anti : ∀ a b : B, compareBytes b a = -compareBytes a b
  | [], [] => by simp [compareBytes]
  | [], _ :: _ => by simp [compareBytes]
  | _ :: _, [] => by simp [compareBytes]
  | a :: as, b :: bs => by
    have ih := compare_anti as bs
    have hl : ∀ x y : UInt8, (x < y) = (x.toNat < y.toNat) := fun x y => by rw [UInt8.lt_iff_toNat_lt]
    simp only [compareBytes, hl]
    by_cases h1 : a.toNat < b.toNat
    · rw [if_pos h1, if_neg (by omega), if_pos h1]; rfl
    · by_cases h2 : b.toNat < a.toNat
      · rw [if_pos h2, if_neg h1, if_pos h2]
      · rw [if_neg h2, if_neg h1, if_neg h1, if_neg h2, ih]
theorem compare_zero : ∀ a b : B, compareBytes a b = 0 ↔ a = b
  | [], [] => by simp [compareBytes]
  | [], _ :: _ => by simp [compareBytes]
  | _ :: _, [] => by simp [compareBytes]
  | a :: as, b :: bs => by
    have ih := compare_zero as bs
    have hl : ∀ x y : UInt8, (x < y) = (x.toNat < y.toNat) := fun x y => by rw [UInt8.lt_iff_toNat_lt]
    simp only [compareBytes, hl, List.cons.injEq]
    by_cases h1 : a.toNat < b.toNat
    · rw [if_pos h1]
      have : a ≠ b := by rintro rfl; omega
      simp [this]
    · by_cases h2 : b.toNat < a.toNat
      · rw [if_neg h1, if_pos h2]
        have : a ≠ b := by rintro rfl; omega
        simp [this]
      · rw [if_neg h1, if_neg h2, ih]
        have : a = b := UInt8.toNat_inj.1 (by omega)
        simp [this]
theorem compare_trans : ∀ a b c : B, compareBytes a b ≤ 0 → compareBytes b c ≤ 0 → compareBytes a c ≤ 0
  | [], _, [] => by simp [compareBytes]
  | [], _, _ :: _ => by simp [compareBytes]
  | _ :: _, [], _ => by simp [compareBytes]
  | _ :: _, _ :: _, [] => by simp [compareBytes]
  | a :: as, b :: bs, c :: cs => by
    have ih := compare_trans as bs cs
    have hl : ∀ x y : UInt8, (x < y) = (x.toNat < y.toNat) := fun x y => by rw [UInt8.lt_iff_toNat_lt]
    simp only [compareBytes, hl]
    intro h1 h2
    split at h1
    · split at h2
      · rw [if_pos (by omega)]; decide
      · split at h2
        · omega
        · rw [if_pos (by omega)]; decide
    · split at h1
      · omega
      · split at h2
        · rw [if_pos (by omega)]; decide
        · split at h2
          · omega
          · rw [if_neg (by omega), if_neg (by omega)]; exact ih h1 h2
theorem cmpT_range (a b : TR) : cmpT a b = -1 ∨ cmpT a b = 0 ∨ cmpT a b = 1 := by
  unfold cmpT
  repeat' split
  all_goals first | exact compare_range _ _ | simp
theorem cmpT_anti (a b : TR) : cmpT b a = -cmpT a b := by
  unfold cmpT
  rw [compare_anti a.2.1 b.2.1, compare_anti a.2.2.1 b.2.2.1, compare_anti a.2.2.2.1 b.2.2.2.1]
  by_cases h1 : a.1 < b.1
  · rw [if_neg (by omega), if_pos h1, if_pos h1]; rfl
  by_cases h2 : b.1 < a.1
  · rw [if_pos h2, if_neg h1, if_pos h2]
  rw [if_neg h2, if_neg h1, if_neg h1, if_neg h2]
  by_cases h3 : compareBytes a.2.1 b.2.1 = 0
  · by_cases h4 : compareBytes a.2.2.1 b.2.2.1 = 0
    · simp [h3, h4]
    · simp [h3, h4]
  · simp [h3]
theorem cmpT_zero (a b : TR) : cmpT a b = 0 ↔ a = b := by
  unfold cmpT
  obtain ⟨k, x, y, z, _⟩ := a
  obtain ⟨k', x', y', z', _⟩ := b
  simp only [Prod.mk.injEq, and_true]
  by_cases h1 : k < k'
  · rw [if_pos h1]; constructor
    · intro h; cases h
    · intro h; omega
  by_cases h2 : k' < k
  · rw [if_neg h1, if_pos h2]; constructor
    · intro h; cases h
    · intro h; omega
  rw [if_neg h1, if_neg h2]
  have hk : k = k' := by omega
  by_cases h3 : compareBytes x x' = 0
  · rw [if_neg (by simp [h3])]
    have e3 := (compare_zero _ _).1 h3
    by_cases h4 : compareBytes y y' = 0
    · rw [if_neg (by simp [h4])]
      have e4 := (compare_zero _ _).1 h4
      rw [compare_zero]
      simp [hk, e3, e4]
    · rw [if_pos h4]
      have : y ≠ y' := fun e => h4 ((compare_zero _ _).2 e)
      simp [h4, this]
  · rw [if_pos h3]
    have : x ≠ x' := fun e => h3 ((compare_zero _ _).2 e)
    simp [h3, this]
theorem cmpT_trans (a b c : TR) (h : cmpT a b ≤ 0) (k : cmpT b c ≤ 0) : cmpT a c ≤ 0 := by
  have hr := fun x y : B => compare_range x y
  have hz := fun x y : B => compare_zero x y
  have ht := fun x y z : B => compare_trans x y z
  unfold cmpT at *
  obtain ⟨k1, x1, y1, z1, _⟩ := a
  obtain ⟨k2, x2, y2, z2, _⟩ := b
  obtain ⟨k3, x3, y3, z3, _⟩ := c
  dsimp only at *
  by_cases a1 : k1 < k2
  · have : k2 ≤ k3 := by
      by_cases q : k3 < k2
      · rw [if_neg (by omega), if_pos q] at k; omega
      · omega
    rw [if_pos (by omega)]; decide
  rw [if_neg a1] at h
  by_cases a2 : k2 < k1
  · rw [if_pos a2] at h; omega
  rw [if_neg a2] at h
  obtain rfl : k1 = k2 := by omega
  by_cases a3 : k1 < k3
  · rw [if_pos a3]; decide
  rw [if_neg a3] at k ⊢
  by_cases a4 : k3 < k1
  · rw [if_pos a4] at k; omega
  rw [if_neg a4] at k ⊢
  -- texts
  have step : ∀ (p q r : B) (u v w : Int), (if compareBytes p q ≠ 0 then compareBytes p q else u) ≤ 0 → (if compareBytes q r ≠ 0 then compareBytes q r else v) ≤ 0 → (u ≤ 0 → v ≤ 0 → w ≤ 0) → (if compareBytes p r ≠ 0 then compareBytes p r else w) ≤ 0 := by
    intro p q r u v w h1 h2 h3
    by_cases e1 : compareBytes p q = 0
    · rw [if_neg (by simp [e1])] at h1
      obtain rfl := (hz _ _).1 e1
      by_cases e2 : compareBytes p r = 0
      · rw [if_neg (by simp [e2])] at h2 ⊢; exact h3 h1 h2
      · rw [if_pos e2] at h2 ⊢; exact h2
    · rw [if_pos e1] at h1
      by_cases e2 : compareBytes q r = 0
      · obtain rfl := (hz _ _).1 e2
        rw [if_pos e1]; exact h1
      · rw [if_pos e2] at h2
        have e3 := ht p q r h1 h2
        by_cases e4 : compareBytes p r = 0
        · obtain rfl := (hz _ _).1 e4
          have := compare_anti p q
          have := hr p q
          omega
        · rw [if_pos e4]; exact e3
  exact step _ _ _ _ _ _ h k fun h k => step _ _ _ _ _ _ h k fun h k => ht _ _ _ h k
end Go.Proofs.Ytfpojhphmgnfhaa.Sp
namespace Go.Proofs.Ytfpojhphmgnfhaa.Sp
open Go.Proofs.Ytfpojhphmgnfhaa.Lg
theorem isName_le {a : B} (h : isName a = true) : a.length ≤ 32 := by
  simp only [isName, Bool.and_eq_true, decide_eq_true_eq] at h
  have := named_le32 a; omega
theorem isIri_le {a : B} (h : isIri a = true) : a.length ≤ 4096 := by
  simp only [isIri, Bool.and_eq_true, decide_eq_true_eq] at h; omega
theorem isLang_le {a : B} (h : isLang a = true) : a.length ≤ 8 := by
  simp only [isLang, Bool.and_eq_true, decide_eq_true_eq] at h; omega
theorem right_le {k : Int} {a t l : B} (h : right k a t l = true) : a.length ≤ 4096 ∧ t.length ≤ 4096 ∧ l.length ≤ 8 := by
  unfold right at h
  split at h
  · simp at h; simp [h]
  split at h
  · simp at h; have := isIri_le h.2; simp [h]; omega
  split at h
  · simp at h; have := isName_le h.2; simp [h]; omega
  split at h
  · simp [isText] at h
    refine ⟨h.1.1.1, ?_, ?_⟩
    · rcases h.1.2 with q | q
      · simp [q]
      · exact isIri_le q.1
    · rcases h.2 with q | q
      · simp [q]
      · exact isLang_le q
  · cases h
theorem textS_le {k : Int} {a t l : B} (h : right k a t l = true) : (textS k a t l).length ≤ 20000 := by
  obtain ⟨h1, h2, h3⟩ := right_le h
  have he := esc_le a
  unfold textS
  repeat' split
  all_goals simp only [quotedS, List.length_cons, List.length_append, List.length_nil]
  all_goals omega
theorem okP_short {s : B} (h : s.length + 2 ≤ 140737488355328) : okP s := ⟨by simp only [Big]; omega, .inl h⟩
theorem okP_text {k : Int} {a t l : B} (h : right k a t l = true) : okP (textS k a t l) := okP_short (by have := textS_le h; omega)
theorem run_esc {a : B} (h : allI textI a = true) (q : B) : run (esc a ++ 34 :: q) = (esc a).length := by
  have h1 := scan_esc a h q
  have h2 := loopL_scan (esc a ++ 34 :: q) 0
  rw [h1] at h2
  have := h2.2.2.2.2
  rw [← this]; simp
theorem okP_goes {k : Int} {a t l : B} (h : right k a t l = true) (hk : k ≠ 0) {rest : B} (hr : rest.length ≤ 140737488351232) : okP (textS k a t l ++ 32 :: rest) := by
  have hl := textS_le h
  refine ⟨by simp [Big]; omega, .inr fun hh => ?_⟩
  unfold right at h
  rw [if_neg hk] at h
  by_cases h1 : k = 1
  · subst h1; simp [textS] at hh
  rw [if_neg h1] at h
  by_cases h3 : k = 3 ∨ k = 4
  · rcases h3 with rfl | rfl <;> simp [textS] at hh
  rw [if_neg h3] at h
  by_cases h2 : k = 2
  · subst h2
    rw [if_pos rfl] at h
    simp [isText] at h
    have e : textS 2 a t l ++ 32 :: rest = 34 :: (esc a ++ 34 :: (((if t.isEmpty then [] else [94, 94, 60] ++ t ++ [62]) ++ (if l.isEmpty then [] else 64 :: l)) ++ 32 :: rest)) := by simp [textS, quotedS]
    rw [e]
    rw [show List.drop 1 (34 :: (esc a ++ 34 :: (((if t.isEmpty then [] else [94, 94, 60] ++ t ++ [62]) ++ (if l.isEmpty then [] else 64 :: l)) ++ 32 :: rest))) = esc a ++ 34 :: (((if t.isEmpty then [] else [94, 94, 60] ++ t ++ [62]) ++ (if l.isEmpty then [] else 64 :: l)) ++ 32 :: rest) from rfl, run_esc h.1.1.2]
    have he := esc_le a
    refine ⟨by omega, fun hq => ?_⟩
    have d2 : ∀ q : B, (34 :: (esc a ++ 34 :: q)).drop ((esc a).length + 2) = q := by
      intro q
      rw [show (esc a).length + 2 = ((esc a).length + 1) + 1 by omega, List.drop_succ_cons, List.drop_append]
      simp
    have d4 : ∀ q : B, (34 :: (esc a ++ 34 :: q)).drop ((esc a).length + 4) = q.drop 2 := by
      intro q
      rw [← d2 q, List.drop_drop, d2 q]
    rw [d2] at hq
    rw [d4]
    by_cases ht : t = []
    · subst ht
      by_cases hl : l = []
      · subst hl; simp at hq
      · have : l.isEmpty = false := by cases l <;> simp_all
        simp [this] at hq
    · have : t.isEmpty = false := by cases t <;> simp_all
      simp [this]
  · rw [if_neg h2] at h; cases h
end Go.Proofs.Ytfpojhphmgnfhaa.Sp
