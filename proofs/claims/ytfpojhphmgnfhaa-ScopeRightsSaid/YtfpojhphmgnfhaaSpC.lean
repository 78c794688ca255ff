/- Part of a proof of the seat's statements: no statement by itself. -/
import Derived.Test.YtfpojhphmgnfhaaSpB
namespace Go.Proofs.Ytfpojhphmgnfhaa.Sp
open Go.Proofs.Ytfpojhphmgnfhaa.Lg
theorem escB_le (b : UInt8) : (escB b).length ≤ 2 := by
  unfold escB
  split
  · simp
  · split
    · simp
    · split <;> simp
theorem escB_eq (b : UInt8) : escB b = if (b.toNat : Int) = 34 then [92, 34] else if (b.toNat : Int) = 92 then [92, 92] else if (b.toNat : Int) = 10 then [92, 110] else if (b.toNat : Int) = 9 then [92, 116] else [b] := by
  unfold escB
  by_cases h1 : u b = 34
  · have hb : b = 34 := u_inj (by rw [h1]; rfl)
    subst hb; rfl
  · by_cases h2 : u b = 92
    · have hb : b = 92 := u_inj (by rw [h2]; rfl)
      subst hb; rfl
    · rw [if_neg (by rintro (h | h) <;> contradiction), if_neg (c := (b.toNat : Int) = 34) h1, if_neg (c := (b.toNat : Int) = 92) h2]
      rfl
theorem take_drop_one {α : Type} {l : List α} {m : Nat} {b : α} (h : l[m]? = some b) : (l.take (m + 1)).drop m = [b] := by
  rw [List.drop_take, Nat.add_sub_cancel_left]
  obtain ⟨hm, he⟩ := List.getElem?_eq_some_iff.1 h
  rw [List.drop_eq_getElem_cons hm, he]; rfl
/-- The text of escapes. -/
def unescS : B → Option B
  | [] => some []
  | b :: s => if u b = 92 then (match s with | [] => none | c :: r => match unesc c with | some d => (unescS r).map (d :: ·) | none => none)
    else if u b = 34 ∨ u b = 10 ∨ u b = 9 then none else (unescS s).map (b :: ·)
theorem scan_unesc : ∀ (n : Nat) (r : B), r.length ≤ n → scan r = (unescS (r.take (run r))).map fun o => (o, r.drop (run r))
  | 0, r, h => by
    obtain rfl : r = [] := List.length_eq_zero_iff.1 (by omega)
    simp [scan, unescS, run]
  | n + 1, [], _ => by simp [scan, unescS, run]
  | n + 1, b :: s, h => by
    by_cases h1 : u b = 34
    · have er : run (b :: s) = 0 := by conv => lhs; unfold run
                                       simp [h1]
      have e1 : scan (b :: s) = some ([], b :: s) := by conv => lhs; unfold scan
                                                        simp [h1]
      rw [er, e1]; rfl
    by_cases h2 : u b = 92
    · cases s with
      | nil => simp [scan, run, unescS, h2]
      | cons c r =>
        have ih := scan_unesc n r (by simp at h; omega)
        have er : run (b :: c :: r) = run r + 2 := by simp [run, h2]
        rw [er]
        simp only [scan, h2, (show ¬ ((92 : Int) = 34) by decide), if_false, if_true, List.take_succ_cons, List.drop_succ_cons, unescS]
        cases hu : unesc c with
        | none => simp
        | some d => rw [ih]; simp [Option.map_map, Function.comp_def]
    by_cases h3 : u b = 10 ∨ u b = 9
    · have er : run (b :: s) = run s + 1 := by conv => lhs; unfold run
                                               simp [h1, h2]
      rw [er]
      have e1 : scan (b :: s) = none := by conv => lhs; unfold scan
                                           simp [h1, h2, h3]
      rw [e1, List.take_succ_cons]
      conv => rhs; unfold unescS
      simp [h2, h3]
    · have ih := scan_unesc n s (by simp at h; omega)
      have er : run (b :: s) = run s + 1 := by conv => lhs; unfold run
                                               simp [h1, h2]
      have e1 : scan (b :: s) = (scan s).map fun x => (b :: x.1, x.2) := by conv => lhs; unfold scan
                                                                            simp [h1, h2, h3]
      rw [er, e1, ih, List.take_succ_cons, List.drop_succ_cons]
      have h4 : ¬ (u b = 34 ∨ u b = 10 ∨ u b = 9) := by rintro (q | q | q) <;> simp_all
      have e2 : unescS (b :: s.take (run s)) = (unescS (s.take (run s))).map (b :: ·) := by conv => lhs; unfold unescS
                                                                                            simp [h2, h4]
      rw [e2]; simp [Option.map_map, Function.comp_def]
theorem literalS_eq (b : UInt8) (r : B) : literalS (b :: r) = if run r < r.length then (match unescS (r.take (run r)) with | some o => if isText o then behindS 2 o [] [] (b :: r) (run r + 2) else noTerm | none => noTerm) else noTerm := by
  have hs := scan_unesc r.length r (Nat.le_refl _)
  have hl := loopL_scan r 1
  unfold literalS
  rw [show (b :: r).drop 1 = r from rfl, hs] at *
  cases hu : unescS (r.take (run r)) with
  | none => simp
  | some o =>
    simp only [Option.map_some]
    by_cases hr : run r < r.length
    · rw [if_pos hr, List.drop_eq_getElem_cons hr]
      simp only [List.length_cons, List.length_drop]
      rw [show r.length + 1 - (r.length - (run r + 1)) = run r + 2 by omega]
    · rw [if_neg hr, List.drop_of_length_le (by omega)]
theorem nameRun_take : ∀ (k m : Nat) (s : B), nameRun k (s.take m) = min m (nameRun k s)
  | 0, m, s => by simp [nameRun]
  | k + 1, 0, s => by simp [nameRun]
  | k + 1, m + 1, [] => by simp [nameRun]
  | k + 1, m + 1, b :: s => by
    simp only [List.take_succ_cons, nameRun]
    split
    · rw [nameRun_take k m s]; omega
    · simp
theorem named_take (m : Nat) (s : B) : named (s.take m) = min m (named s) := by
  cases s with
  | nil => simp [named]
  | cons b s =>
    cases m with
    | zero => simp [named]
    | succ m =>
      simp only [List.take_succ_cons, named]
      split
      · rw [nameRun_take]; omega
      · simp
theorem isName_take {s : B} {n : Nat} (h : n < s.length) : isName (s.take (n + 1)) = decide (n + 1 ≤ named s) := by
  unfold isName
  rw [named_take]
  have : (s.take (n + 1)).length = n + 1 := by simp; omega
  rw [this, Bool.eq_iff_iff]
  have h2 : (s.take (n + 1)).isEmpty = false := by cases hq : s.take (n + 1) <;> simp_all
  simp [h2]; omega
theorem named_le32 (s : B) : named s ≤ 32 := by
  have : ∀ k s, nameRun k s ≤ k := by
    intro k
    induction k with
    | zero => intro s; simp [nameRun]
    | succ k ih =>
      intro s
      cases s with
      | nil => simp [nameRun]
      | cons b s => simp only [nameRun]; split; have := ih s; omega; omega
  cases s with
  | nil => simp [named]
  | cons b s => simp only [named]; split; have := this 31 s; omega; omega

/-! Places of bytes -/
theorem indexByte_neg {s : B} {c : UInt8} : Go.Lib.indexByte s c < 0 ↔ c ∉ s := by
  induction s with
  | nil => simp [Go.Lib.indexByte]
  | cons b s ih =>
    have := Go.Lib.indexByte_ge s c
    simp only [Go.Lib.indexByte]
    by_cases h : b = c
    · subst h; simp
    · have hb : (b == c) = false := by simp [h]
      rw [hb]
      simp only [Bool.false_eq_true, if_false, List.mem_cons, not_or, Ne.symm h, not_false_eq_true, true_and, ← ih]
      split
      · rename_i q; simp at q; omega
      · rename_i q; simp at q; omega
theorem indexByte_append {s : B} {c : UInt8} (r : B) (h : c ∉ s) : Go.Lib.indexByte (s ++ c :: r) c = s.length := by
  induction s with
  | nil => simp [Go.Lib.indexByte]
  | cons b s ih =>
    simp only [List.mem_cons, not_or] at h
    have hb : (b == c) = false := by simp [Ne.symm h.1]
    simp only [List.cons_append, Go.Lib.indexByte, hb, ih h.2]
    simp
theorem indexByte_split {s : B} {c : UInt8} (h : 0 ≤ Go.Lib.indexByte s c) : s = s.take (Go.Lib.indexByte s c).toNat ++ c :: s.drop ((Go.Lib.indexByte s c).toNat + 1) ∧ c ∉ s.take (Go.Lib.indexByte s c).toNat := by
  induction s with
  | nil => simp [Go.Lib.indexByte] at h
  | cons b s ih =>
    have hg := Go.Lib.indexByte_ge s c
    simp only [Go.Lib.indexByte] at h ⊢
    by_cases hb : b = c
    · subst hb; simp
    · have hb' : (b == c) = false := by simp [hb]
      rw [hb'] at h ⊢
      simp only [Bool.false_eq_true, if_false] at h ⊢
      split at h
      · omega
      · rename_i q
        have q' : ¬ Go.Lib.indexByte s c = -1 := by simpa using q
        rw [if_neg q]
        obtain ⟨i1, i2⟩ := ih (by omega)
        have e : (Go.Lib.indexByte s c + 1).toNat = (Go.Lib.indexByte s c).toNat + 1 := by omega
        rw [e, List.take_succ_cons, List.drop_succ_cons]
        refine ⟨?_, ?_⟩
        · rw [List.cons_append, ← i1]
        · simp only [List.mem_cons, not_or]; exact ⟨Ne.symm hb, i2⟩

/-! Which of two texts is ahead -/
def diffB : B → B → Int
  | a :: as, b :: bs => if a < b then -1 else if b < a then 1 else diffB as bs
  | _, _ => 0
theorem compare_diff : ∀ a b : B, Go.Lib.compareBytes a b = if diffB a b = 0 then (if a.length < b.length then -1 else if a.length > b.length then 1 else 0) else diffB a b
  | [], [] => by simp [Go.Lib.compareBytes, diffB]
  | [], _ :: _ => by simp [Go.Lib.compareBytes, diffB]
  | _ :: _, [] => by simp [Go.Lib.compareBytes, diffB]
  | a :: as, b :: bs => by
    have := compare_diff as bs
    simp only [Go.Lib.compareBytes, diffB]
    split
    · simp
    · split
      · simp
      · rw [this]; simp
abbrev TR := Int × B × B × B × Unit
def rightT (t : TR) : Bool := right t.1 t.2.1 t.2.2.1 t.2.2.2.1
def textT (t : TR) : B := textS t.1 t.2.1 t.2.2.1 t.2.2.2.1
/-- Which of two terms is ahead. -/
def cmpT (a b : TR) : Int :=
  if a.1 < b.1 then -1 else if b.1 < a.1 then 1
  else if Go.Lib.compareBytes a.2.1 b.2.1 ≠ 0 then Go.Lib.compareBytes a.2.1 b.2.1
  else if Go.Lib.compareBytes a.2.2.1 b.2.2.1 ≠ 0 then Go.Lib.compareBytes a.2.2.1 b.2.2.1
  else Go.Lib.compareBytes a.2.2.2.1 b.2.2.2.1
end Go.Proofs.Ytfpojhphmgnfhaa.Sp
namespace Go.Proofs.Ytfpojhphmgnfhaa.Sp
open Go.Proofs.Ytfpojhphmgnfhaa.Lg
theorem byteAt_u {s : B} {n : Nat} {b : UInt8} (h : s[n]? = some b) : byteAt s (n : Int) = u b := by simp [byteAt, h, u]
theorem run_q {b : UInt8} (s : B) (h : u b = 34) : run (b :: s) = 0 := by unfold run; simp [h]
theorem run_o {b : UInt8} (s : B) (h : ¬ u b = 34) (k : ¬ u b = 92) : run (b :: s) = run s + 1 := by
  conv => lhs; unfold run
  simp [h, k]
theorem u_ge (b : UInt8) : 0 ≤ u b := by unfold u; omega
theorem u_lt (b : UInt8) : u b < 256 := by
  have := b.toNat_lt
  unfold u; omega
end Go.Proofs.Ytfpojhphmgnfhaa.Sp
namespace Go.Proofs.Ytfpojhphmgnfhaa.Sp
theorem u_toU8' (b : UInt8) : ((b.toNat : Nat) : Int).toNat.toUInt8 = b := by simp
end Go.Proofs.Ytfpojhphmgnfhaa.Sp
namespace Go.Proofs.Ytfpojhphmgnfhaa.Sp
theorem unesc_e {b c : UInt8} {s : B} (h : u b = 92) : unescS (b :: c :: s) = match unesc c with | some d => (unescS s).map (d :: ·) | none => none := by simp only [unescS, h, if_true]
theorem unesc_bad {b : UInt8} (s : B) (h : ¬ u b = 92) (k : u b = 34 ∨ u b = 10 ∨ u b = 9) : unescS (b :: s) = none := by
  conv => lhs; unfold unescS
  simp [h, k]
theorem unesc_o {b : UInt8} (s : B) (h : ¬ u b = 92) (k : ¬ (u b = 34 ∨ u b = 10 ∨ u b = 9)) : unescS (b :: s) = (unescS s).map (b :: ·) := by
  conv => lhs; unfold unescS
  simp [h, k]
theorem unesc_none {c : UInt8} (h : unesc c = none) : ¬ u c = 34 ∧ ¬ u c = 92 ∧ ¬ u c = 110 ∧ ¬ u c = 116 := by
  unfold unesc at h
  refine ⟨?_, ?_, ?_, ?_⟩ <;> intro q <;> simp [q] at h
theorem unesc_some {c d : UInt8} (h : unesc c = some d) : (u c = 34 ∧ d = 34) ∨ (u c = 92 ∧ d = 92) ∨ (u c = 110 ∧ d = 10) ∨ (u c = 116 ∧ d = 9) := by
  unfold unesc at h
  by_cases h1 : u c = 34
  · simp [h1] at h; exact .inl ⟨h1, h.symm⟩
  by_cases h2 : u c = 92
  · simp [h2] at h; exact .inr (.inl ⟨h2, h.symm⟩)
  by_cases h3 : u c = 110
  · simp [h3] at h; exact .inr (.inr (.inl ⟨h3, h.symm⟩))
  by_cases h4 : u c = 116
  · simp [h4] at h; exact .inr (.inr (.inr ⟨h4, h.symm⟩))
  simp [h1, h2, h3, h4] at h
end Go.Proofs.Ytfpojhphmgnfhaa.Sp
namespace Go.Proofs.Ytfpojhphmgnfhaa.Sp
open Go.Proofs.Ytfpojhphmgnfhaa.Lg
theorem lowRun_len (s : B) : (lowRun s).length ≤ s.length := by
  induction s with
  | nil => simp [lowRun]
  | cons b s ih => simp only [lowRun]; split <;> simp; omega
theorem indexByte_skip {s : B} {b c : UInt8} (h : ¬ b = c) : Go.Lib.indexByte (b :: s) c = if Go.Lib.indexByte s c = -1 then -1 else Go.Lib.indexByte s c + 1 := by
  have hb : (b == c) = false := by simp [h]
  simp [Go.Lib.indexByte, hb]
/-- What the document's 'typed' finds: as behindS does. -/
theorem behind_iri (a : B) (r : B) : behindS 2 a [] [] (94 :: 94 :: 60 :: r) 0 = if 0 < Go.Lib.indexByte (94 :: 94 :: 60 :: r) 62 ∧ isIri (((94 :: 94 :: 60 :: r).take (Go.Lib.indexByte (94 :: 94 :: 60 :: r) 62).toNat).drop 3) then (2, a, ((94 :: 94 :: 60 :: r).take (Go.Lib.indexByte (94 :: 94 :: 60 :: r) 62).toNat).drop 3, [], Go.Lib.indexByte (94 :: 94 :: 60 :: r) 62 + 1) else (2, a, [], [], 0) := by
  have hg := Go.Lib.indexByte_ge r 62
  have e1 : Go.Lib.indexByte (60 :: r) 62 = if Go.Lib.indexByte r 62 = -1 then -1 else Go.Lib.indexByte r 62 + 1 := indexByte_skip (by decide)
  have e2 : Go.Lib.indexByte (94 :: 94 :: 60 :: r) 62 = if Go.Lib.indexByte r 62 = -1 then -1 else Go.Lib.indexByte r 62 + 3 := by
    rw [indexByte_skip (by decide), indexByte_skip (by decide), e1]
    by_cases h : Go.Lib.indexByte r 62 = -1
    · simp [h]
    · rw [if_neg h, if_neg h, if_neg (by omega), if_neg (by omega)]; omega
  rw [e2]
  unfold behindS
  simp only [List.drop_zero, List.take_succ_cons, List.take_zero, if_true, List.drop_succ_cons, iriAt, List.head?_cons, e1]
  by_cases h : Go.Lib.indexByte r 62 = -1
  · simp [h]
  · rw [if_neg h, if_neg h]
    have t1 : (Go.Lib.indexByte r 62 + 1).toNat = (Go.Lib.indexByte r 62).toNat + 1 := by omega
    have t2 : (Go.Lib.indexByte r 62 + 3).toNat = (Go.Lib.indexByte r 62).toNat + 3 := by omega
    rw [t1, t2]
    simp only [List.take_succ_cons, List.drop_succ_cons, List.drop_zero, true_and, show (0 < Go.Lib.indexByte r 62 + 1) = True by simp; omega, show (0 < Go.Lib.indexByte r 62 + 3) = True by simp; omega]
    by_cases q : isIri (r.take (Go.Lib.indexByte r 62).toNat) = true
    · simp only [q, if_true]
      congr 4
      omega
    · simp [q]
theorem behind_other (a : B) (r : B) (h : ¬ r.take 3 = [94, 94, 60]) : behindS 2 a [] [] r 0 = if r.head? = some 64 ∧ isLang (lowRun (r.drop 1)) then (2, a, [], lowRun (r.drop 1), ((1 + (lowRun (r.drop 1)).length : Nat) : Int)) else (2, a, [], [], 0) := by
  unfold behindS
  simp only [List.drop_zero]
  by_cases q : r.take 2 = [94, 94]
  · match r, q, h with
    | b :: c :: r', q, h =>
      simp at q
      obtain ⟨rfl, rfl⟩ := q
      have hi : iriAt r' = none := by
        unfold iriAt
        rw [if_neg]
        rintro ⟨hh, _⟩
        cases r' with
        | nil => simp at hh
        | cons d r'' => simp at hh; subst hh; simp at h
      simp [hi]
    | [b], q, _ => simp at q
    | [], q, _ => simp at q
  · rw [if_neg q]; simp
end Go.Proofs.Ytfpojhphmgnfhaa.Sp
namespace Go.Proofs.Ytfpojhphmgnfhaa.Sp
open Go.Proofs.Ytfpojhphmgnfhaa.Lg
theorem behindS_shift (k : Int) (a t l s : B) (i : Nat) : behindS k a t l s i = ((behindS k a t l (s.drop i) 0).1, (behindS k a t l (s.drop i) 0).2.1, (behindS k a t l (s.drop i) 0).2.2.1, (behindS k a t l (s.drop i) 0).2.2.2.1, (behindS k a t l (s.drop i) 0).2.2.2.2 + i) := by
  unfold behindS
  simp only [List.drop_zero]
  by_cases q : (s.drop i).take 2 = [94, 94]
  · rw [if_pos q, if_pos q]
    cases iriAt ((s.drop i).drop 2) with
    | none => simp
    | some p => simp; omega
  · rw [if_neg q, if_neg q]
    by_cases z : (s.drop i).head? = some 64 ∧ isLang (lowRun ((s.drop i).drop 1))
    · rw [if_pos z, if_pos z]; simp; omega
    · rw [if_neg z, if_neg z]; simp
theorem behindS_le (k : Int) (a t l s : B) (i : Nat) (h : i ≤ s.length) : (i : Int) ≤ (behindS k a t l s i).2.2.2.2 ∧ (behindS k a t l s i).2.2.2.2 ≤ s.length := by
  unfold behindS
  simp only
  split
  · split
    · rename_i hi; have := iriAt_le hi; rw [List.length_drop, List.length_drop] at this
      rename_i hq _ _ _
      have : 2 ≤ (s.drop i).length := by
        have := congrArg List.length hq; rw [List.length_take] at this; simp at this ⊢; omega
      rw [List.length_drop] at this
      constructor
      · simp; omega
      · simp; omega
    · exact ⟨by simp, by simp; omega⟩
  · split
    · rename_i hq
      have h1 := lowRun_len ((s.drop i).drop 1)
      rw [List.length_drop, List.length_drop] at h1
      have : 0 < (s.drop i).length := by cases hs : s.drop i <;> simp_all
      rw [List.length_drop] at this
      refine ⟨?_, ?_⟩
      · show (i : Int) ≤ ((i + 1 + (lowRun ((s.drop i).drop 1)).length : Nat) : Int); omega
      · show ((i + 1 + (lowRun ((s.drop i).drop 1)).length : Nat) : Int) ≤ _; omega
    · exact ⟨by simp, by simp; omega⟩
end Go.Proofs.Ytfpojhphmgnfhaa.Sp
namespace Go.Proofs.Ytfpojhphmgnfhaa.Sp
theorem prefixS_one (b : UInt8) : prefixS [b] = noTerm := by
  by_cases h1 : u b = 60
  · obtain rfl : b = 60 := u_inj h1
    rfl
  by_cases h2 : u b = 34
  · obtain rfl : b = 34 := u_inj h2
    rfl
  by_cases h3 : u b = 63
  · obtain rfl : b = 63 := u_inj h3
    rfl
  by_cases h4 : u b = 95
  · obtain rfl : b = 95 := u_inj h4
    rfl
  simp only [prefixS, h1, h2, h3, h4, if_false, false_and]
end Go.Proofs.Ytfpojhphmgnfhaa.Sp
