/- Chapter 5 (words): plain functions. -/
import Derived.Test.YtgcjhcefpkbheaaSpA
import Derived.Test.YtgcjhcefpkbheaaLgF
section
namespace Go.Proofs.Ytgcjhcefpkbheaa.Sp
open Go.Proofs.Ytgcjhcefpkbheaa.Lg
def spaceI (c : Int) : Bool := decide (c = 32) || decide (c = 9) || decide (c = 10)
/-- How many bytes at the beginning are such ones. -/
def many (p : Int → Bool) : B → Nat
  | [] => 0
  | b :: s => if p (u b) then many p s + 1 else 0
theorem many_le (p : Int → Bool) (s : B) : many p s ≤ s.length := by
  induction s with
  | nil => simp [many]
  | cons b s ih => simp only [many]; split <;> simp; omega
def runI (k : Int) : Int → Bool := if k = 1 then spaceI else if k = 2 then letterI else digitI
/-- A word: its kind, its text, a term, its place. -/
abbrev Tok := Int × B × Int × B × B × B × Int × Unit
def decimalT : B := [104, 116, 116, 112, 58, 47, 47, 119, 119, 119, 46, 119, 51, 46, 111, 114, 103, 47, 50, 48, 48, 49, 47, 88, 77, 76, 83, 99, 104, 101, 109, 97, 35, 100, 101, 99, 105, 109, 97, 108]
def signs1 : B := [123, 125, 40, 41, 46, 44, 42, 43, 45, 47, 61, 60, 62, 33]
def two (s : B) : Bool := s.take 2 == [60, 61] || s.take 2 == [62, 61] || s.take 2 == [33, 61] || s.take 2 == [38, 38] || s.take 2 == [124, 124]
def signS (s : B) : B := if two s then s.take 2 else match s with | [] => [] | b :: _ => if isIn (u b) signs1 then [b] else []
def numS (s : B) : Tok × Nat :=
  let n := many digitI s
  if (s.drop n).head? = some 46 ∧ 0 < many digitI (s.drop (n + 1)) then
    ((3, [], 2, s.take (n + 1 + many digitI (s.drop (n + 1))), decimalT, [], 0, ()), n + 1 + many digitI (s.drop (n + 1)))
  else ((4, s.take n, 0, [], [], [], 0, ()), n)
def wordS (s : B) : Tok × Nat :=
  let p := prefixS s
  if 0 < p.2.2.2.2 then (if p.1 = 4 then ((2, p.2.1, 0, [], [], [], 0, ()), p.2.2.2.2.toNat) else ((3, [], p.1, p.2.1, p.2.2.1, p.2.2.2.1, 0, ()), p.2.2.2.2.toNat))
  else if 0 < many letterI s then ((1, s.take (many letterI s), 0, [], [], [], 0, ()), many letterI s)
  else if 0 < many digitI s then numS s
  else ((5, signS s, 0, [], [], [], 0, ()), (signS s).length)
def noTok : Tok := (0, [], 0, [], [], [], 0, ())
def atT (t : Tok) (n : Int) : Tok := (t.1, t.2.1, t.2.2.1, t.2.2.2.1, t.2.2.2.2.1, t.2.2.2.2.2.1, n, ())
def nextS (s : B) (a : Int) : Tok × Int × Int :=
  if a < 0 ∨ a > s.length then (noTok, 0, 2)
  else
    let p := a.toNat + many spaceI (s.drop a.toNat)
    if p = s.length then (noTok, p, 0)
    else
      let w := wordS (s.drop p)
      if w.2 = 0 then (noTok, 0, 2) else (atT w.1 p, ((p + w.2 : Nat) : Int), 0)
/-- All words from a place on, and where there is none. -/
def lexF : Nat → B → Nat → List Tok × Option Nat
  | 0, _, _ => ([], none)
  | k + 1, s, a =>
    let p := a + many spaceI (s.drop a)
    if p = s.length then ([], none)
    else
      let w := wordS (s.drop p)
      if w.2 = 0 then ([], some p) else (atT w.1 p :: (lexF k s (p + w.2)).1, (lexF k s (p + w.2)).2)
def lexS (s : B) : List Tok × Int × Int :=
  if s.length > 4096 then ([], 0, 3)
  else match (lexF (s.length + 1) s 0).2 with
    | none => ((lexF (s.length + 1) s 0).1, 0, 0)
    | some p => ([], p, 2)
def wtext (t : Tok) : B := if t.1 = 2 then 63 :: t.2.1 else if t.1 = 3 then (if right t.2.2.1 t.2.2.2.1 t.2.2.2.2.1 t.2.2.2.2.2.1 then textS t.2.2.1 t.2.2.2.1 t.2.2.2.2.1 t.2.2.2.2.2.1 else []) else t.2.1
def joinF : List Tok → B
  | [] => []
  | t :: l => 32 :: wtext t ++ joinF l
def joinS : List Tok → B
  | [] => []
  | t :: l => wtext t ++ joinF l
def sameW (a b : Tok) (pl : Bool) : Bool := decide (a.1 = b.1) && decide (a.2.1 = b.2.1) && decide (a.2.2.1 = b.2.2.1) && decide (a.2.2.2.1 = b.2.2.2.1) && decide (a.2.2.2.2.1 = b.2.2.2.2.1) && decide (a.2.2.2.2.2.1 = b.2.2.2.2.2.1) && (!pl || decide (a.2.2.2.2.2.2.1 = b.2.2.2.2.2.2.1))
def sameL (pl : Bool) : List Tok → List Tok → Bool
  | x :: a, y :: b => sameW x y pl && sameL pl a b
  | _, _ => true
def sameS (a b : List Tok) (pl : Bool) : Bool := decide (a.length = b.length) && sameL pl a b
end Go.Proofs.Ytgcjhcefpkbheaa.Sp
namespace Go.Proofs.Ytgcjhcefpkbheaa.Sp
open Go.Proofs.Ytgcjhcefpkbheaa.Lg
theorem dec_signs : ∀ p : Fin 14, (Go.Utf8.decode ⟨signs1.toArray⟩ p.1).2 = 1 := by decide
theorem signs_ne (s : B) (h : s ≠ []) : signS s = if two s then s.take 2 else if isIn (byteAt s 0) signs1 then s.take 1 else [] := by
  cases s with
  | nil => exact absurd rfl h
  | cons b r => rfl
theorem signS_le (s : B) : (signS s).length ≤ s.length := by
  unfold signS
  split
  · simp; omega
  · split
    · simp
    · split <;> simp
theorem take_signS (s : B) : s.take (signS s).length = signS s := by
  unfold signS
  split
  · rename_i h
    have : 2 ≤ s.length := by
      match s, h with
      | [], h => simp [two] at h
      | [_], h => simp [two] at h
      | _ :: _ :: _, _ => simp
    rw [List.length_take, show min 2 s.length = 2 by omega]
  · split
    · rfl
    · split <;> simp
theorem runI1 : runI 1 = spaceI := rfl
theorem runI2 : runI 2 = letterI := rfl
theorem runI3 : runI 3 = digitI := rfl
theorem many_take (p : Int → Bool) (s : B) (n : Nat) : many p (s.take n) = min n (many p s) := by
  induction s generalizing n with
  | nil => simp [many]
  | cons b s ih =>
    cases n with
    | zero => simp [many]
    | succ n => simp only [List.take_succ_cons, many]; split; rw [ih]; omega; simp
theorem many_pos {p : Int → Bool} {s : B} (h : 0 < s.length) : (0 < many p s) = (p (byteAt s 0) = true) := by
  cases s with
  | nil => simp at h
  | cons b s =>
    have : byteAt (b :: s) 0 = u b := rfl
    rw [this, eq_iff_iff]; simp only [many]; split <;> simp_all
theorem head_byte {s : B} {n : Nat} (h : n < s.length) : ((s.drop n).head? = some 46) = (byteAt s n = 46) := by
  obtain ⟨b, hd, hb, _⟩ := byteAt_drop h
  rw [hd, hb, eq_iff_iff]
  simp only [List.head?_cons, Option.some.injEq]
  constructor
  · rintro rfl; rfl
  · intro q; exact u_inj q
end Go.Proofs.Ytgcjhcefpkbheaa.Sp
namespace Go.Proofs.Ytgcjhcefpkbheaa.Sp
open Go.Proofs.Ytgcjhcefpkbheaa.Lg
theorem prefixS_le (s : B) : (prefixS s).2.2.2.2 ≤ s.length := by
  cases s with
  | nil => simp [prefixS, noTerm]
  | cons b r =>
    simp only [prefixS]
    split
    · split
      · rename_i hi; have := iriAt_le hi; simp at this ⊢; omega
      · simp [noTerm]; omega
    split
    · rw [literalS_eq]
      split
      · split
        · split
          · exact (behindS_le _ _ _ _ _ _ (by simp; omega)).2
          · simp [noTerm]; omega
        · simp [noTerm]; omega
      · simp [noTerm]; omega
    split
    · split
      · have := named_le r; simp; omega
      · simp [noTerm]; omega
    split
    · split
      · have := named_le (r.drop 1); rename_i h _; cases r with
        | nil => simp at h
        | cons c r => simp at this ⊢; omega
      · simp [noTerm]; omega
    · simp [noTerm]; omega
theorem wordS_le (s : B) : (wordS s).2 ≤ s.length := by
  have h1 := prefixS_le s
  have h2 := many_le letterI s
  have h3 := signS_le s
  unfold wordS
  dsimp only
  split
  · split <;> (simp only; omega)
  split
  · exact h2
  split
  · unfold numS
    dsimp only
    have h4 := many_le digitI s
    have h5 := many_le digitI (s.drop (many digitI s + 1))
    rw [List.length_drop] at h5
    split
    · rename_i hc
      have : many digitI s < s.length := by
        have := hc.1
        by_cases q : many digitI s < s.length
        · exact q
        · rw [List.drop_of_length_le (by omega)] at this; simp at this
      simp only; omega
    · exact h4
  · exact h3
end Go.Proofs.Ytgcjhcefpkbheaa.Sp
namespace Go.Proofs.Ytgcjhcefpkbheaa.Sp
open Go.Proofs.Ytgcjhcefpkbheaa.Lg
theorem lexF_fuel : ∀ (k k' : Nat) (s : B) (a : Nat), s.length + 1 - a ≤ k → s.length + 1 - a ≤ k' → a ≤ s.length → lexF k s a = lexF k' s a
  | 0, k', s, a, h, _, ha => by omega
  | k + 1, 0, s, a, _, h, ha => by omega
  | k + 1, k' + 1, s, a, h, h', ha => by
    have hm := many_le spaceI (s.drop a)
    have hw := wordS_le (s.drop (a + many spaceI (s.drop a)))
    rw [List.length_drop] at hm hw
    simp only [lexF]
    by_cases q : a + many spaceI (s.drop a) = s.length
    · simp [q]
    · rw [if_neg q, if_neg q]
      by_cases q2 : (wordS (s.drop (a + many spaceI (s.drop a)))).2 = 0
      · simp [q2]
      · rw [if_neg q2, if_neg q2, lexF_fuel k k' s _ (by omega) (by omega) (by omega)]
theorem many_skip (p : Int → Bool) (s : B) (a : Nat) : many p (s.drop (a + many p (s.drop a))) = 0 := by
  rw [← List.drop_drop]
  generalize s.drop a = r
  induction r with
  | nil => simp [many]
  | cons b r ih =>
    simp only [many]
    split
    · exact ih
    · rename_i h; simp [many, h]
theorem lexF_skip (k : Nat) (s : B) (a : Nat) : lexF (k + 1) s (a + many spaceI (s.drop a)) = lexF (k + 1) s a := by
  simp only [lexF, many_skip, Nat.add_zero]
theorem wordS_kind (s : B) : (wordS s).1.1 ≠ 0 := by
  unfold wordS
  dsimp only
  split
  · split <;> simp
  split
  · simp
  split
  · unfold numS
    dsimp only
    split <;> simp
  · simp
theorem nextS_nat (s : B) (a : Nat) (h : a ≤ s.length) : nextS s a = if a + many spaceI (s.drop a) = s.length then (noTok, ((a + many spaceI (s.drop a) : Nat) : Int), 0)
    else if (wordS (s.drop (a + many spaceI (s.drop a)))).2 = 0 then (noTok, 0, 2) else (atT (wordS (s.drop (a + many spaceI (s.drop a)))).1 ((a + many spaceI (s.drop a) : Nat) : Int), ((a + many spaceI (s.drop a) + (wordS (s.drop (a + many spaceI (s.drop a)))).2 : Nat) : Int), 0) := by
  unfold nextS
  rw [if_neg (by omega), Int.toNat_natCast]
def lexR (s : B) (a : Nat) : List Tok × Option Nat := lexF (s.length + 1 - a) s a
theorem lexR_step (s : B) (a : Nat) (h : a ≤ s.length) : lexR s a = if a + many spaceI (s.drop a) = s.length then ([], none)
    else if (wordS (s.drop (a + many spaceI (s.drop a)))).2 = 0 then ([], some (a + many spaceI (s.drop a)))
    else (atT (wordS (s.drop (a + many spaceI (s.drop a)))).1 ((a + many spaceI (s.drop a) : Nat) : Int) :: (lexR s (a + many spaceI (s.drop a) + (wordS (s.drop (a + many spaceI (s.drop a)))).2)).1, (lexR s (a + many spaceI (s.drop a) + (wordS (s.drop (a + many spaceI (s.drop a)))).2)).2) := by
  have hm := many_le spaceI (s.drop a)
  have hw := wordS_le (s.drop (a + many spaceI (s.drop a)))
  rw [List.length_drop] at hm hw
  unfold lexR
  obtain ⟨k, hk⟩ : ∃ k, s.length + 1 - a = k + 1 := ⟨s.length - a, by omega⟩
  rw [hk]
  conv => lhs; unfold lexF
  by_cases q : a + many spaceI (s.drop a) = s.length
  · simp [q]
  · simp only [if_neg q]
    by_cases q2 : (wordS (s.drop (a + many spaceI (s.drop a)))).2 = 0
    · simp [q2]
    · simp only [if_neg q2]
      rw [lexF_fuel k _ s _ (by omega) (Nat.le_refl _) (by omega)]
theorem lexR_skip (s : B) (a : Nat) (h : a ≤ s.length) : lexR s (a + many spaceI (s.drop a)) = lexR s a := by
  have hm := many_le spaceI (s.drop a)
  rw [List.length_drop] at hm
  rw [lexR_step s a h, lexR_step s _ (by omega), many_skip, Nat.add_zero]
theorem lexS_eq (s : B) (h : s.length ≤ 4096) : lexS s = match (lexR s 0).2 with | none => ((lexR s 0).1, 0, 0) | some p => ([], p, 2) := by
  unfold lexS lexR
  rw [if_neg (by omega)]; rfl
def joinI (i : Nat) (l : List Tok) : B := if i = 0 then joinS l else joinF l
end Go.Proofs.Ytgcjhcefpkbheaa.Sp
namespace Go.Proofs.Ytgcjhcefpkbheaa.Sp
open Go.Proofs.Ytgcjhcefpkbheaa.Lg
def szW (t : Tok) : Prop := t.2.1.length ≤ 140737488355328 ∧ t.2.2.2.1.length ≤ 140737488355328 ∧ t.2.2.2.2.1.length ≤ 140737488355328 ∧ t.2.2.2.2.2.1.length ≤ 140737488355328
theorem joinI_cons (i : Nat) (t : Tok) (l : List Tok) : joinI i (t :: l) = (if i = 0 then wtext t else 32 :: wtext t) ++ joinF l := by
  unfold joinI
  split <;> simp [joinS, joinF]
theorem joinI_nil (i : Nat) : joinI i [] = [] := by unfold joinI; split <;> rfl
theorem joinI_succ (i : Nat) (l : List Tok) : joinI (i + 1) l = joinF l := rfl
theorem joinF_cons (t : Tok) (l : List Tok) : (joinF (t :: l)).length = (wtext t).length + 1 + (joinF l).length := by simp [joinF]; omega
end Go.Proofs.Ytgcjhcefpkbheaa.Sp
namespace Go.Proofs.Ytgcjhcefpkbheaa.Sp
open Go.Proofs.Ytgcjhcefpkbheaa.Lg
def allW (l : List Tok) : Prop := ∀ t ∈ l, szW t
/-- Where the last word from a place on ends. -/
def endF : Nat → B → Nat → Nat
  | 0, _, a => a
  | k + 1, s, a =>
    let p := a + many spaceI (s.drop a)
    if p = s.length then a else if (wordS (s.drop p)).2 = 0 then a else endF k s (p + (wordS (s.drop p)).2)
theorem endF_fuel : ∀ (k k' : Nat) (s : B) (a : Nat), s.length + 1 - a ≤ k → s.length + 1 - a ≤ k' → a ≤ s.length → endF k s a = endF k' s a
  | 0, k', s, a, h, _, ha => by omega
  | k + 1, 0, s, a, _, h, ha => by omega
  | k + 1, k' + 1, s, a, h, h', ha => by
    have hm := many_le spaceI (s.drop a)
    have hw := wordS_le (s.drop (a + many spaceI (s.drop a)))
    rw [List.length_drop] at hm hw
    simp only [endF]
    by_cases q : a + many spaceI (s.drop a) = s.length
    · simp [q]
    · rw [if_neg q, if_neg q]
      by_cases q2 : (wordS (s.drop (a + many spaceI (s.drop a)))).2 = 0
      · simp [q2]
      · rw [if_neg q2, if_neg q2, endF_fuel k k' s _ (by omega) (by omega) (by omega)]
def endR (s : B) (a : Nat) : Nat := endF (s.length + 1 - a) s a
theorem endR_step (s : B) (a : Nat) (h : a ≤ s.length) : endR s a = if a + many spaceI (s.drop a) = s.length then a
    else if (wordS (s.drop (a + many spaceI (s.drop a)))).2 = 0 then a else endR s (a + many spaceI (s.drop a) + (wordS (s.drop (a + many spaceI (s.drop a)))).2) := by
  have hm := many_le spaceI (s.drop a)
  have hw := wordS_le (s.drop (a + many spaceI (s.drop a)))
  rw [List.length_drop] at hm hw
  unfold endR
  obtain ⟨k, hk⟩ : ∃ k, s.length + 1 - a = k + 1 := ⟨s.length - a, by omega⟩
  rw [hk]
  conv => lhs; unfold endF
  by_cases q : a + many spaceI (s.drop a) = s.length
  · simp [q]
  · simp only [if_neg q]
    by_cases q2 : (wordS (s.drop (a + many spaceI (s.drop a)))).2 = 0
    · simp [q2]
    · simp only [if_neg q2]
      rw [endF_fuel k _ s _ (by omega) (Nat.le_refl _) (by omega)]
theorem endR_end : ∀ (n : Nat) (s : B) (a : Nat), s.length - a ≤ n → a ≤ s.length → (lexR s a).2 = none → endR s a ≤ s.length ∧ many spaceI (s.drop (endR s a)) = s.length - endR s a := by
  intro n
  induction n with
  | zero =>
    intro s a hn ha hl
    have : a = s.length := by omega
    subst this
    rw [endR_step _ _ (Nat.le_refl _)]
    simp [many]
  | succ n ih =>
    intro s a hn ha hl
    have hm := many_le spaceI (s.drop a)
    have hw := wordS_le (s.drop (a + many spaceI (s.drop a)))
    rw [List.length_drop] at hm hw
    rw [lexR_step s a ha] at hl
    rw [endR_step s a ha]
    by_cases q : a + many spaceI (s.drop a) = s.length
    · rw [if_pos q]; exact ⟨ha, by omega⟩
    · rw [if_neg q] at hl ⊢
      by_cases q2 : (wordS (s.drop (a + many spaceI (s.drop a)))).2 = 0
      · rw [if_pos q2] at hl; cases hl
      · rw [if_neg q2] at hl ⊢
        exact ih s _ (by omega) (by omega) hl
theorem lexR_len : ∀ (n : Nat) (s : B) (a : Nat), s.length - a ≤ n → a ≤ s.length → (lexR s a).1.length ≤ s.length - a := by
  intro n
  induction n with
  | zero =>
    intro s a hn ha
    have : a = s.length := by omega
    subst this
    rw [lexR_step _ _ (Nat.le_refl _)]
    simp [many]
  | succ n ih =>
    intro s a hn ha
    have hm := many_le spaceI (s.drop a)
    have hw := wordS_le (s.drop (a + many spaceI (s.drop a)))
    rw [List.length_drop] at hm hw
    rw [lexR_step s a ha]
    by_cases q : a + many spaceI (s.drop a) = s.length
    · rw [if_pos q]; simp
    · rw [if_neg q]
      by_cases q2 : (wordS (s.drop (a + many spaceI (s.drop a)))).2 = 0
      · rw [if_pos q2]; simp
      · rw [if_neg q2]
        have := ih s (a + many spaceI (s.drop a) + (wordS (s.drop (a + many spaceI (s.drop a)))).2) (by omega) (by omega)
        simp only [List.length_cons]; omega
theorem sameL_refl (pl : Bool) : ∀ l : List Tok, sameL pl l l = true
  | [] => rfl
  | x :: l => by simp [sameL, sameW, sameL_refl pl l]
theorem sameS_refl (l : List Tok) (pl : Bool) : sameS l l pl = true := by simp [sameS, sameL_refl]
end Go.Proofs.Ytgcjhcefpkbheaa.Sp
namespace Go.Proofs.Ytgcjhcefpkbheaa.Sp
theorem lexS_ok {s : B} (h : (lexS s).2.2 = 0) : s.length ≤ 4096 ∧ (lexS s).1 = (lexR s 0).1 ∧ (lexR s 0).2 = none := by
  by_cases hl : s.length ≤ 4096
  · rw [lexS_eq s hl] at h ⊢
    cases hr : (lexR s 0).2 with
    | none => exact ⟨hl, rfl, rfl⟩
    | some p => rw [hr] at h; cases h
  · rw [lexS, if_pos (by omega)] at h; cases h
theorem lexS_bad {s : B} (h : ¬ (lexS s).2.2 = 0) : (lexS s).1 = [] := by
  by_cases hl : s.length ≤ 4096
  · rw [lexS_eq s hl] at h ⊢
    cases hr : (lexR s 0).2 with
    | none => rw [hr] at h; exact absurd rfl h
    | some p => rfl
  · rw [lexS, if_pos (by omega)]
theorem lexS_len (s : B) : (lexS s).1.length ≤ 4096 := by
  by_cases h : (lexS s).2.2 = 0
  · obtain ⟨h1, h2, _⟩ := lexS_ok h
    rw [h2]
    have := lexR_len s.length s 0 (by omega) (by omega)
    omega
  · rw [lexS_bad h]; simp
end Go.Proofs.Ytgcjhcefpkbheaa.Sp
namespace Go.Proofs.Ytgcjhcefpkbheaa.Sp
open Go.Proofs.Ytgcjhcefpkbheaa.Lg
theorem bulk_tok (t : Tok) : t.2.1.length + t.2.2.2.1.length + t.2.2.2.2.1.length + t.2.2.2.2.2.1.length + 4 ≤ RowE.bulk [.int .i64, .str, .int .i64, .str, .str, .str, .int .i64] t := by
  simp only [RowE.bulk, CE.bulk]; omega
theorem textS_len (k : Int) (a t l : B) : (textS k a t l).length ≤ 2 * a.length + t.length + l.length + 8 := by
  have := esc_le a
  unfold textS
  repeat' split
  all_goals simp only [quotedS, List.length_cons, List.length_append, List.length_nil]
  all_goals omega
theorem wtext_len (t : Tok) : (wtext t).length ≤ 2 * RowE.bulk [.int .i64, .str, .int .i64, .str, .str, .str, .int .i64] t := by
  have h1 := bulk_tok t
  have h2 := textS_len t.2.2.1 t.2.2.2.1 t.2.2.2.2.1 t.2.2.2.2.2.1
  unfold wtext
  repeat' split
  all_goals (try simp only [List.length_cons, List.length_nil])
  all_goals omega
theorem joinF_bulk : ∀ l : List Tok, (joinF l).length ≤ 3 * (l.map (RowE.bulk [.int .i64, .str, .int .i64, .str, .str, .str, .int .i64])).sum
  | [] => by simp [joinF]
  | t :: l => by
    have h1 := wtext_len t
    have h2 := bulk_tok t
    have h3 := joinF_bulk l
    rw [joinF_cons]; simp only [List.map_cons, List.sum_cons]; omega
theorem mem_sum {α : Type} {f : α → Nat} : ∀ {l : List α} {x : α}, x ∈ l → f x ≤ (l.map f).sum
  | y :: l, x, h => by
    rcases List.mem_cons.1 h with rfl | h
    · simp
    · have := mem_sum (f := f) h; simp only [List.map_cons, List.sum_cons]; omega
  | [], _, h => by cases h
theorem len_sum {α : Type} {f : α → Nat} (hf : ∀ x, 1 ≤ f x) : ∀ l : List α, l.length ≤ (l.map f).sum
  | [] => by simp
  | y :: l => by have := len_sum hf l; have := hf y; simp only [List.map_cons, List.sum_cons, List.length_cons]; omega
end Go.Proofs.Ytgcjhcefpkbheaa.Sp
end

section
set_option maxRecDepth 100000
namespace Go.Proofs.Ytgcjhcefpkbheaa.Sp
open Go.Proofs.Ytgcjhcefpkbheaa.Lg Go
open Go.Lib
/- Chapter 3: triples and their texts. -/
abbrev T3 := Int × B × B × B × Int × B × B × B × Int × B × B × B × Unit
def tS (t : T3) : TR := (t.1, t.2.1, t.2.2.1, t.2.2.2.1, ())
def tP (t : T3) : TR := (t.2.2.2.2.1, t.2.2.2.2.2.1, t.2.2.2.2.2.2.1, t.2.2.2.2.2.2.2.1, ())
def tO (t : T3) : TR := (t.2.2.2.2.2.2.2.2.1, t.2.2.2.2.2.2.2.2.2.1, t.2.2.2.2.2.2.2.2.2.2.1, t.2.2.2.2.2.2.2.2.2.2.2.1, ())
def mk3 (a b c : TR) : T3 := (a.1, a.2.1, a.2.2.1, a.2.2.2.1, b.1, b.2.1, b.2.2.1, b.2.2.2.1, c.1, c.2.1, c.2.2.1, c.2.2.2.1, ())
def zero3 : T3 := (0, [], [], [], 0, [], [], [], 0, [], [], [], ())
def all3 (t : T3) : Bool := rightT (tS t) && rightT (tP t) && rightT (tO t)
def triK (a b c : Int) : Bool := (decide (a = 1) || decide (a = 3)) && decide (b = 1) && (decide (c = 1) || decide (c = 3) || decide (c = 2))
def patK (a b c : Int) : Bool := (decide (a = 1) || decide (a = 4)) && (decide (b = 1) || decide (b = 4)) && (decide (c = 1) || decide (c = 2) || decide (c = 4))
def tri (t : T3) : Bool := all3 t && triK t.1 t.2.2.2.2.1 t.2.2.2.2.2.2.2.2.1
def pat (t : T3) : Bool := all3 t && patK t.1 t.2.2.2.2.1 t.2.2.2.2.2.2.2.2.1
def sz3 (n : Nat) (t : T3) : Prop := (t.2.1.length ≤ n ∧ t.2.2.1.length ≤ n ∧ t.2.2.2.1.length ≤ n) ∧ (t.2.2.2.2.2.1.length ≤ n ∧ t.2.2.2.2.2.2.1.length ≤ n ∧ t.2.2.2.2.2.2.2.1.length ≤ n) ∧ (t.2.2.2.2.2.2.2.2.2.1.length ≤ n ∧ t.2.2.2.2.2.2.2.2.2.2.1.length ≤ n ∧ t.2.2.2.2.2.2.2.2.2.2.2.1.length ≤ n)
theorem triK_t {a b c : Int} (h1 : a = 1 ∨ a = 3) (h2 : b = 1) (h3 : 1 ≤ c) (h4 : c ≤ 3) : triK a b c = true := by
  simp [triK]; omega
theorem triK_a {a b c : Int} (h1 : ¬ a = 1) (h2 : ¬ a = 3) : triK a b c = false := by simp [triK, h1, h2]
theorem triK_b {a b c : Int} (h1 : ¬ b = 1) : triK a b c = false := by simp [triK, h1]
theorem triK_c {a b c : Int} (h : c < 1) : triK a b c = false := by simp [triK]; omega
theorem triK_d {a b c : Int} (h : c > 3) : triK a b c = false := by simp [triK]; omega
theorem triK_e {a b c : Int} (h1 : a = 1 ∨ a = 3) (h2 : b = 1) (h3 : ¬ c = 1) (h4 : ¬ c = 3) : triK a b c = decide (c = 2) := by
  rcases h1 with h1 | h1 <;> simp [triK, h1, h2, h3, h4]
theorem triK_1 {a b c : Int} (h1 : a = 1 ∨ a = 3) (h2 : b = 1) (h3 : c = 1) : triK a b c = true := by rcases h1 with h1 | h1 <;> simp [triK, h1, h2, h3]
theorem triK_3 {a b c : Int} (h1 : a = 1 ∨ a = 3) (h2 : b = 1) (h3 : c = 3) : triK a b c = true := by rcases h1 with h1 | h1 <;> simp [triK, h1, h2, h3]
theorem patK_a {a b c : Int} (h1 : ¬ a = 1) (h2 : ¬ a = 4) : patK a b c = false := by simp [patK, h1, h2]
theorem patK_b {a b c : Int} (h1 : ¬ b = 1) (h2 : ¬ b = 4) : patK a b c = false := by simp [patK, h1, h2]
theorem patK_t {a b c : Int} (h1 : a = 1 ∨ a = 4) (h2 : b = 1 ∨ b = 4) : patK a b c = (decide (c = 1) || decide (c = 2) || decide (c = 4)) := by
  rcases h1 with h1 | h1 <;> rcases h2 with h2 | h2 <;> simp [patK, h1, h2]
theorem patK_1 {a b c : Int} (h1 : a = 1 ∨ a = 4) (h2 : b = 1 ∨ b = 4) (h3 : c = 1) : patK a b c = true := by rw [patK_t h1 h2]; simp [h3]
theorem patK_2 {a b c : Int} (h1 : a = 1 ∨ a = 4) (h2 : b = 1 ∨ b = 4) (h3 : c = 2) : patK a b c = true := by rw [patK_t h1 h2]; simp [h3]
theorem patK_e {a b c : Int} (h1 : a = 1 ∨ a = 4) (h2 : b = 1 ∨ b = 4) (h3 : ¬ c = 1) (h4 : ¬ c = 2) : patK a b c = decide (c = 4) := by rw [patK_t h1 h2]; simp [h3, h4]
theorem tri_of {t : T3} (q : all3 t = true) : tri t = triK t.1 t.2.2.2.2.1 t.2.2.2.2.2.2.2.2.1 := by simp [tri, q]
theorem pat_of {t : T3} (q : all3 t = true) : pat t = patK t.1 t.2.2.2.2.1 t.2.2.2.2.2.2.2.2.1 := by simp [pat, q]
theorem tri_no {t : T3} (q : all3 t = false) : tri t = false := by simp [tri, q]
theorem pat_no {t : T3} (q : all3 t = false) : pat t = false := by simp [pat, q]
theorem all3_t {t : T3} (h1 : right t.1 t.2.1 t.2.2.1 t.2.2.2.1 = true) (h2 : right t.2.2.2.2.1 t.2.2.2.2.2.1 t.2.2.2.2.2.2.1 t.2.2.2.2.2.2.2.1 = true) (h3 : right t.2.2.2.2.2.2.2.2.1 t.2.2.2.2.2.2.2.2.2.1 t.2.2.2.2.2.2.2.2.2.2.1 t.2.2.2.2.2.2.2.2.2.2.2.1 = true) : all3 t = true := by
  simp [all3, rightT, tS, tP, tO, h1, h2, h3]
theorem all3_1 {t : T3} (h1 : right t.1 t.2.1 t.2.2.1 t.2.2.2.1 = false) : all3 t = false := by simp [all3, rightT, tS, h1]
theorem all3_2 {t : T3} (h1 : right t.2.2.2.2.1 t.2.2.2.2.2.1 t.2.2.2.2.2.2.1 t.2.2.2.2.2.2.2.1 = false) : all3 t = false := by simp [all3, rightT, tP, h1]
theorem all3_3 {t : T3} (h1 : right t.2.2.2.2.2.2.2.2.1 t.2.2.2.2.2.2.2.2.2.1 t.2.2.2.2.2.2.2.2.2.2.1 t.2.2.2.2.2.2.2.2.2.2.2.1 = false) : all3 t = false := by simp [all3, rightT, tO, h1]
theorem right_k {k : Int} {a t l : B} (h : right k a t l = true) : k = 0 ∨ k = 1 ∨ k = 2 ∨ k = 3 ∨ k = 4 := by
  unfold right at h
  split at h
  · omega
  · split at h
    · omega
    · split at h
      · omega
      · split at h
        · omega
        · cases h
theorem right_two {k : Int} {a t l : B} (q : right k a t l = true) (k2 : k = 2) : t = [] ∨ l = [] := by
  simp [right, k2] at q
  rcases q.1.2 with z | z
  · exact .inl z
  · exact .inr z.2
theorem patK_n {a b c : Int} (h : c = 0 ∨ c = 3) : patK a b c = false := by rcases h with h | h <;> simp [patK, h]
theorem patK_y {a b c : Int} (h1 : a = 1 ∨ a = 4) (h2 : b = 1 ∨ b = 4) (h : c = 0 ∨ c = 1 ∨ c = 2 ∨ c = 3 ∨ c = 4) (k0 : ¬ c = 0) (k3 : ¬ c = 3) : patK a b c = true := by
  rw [patK_t h1 h2]; simp; omega
theorem all3_o {t : T3} (h : all3 t = true) : right t.2.2.2.2.2.2.2.2.1 t.2.2.2.2.2.2.2.2.2.1 t.2.2.2.2.2.2.2.2.2.2.1 t.2.2.2.2.2.2.2.2.2.2.2.1 = true := by
  simp only [all3, rightT, tS, tP, tO, Bool.and_eq_true] at h
  exact h.2
theorem if02 {b : Bool} (h : ¬ (if b = true then (0 : Int) else 2) = 0) : b = false := by cases b <;> simp_all
theorem if00 {b : Bool} (h : (if b = true then (0 : Int) else 2) = 0) : b = true := by cases b <;> simp_all
def text3 (t : T3) : B := textT (tS t) ++ [32] ++ textT (tP t) ++ [32] ++ textT (tO t) ++ [32, 46, 10]
def writeT (l : List T3) : B := l.flatMap text3
def hasS (l : List (RowE [.str])) (a : B) : Bool := l.any fun r => r.1 == a
def moreS (l : List (RowE [.str])) (x : TR) : List (RowE [.str]) := if x.1 = 4 ∧ hasS l x.2.1 = false then l ++ [(x.2.1, ())] else l
def varsS (t : T3) : List (RowE [.str]) := moreS (moreS (moreS [] (tS t)) (tP t)) (tO t)
def cmp3 (a b : T3) : Int := if cmpT (tS a) (tS b) ≠ 0 then cmpT (tS a) (tS b) else if cmpT (tP a) (tP b) ≠ 0 then cmpT (tP a) (tP b) else cmpT (tO a) (tO b)
/-- a term, a blank behind it, and what is left -/
def head3 (s : B) : Option (TR × B) := if (prefixS s).2.2.2.2 ≠ 0 ∧ (s.drop (prefixS s).2.2.2.2.toNat).head? = some 32 then some (((prefixS s).1, (prefixS s).2.1, (prefixS s).2.2.1, (prefixS s).2.2.2.1, ()), s.drop ((prefixS s).2.2.2.2.toNat + 1)) else none
def lineS (s : B) : T3 × Bool := match head3 s with
  | none => (zero3, false)
  | some (a, s) => match head3 s with
    | none => (zero3, false)
    | some (b, s) => match head3 s with
      | none => (zero3, false)
      | some (c, s) => (mk3 a b c, decide (s = [46]) && tri (mk3 a b c))
def readG : Nat → B → List T3 × B × Bool
  | 0, s => ([], s, false)
  | f + 1, s => if indexByte s 10 < 0 then ([], s, false) else if (lineS (s.take (indexByte s 10).toNat)).2 = true then ((lineS (s.take (indexByte s 10).toNat)).1 :: (readG f (s.drop ((indexByte s 10).toNat + 1))).1, (readG f (s.drop ((indexByte s 10).toNat + 1))).2) else ([], s, true)
def readL (s : B) : List T3 × B × Bool := readG s.length s
theorem readG_eq : ∀ (f g : Nat) (s : B), s.length ≤ f → s.length ≤ g → readG f s = readG g s
  | 0, 0, s, _, _ => rfl
  | 0, g + 1, s, h, _ => by
    have : s = [] := List.length_eq_zero_iff.1 (by omega)
    subst this; simp [readG, indexByte]
  | f + 1, 0, s, _, h => by
    have : s = [] := List.length_eq_zero_iff.1 (by omega)
    subst this; simp [readG, indexByte]
  | f + 1, g + 1, s, h1, h2 => by
    simp only [readG]
    by_cases q : indexByte s 10 < 0
    · simp [q]
    · have hp := indexByte_le s 10
      have e := readG_eq f g (s.drop ((indexByte s 10).toNat + 1)) (by simp; omega) (by simp; omega)
      simp only [e]
theorem readL_eq (s : B) : readL s = if indexByte s 10 < 0 then ([], s, false) else if (lineS (s.take (indexByte s 10).toNat)).2 = true then ((lineS (s.take (indexByte s 10).toNat)).1 :: (readL (s.drop ((indexByte s 10).toNat + 1))).1, (readL (s.drop ((indexByte s 10).toNat + 1))).2) else ([], s, true) := by
  have e : readL s = readG (s.length + 1) s := readG_eq _ _ s (by omega) (by omega)
  rw [e]
  simp only [readG]
  have e2 : readG s.length (s.drop ((indexByte s 10).toNat + 1)) = readL (s.drop ((indexByte s 10).toNat + 1)) := readG_eq _ _ _ (by simp) (by omega)
  rw [e2]
theorem readL_nil : readL [] = ([], [], false) := rfl

theorem prefixS_ge (s : B) : 0 ≤ (prefixS s).2.2.2.2 := by
  cases s with
  | nil => simp [prefixS, noTerm]
  | cons b r =>
    simp only [prefixS]
    split
    · split
      · simp
      · simp [noTerm]
    split
    · rw [literalS_eq]
      split
      · split
        · split
          · have := (behindS_le 2 (by assumption) [] [] (b :: r) (run r + 2) (by simp; omega)).1
            omega
          · simp [noTerm]
        · simp [noTerm]
      · simp [noTerm]
    split
    · split
      · simp; omega
      · simp [noTerm]
    split
    · split
      · simp; omega
      · simp [noTerm]
    · simp [noTerm]
theorem take1_iff {l : B} {c : UInt8} : l.take 1 = [c] ↔ l.head? = some c := by cases l <;> simp
/-- where a term is, and what is behind it -/
theorem head3_none {s : B} (h : (prefixS s).2.2.2.2 = 0 ∨ ¬ (s.drop (prefixS s).2.2.2.2.toNat).take 1 = [32]) : head3 s = none := by
  unfold head3
  rw [if_neg]
  rintro ⟨q1, q2⟩
  rcases h with h | h
  · exact q1 h
  · exact h (take1_iff.2 q2)
theorem head3_some {s : B} (h : (prefixS s).2.2.2.2 ≠ 0) (k : (s.drop (prefixS s).2.2.2.2.toNat).take 1 = [32]) : head3 s = some (((prefixS s).1, (prefixS s).2.1, (prefixS s).2.2.1, (prefixS s).2.2.2.1, ()), s.drop ((prefixS s).2.2.2.2.toNat + 1)) := by
  unfold head3
  rw [if_pos ⟨h, take1_iff.1 k⟩]
theorem head3_len {s r : B} {a : TR} (h : head3 s = some (a, r)) : r.length < s.length := by
  unfold head3 at h
  split at h
  · rename_i q
    simp at h
    rw [← h.2]
    have := q.2
    have hd : (prefixS s).2.2.2.2.toNat < s.length := by
      have h0 : (s.drop (prefixS s).2.2.2.2.toNat) ≠ [] := by intro e; rw [e] at this; simp at this
      rcases Nat.lt_or_ge (prefixS s).2.2.2.2.toNat s.length with z | z
      · exact z
      · exact absurd (List.drop_of_length_le z) h0
    simp; omega
  · cases h
def eq3 (a b : T3) : Bool := a.1 == b.1 && (a.2.1 == b.2.1 && (a.2.2.1 == b.2.2.1 && (a.2.2.2.1 == b.2.2.2.1 && (a.2.2.2.2.1 == b.2.2.2.2.1 && (a.2.2.2.2.2.1 == b.2.2.2.2.2.1 && (a.2.2.2.2.2.2.1 == b.2.2.2.2.2.2.1 && (a.2.2.2.2.2.2.2.1 == b.2.2.2.2.2.2.2.1 && (a.2.2.2.2.2.2.2.2.1 == b.2.2.2.2.2.2.2.2.1 && (a.2.2.2.2.2.2.2.2.2.1 == b.2.2.2.2.2.2.2.2.2.1 && (a.2.2.2.2.2.2.2.2.2.2.1 == b.2.2.2.2.2.2.2.2.2.2.1 && (a.2.2.2.2.2.2.2.2.2.2.2.1 == b.2.2.2.2.2.2.2.2.2.2.2.1)))))))))))
theorem eq3_iff (a b : T3) : eq3 a b = true ↔ a = b := by
  obtain ⟨a1, a2, a3, a4, a5, a6, a7, a8, a9, a10, a11, a12, _⟩ := a
  obtain ⟨b1, b2, b3, b4, b5, b6, b7, b8, b9, b10, b11, b12, _⟩ := b
  simp [eq3]
def sameT3 : List T3 → List T3 → Bool
  | x :: a, y :: b => eq3 x y && sameT3 a b
  | _, _ => true
def same3 (a b : List T3) : Bool := decide (a.length = b.length) && sameT3 a b
theorem sameT3_iff : ∀ a b : List T3, a.length = b.length → (sameT3 a b = true ↔ a = b)
  | [], [], _ => by simp [sameT3]
  | x :: a, y :: b, h => by
    simp only [sameT3, Bool.and_eq_true, eq3_iff, sameT3_iff a b (by simpa using h), List.cons.injEq]
theorem same3_iff (a b : List T3) : same3 a b = true ↔ a = b := by
  simp only [same3, Bool.and_eq_true, decide_eq_true_eq]
  constructor
  · rintro ⟨h1, h2⟩; exact (sameT3_iff a b h1).1 h2
  · rintro rfl; exact ⟨rfl, (sameT3_iff a a rfl).2 rfl⟩
def sameT1 : List (RowE [.str]) → List (RowE [.str]) → Bool
  | x :: a, y :: b => (x.1 == y.1) && sameT1 a b
  | _, _ => true
theorem sameT1_refl : ∀ a : List (RowE [.str]), sameT1 a a = true
  | [] => rfl
  | x :: a => by simp [sameT1, sameT1_refl a]
def sameX (a b : List (RowE [.str])) : Bool := decide (a.length = b.length) && sameT1 a b
theorem readG_rest : ∀ (f : Nat) (s : B), (readG f s).2.1.length ≤ s.length
  | 0, s => Nat.le_refl _
  | f + 1, s => by
    simp only [readG]
    split
    · exact Nat.le_refl _
    · split
      · have := readG_rest f (s.drop ((indexByte s 10).toNat + 1))
        refine Nat.le_trans this ?_
        simp
      · exact Nat.le_refl _
theorem readG_len : ∀ (f : Nat) (s : B), (readG f s).1.length ≤ s.length
  | 0, s => Nat.zero_le _
  | f + 1, s => by
    simp only [readG]
    split
    · exact Nat.zero_le _
    · split
      · have := readG_len f (s.drop ((indexByte s 10).toNat + 1))
        have hp := indexByte_le s 10
        simp only [List.length_cons, List.length_drop] at this ⊢
        omega
      · exact Nat.zero_le _
theorem readL_len (s : B) : (readL s).1.length ≤ s.length := readG_len _ s
theorem readL_rest (s : B) : (readL s).2.1.length ≤ s.length := readG_rest _ s
def failL (s : B) : Bool := (readL s).2.2 || !(readL s).2.1.isEmpty
def triL (l : List T3) : Bool := l.all tri
theorem failL_eq (s : B) : failL s = if s = [] then false else if indexByte s 10 < 0 then true else if (lineS (s.take (indexByte s 10).toNat)).2 = true then failL (s.drop ((indexByte s 10).toNat + 1)) else true := by
  by_cases q : s = []
  · subst q; rfl
  · rw [if_neg q]
    unfold failL
    rw [readL_eq]
    split
    · cases s with
      | nil => exact absurd rfl q
      | cons _ _ => rfl
    · split
      · rfl
      · rfl
theorem readL_fst (s : B) : (readL s).1 = if indexByte s 10 < 0 then [] else if (lineS (s.take (indexByte s 10).toNat)).2 = true then (lineS (s.take (indexByte s 10).toNat)).1 :: (readL (s.drop ((indexByte s 10).toNat + 1))).1 else [] := by
  rw [readL_eq]
  split
  · rfl
  · split <;> rfl
theorem tri_all {t : T3} (h : tri t = true) : (right t.1 t.2.1 t.2.2.1 t.2.2.2.1 = true ∧ right t.2.2.2.2.1 t.2.2.2.2.2.1 t.2.2.2.2.2.2.1 t.2.2.2.2.2.2.2.1 = true) ∧ right t.2.2.2.2.2.2.2.2.1 t.2.2.2.2.2.2.2.2.2.1 t.2.2.2.2.2.2.2.2.2.2.1 t.2.2.2.2.2.2.2.2.2.2.2.1 = true := by
  simp only [tri, all3, rightT, tS, tP, tO, Bool.and_eq_true] at h
  exact h.1
def lineR (s : B) : T3 × Bool := match head3 s with
  | none => (zero3, false)
  | some (a, s) => match head3 s with
    | none => (zero3, false)
    | some (b, s) => (mk3 a b ((prefixS s).1, (prefixS s).2.1, (prefixS s).2.2.1, (prefixS s).2.2.2.1, ()), decide (0 < (prefixS s).2.2.2.2) && decide (s.drop (prefixS s).2.2.2.2.toNat = [32, 46]) && tri (mk3 a b ((prefixS s).1, (prefixS s).2.1, (prefixS s).2.2.1, (prefixS s).2.2.2.1, ())))
theorem lineR_eq (s : B) : (lineR s).2 = (lineS s).2 ∧ ((lineS s).2 = true → (lineR s).1 = (lineS s).1) := by
  unfold lineR lineS
  cases h1 : head3 s with
  | none => exact ⟨rfl, fun _ => rfl⟩
  | some p =>
    obtain ⟨a, s1⟩ := p
    simp only
    cases h2 : head3 s1 with
    | none => exact ⟨rfl, fun _ => rfl⟩
    | some p =>
      obtain ⟨b, s2⟩ := p
      simp only
      have hg := prefixS_ge s2
      by_cases n0 : (prefixS s2).2.2.2.2 = 0
      · rw [head3_none (.inl n0)]
        refine ⟨?_, fun q => by simp at q⟩
        simp [n0]
      · by_cases tk : (s2.drop (prefixS s2).2.2.2.2.toNat).take 1 = [32]
        · rw [head3_some n0 tk]
          simp only
          have e : (s2.drop (prefixS s2).2.2.2.2.toNat = [32, 46]) ↔ (s2.drop ((prefixS s2).2.2.2.2.toNat + 1) = [46]) := by
            rw [← List.drop_drop]
            generalize s2.drop (prefixS s2).2.2.2.2.toNat = r at *
            cases r with
            | nil => simp at tk
            | cons c r => simp at tk; subst tk; simp
          refine ⟨?_, fun _ => trivial⟩
          have e0 : decide (0 < (prefixS s2).2.2.2.2) = true := decide_eq_true (by omega)
          rw [e0, Bool.true_and, decide_eq_decide.2 e]
        · rw [head3_none (.inr tk)]
          refine ⟨?_, fun q => by simp at q⟩
          have e : ¬ (s2.drop (prefixS s2).2.2.2.2.toNat = [32, 46]) := fun e => tk (by rw [e]; rfl)
          simp [e]
theorem cmp3_self (a : T3) : cmp3 a a = 0 := by
  simp [cmp3, (cmpT_zero _ _).2]
theorem cmp3_zero (a b : T3) : cmp3 a b = 0 ↔ a = b := by
  have e : a = b ↔ tS a = tS b ∧ tP a = tP b ∧ tO a = tO b := by
    obtain ⟨a1, a2, a3, a4, a5, a6, a7, a8, a9, a10, a11, a12, _⟩ := a
    obtain ⟨b1, b2, b3, b4, b5, b6, b7, b8, b9, b10, b11, b12, _⟩ := b
    simp [tS, tP, tO, and_assoc]
  rw [e, ← cmpT_zero, ← cmpT_zero, ← cmpT_zero]
  unfold cmp3
  by_cases h1 : cmpT (tS a) (tS b) = 0
  · by_cases h2 : cmpT (tP a) (tP b) = 0
    · simp [h1, h2]
    · simp [h1, h2]
  · simp [h1]
theorem cmp3_range (a b : T3) : cmp3 a b = -1 ∨ cmp3 a b = 0 ∨ cmp3 a b = 1 := by
  unfold cmp3
  split
  · exact cmpT_range _ _
  · split <;> exact cmpT_range _ _
theorem cmp3_anti (a b : T3) : cmp3 b a = -cmp3 a b := by
  unfold cmp3
  rw [cmpT_anti (tS a) (tS b), cmpT_anti (tP a) (tP b), cmpT_anti (tO a) (tO b)]
  simp only [ne_eq, Int.neg_eq_zero]
  split
  · rfl
  · split <;> rfl
theorem cmp3_trans (a b c : T3) (h : cmp3 a b ≤ 0) (k : cmp3 b c ≤ 0) : cmp3 a c ≤ 0 := by
  have lex : ∀ x y z : TR, cmpT x y ≤ 0 → cmpT y z ≤ 0 → (cmpT x y ≠ 0 ∨ cmpT y z ≠ 0) → cmpT x z < 0 := by
    intro x y z h1 h2 h3
    have h4 := cmpT_trans x y z h1 h2
    by_cases e : cmpT x z = 0
    · obtain rfl := (cmpT_zero x z).1 e
      have := cmpT_anti x y
      omega
    · omega
  unfold cmp3 at *
  by_cases s1 : cmpT (tS a) (tS b) = 0
  · have e1 := (cmpT_zero _ _).1 s1
    rw [← e1] at k
    simp only [s1, ne_eq, not_true, if_false] at h
    by_cases s2 : cmpT (tS a) (tS c) = 0
    · simp only [s2, ne_eq, not_true, if_false] at k ⊢
      by_cases p1 : cmpT (tP a) (tP b) = 0
      · have e2 := (cmpT_zero _ _).1 p1
        rw [← e2] at k
        simp only [p1, ne_eq, not_true, if_false] at h
        by_cases p2 : cmpT (tP a) (tP c) = 0
        · simp only [p2, ne_eq, not_true, if_false] at k ⊢
          exact cmpT_trans _ _ _ h k
        · simp only [p2, ne_eq, not_false_eq_true, if_true] at k ⊢
          exact k
      · simp only [p1, ne_eq, not_false_eq_true, if_true] at h
        by_cases p2 : cmpT (tP b) (tP c) = 0
        · have e2 := (cmpT_zero _ _).1 p2
          rw [← e2]
          simp only [p1, ne_eq, not_false_eq_true, if_true]; exact h
        · simp only [p2, ne_eq, not_false_eq_true, if_true] at k
          have := lex _ _ _ h k (.inl p1)
          rw [if_pos (by omega)]; omega
    · simp only [s2, ne_eq, not_false_eq_true, if_true] at k ⊢
      exact k
  · simp only [s1, ne_eq, not_false_eq_true, if_true] at h
    by_cases s2 : cmpT (tS b) (tS c) = 0
    · have e2 := (cmpT_zero _ _).1 s2
      rw [← e2]
      simp only [s1, ne_eq, not_false_eq_true, if_true]; exact h
    · simp only [s2, ne_eq, not_false_eq_true, if_true] at k
      have := lex _ _ _ h k (.inl s1)
      rw [if_pos (by omega)]; omega
def szL (l : List T3) : Prop := ∀ t ∈ l, sz3 140737488355328 t
theorem triL_cons (t : T3) (l : List T3) : triL (t :: l) = (tri t && triL l) := rfl
theorem writeT_cons (t : T3) (l : List T3) : writeT (t :: l) = text3 t ++ writeT l := rfl
theorem text3_le {t : T3} (h : tri t = true) : (text3 t).length ≤ 60005 := by
  obtain ⟨⟨a1, a2⟩, a3⟩ := tri_all h
  have b1 := textS_le a1
  have b2 := textS_le a2
  have b3 := textS_le a3
  simp [text3, textT, tS, tP, tO]; omega
theorem writeT_le : ∀ {l : List T3}, triL l = true → (writeT l).length ≤ 60005 * l.length
  | [], _ => by simp [writeT]
  | t :: l, h => by
    rw [triL_cons, Bool.and_eq_true] at h
    have h1 := text3_le h.1
    have h2 := writeT_le h.2
    rw [writeT_cons, List.length_append, List.length_cons]; omega
end Go.Proofs.Ytgcjhcefpkbheaa.Sp
end

section
namespace Go.Proofs.Ytgcjhcefpkbheaa.Sp
open Go.Proofs.Ytgcjhcefpkbheaa.Lg
def idxS : List (RowE [.str]) → B → Int → Int
  | [], _, _ => -1
  | r :: l, a, i => if a = r.1 then i else idxS l a (i + 1)
theorem idxS_has : ∀ (l : List (RowE [.str])) (a : B) (i : Int), 0 ≤ i → hasS l a = decide (0 ≤ idxS l a i)
  | [], _, _, _ => rfl
  | r :: l, a, i, h => by
    have ih := idxS_has l a (i + 1) (by omega)
    have e0 : hasS (r :: l) a = (r.1 == a || hasS l a) := rfl
    by_cases e : a = r.1
    · have : idxS (r :: l) a i = i := by rw [idxS, if_pos e]
      rw [e0, this, show (r.1 == a) = true by rw [e]; simp, decide_eq_true h]; rfl
    · have : idxS (r :: l) a i = idxS l a (i + 1) := by rw [idxS, if_neg e]
      rw [e0, this, show (r.1 == a) = false from beq_eq_false_iff_ne.2 (Ne.symm e), Bool.false_or, ih]
theorem txt_at {l : List (RowE [.str])} {i : Nat} (h : i < l.length) : l.drop i = getR [.str] l (i : Int) :: l.drop (i + 1) := by
  rw [List.drop_eq_getElem_cons h]
  simp [getR, List.getElem?_eq_getElem h]
theorem hasS_cons (r : RowE [.str]) (l : List (RowE [.str])) (a : B) : hasS (r :: l) a = (r.1 == a || hasS l a) := rfl
theorem moreS_no {l : List (RowE [.str])} {x : TR} (h : x.1 = 4 → hasS l x.2.1 = true) : moreS l x = l := by
  unfold moreS
  rw [if_neg]
  rintro ⟨h1, h2⟩
  rw [h h1] at h2; cases h2
theorem moreS_yes {l : List (RowE [.str])} {x : TR} (h : x.1 = 4) (h2 : hasS l x.2.1 = false) : moreS l x = l ++ [(x.2.1, ())] := by
  unfold moreS
  rw [if_pos ⟨h, h2⟩]
theorem moreS_len (l : List (RowE [.str])) (x : TR) : (moreS l x).length ≤ l.length + 1 := by
  unfold moreS; split
  · simp
  · omega
theorem varsS_len (t : T3) : (varsS t).length ≤ 3 := by
  unfold varsS
  have h1 := moreS_len [] (tS t)
  have h2 := moreS_len (moreS [] (tS t)) (tP t)
  have h3 := moreS_len (moreS (moreS [] (tS t)) (tP t)) (tO t)
  simp only [List.length_nil] at h1
  omega
theorem sameX_refl (l : List (RowE [.str])) : sameX l l = true := by simp [sameX, sameT1_refl]
end Go.Proofs.Ytgcjhcefpkbheaa.Sp
end
