/- Chapter 5 (words): plain functions. -/
import Derived.Test.YtfafmpiajlgojaaDoorSpD
import Derived.Test.YtfafmpiajlgojaaDoorLgF
namespace Go.Proofs.YtfafmpiajlgojaaDoor.Sp
open Go.Proofs.YtfafmpiajlgojaaDoor.Lg
def spaceI (c : Int) : Bool := decide (c = 32) || decide (c = 9) || decide (c = 10)
/-- How many bytes at the beginning are such ones. -/
def many (p : Int → Bool) : B → Nat
  | [] => 0
  | b :: s => if p (u b) then many p s + 1 else 0
theorem many_le (p : Int → Bool) (s : B) : many p s ≤ s.length := by
  induction s with
  | nil => simp [many]
  | cons b s ih => simp only [many]; split <;> simp; omega
def runI (k : Int) : Int → Bool := if k = 1 then spaceI else if k = 2 then letterI else digitI
/-- A word: its kind, its text, a term, its place. -/
abbrev Tok := Int × B × Int × B × B × B × Int × Unit
def decimalT : B := [104, 116, 116, 112, 58, 47, 47, 119, 119, 119, 46, 119, 51, 46, 111, 114, 103, 47, 50, 48, 48, 49, 47, 88, 77, 76, 83, 99, 104, 101, 109, 97, 35, 100, 101, 99, 105, 109, 97, 108]
def signs1 : B := [123, 125, 40, 41, 46, 44, 42, 43, 45, 47, 61, 60, 62, 33]
def two (s : B) : Bool := s.take 2 == [60, 61] || s.take 2 == [62, 61] || s.take 2 == [33, 61] || s.take 2 == [38, 38] || s.take 2 == [124, 124]
def signS (s : B) : B := if two s then s.take 2 else match s with | [] => [] | b :: _ => if isIn (u b) signs1 then [b] else []
def numS (s : B) : Tok × Nat :=
  let n := many digitI s
  if (s.drop n).head? = some 46 ∧ 0 < many digitI (s.drop (n + 1)) then
    ((3, [], 2, s.take (n + 1 + many digitI (s.drop (n + 1))), decimalT, [], 0, ()), n + 1 + many digitI (s.drop (n + 1)))
  else ((4, s.take n, 0, [], [], [], 0, ()), n)
def wordS (s : B) : Tok × Nat :=
  let p := prefixS s
  if 0 < p.2.2.2.2 then (if p.1 = 4 then ((2, p.2.1, 0, [], [], [], 0, ()), p.2.2.2.2.toNat) else ((3, [], p.1, p.2.1, p.2.2.1, p.2.2.2.1, 0, ()), p.2.2.2.2.toNat))
  else if 0 < many letterI s then ((1, s.take (many letterI s), 0, [], [], [], 0, ()), many letterI s)
  else if 0 < many digitI s then numS s
  else ((5, signS s, 0, [], [], [], 0, ()), (signS s).length)
def noTok : Tok := (0, [], 0, [], [], [], 0, ())
def atT (t : Tok) (n : Int) : Tok := (t.1, t.2.1, t.2.2.1, t.2.2.2.1, t.2.2.2.2.1, t.2.2.2.2.2.1, n, ())
def nextS (s : B) (a : Int) : Tok × Int × Int :=
  if a < 0 ∨ a > s.length then (noTok, 0, 2)
  else
    let p := a.toNat + many spaceI (s.drop a.toNat)
    if p = s.length then (noTok, p, 0)
    else
      let w := wordS (s.drop p)
      if w.2 = 0 then (noTok, 0, 2) else (atT w.1 p, ((p + w.2 : Nat) : Int), 0)
/-- All words from a place on, and where there is none. -/
def lexF : Nat → B → Nat → List Tok × Option Nat
  | 0, _, _ => ([], none)
  | k + 1, s, a =>
    let p := a + many spaceI (s.drop a)
    if p = s.length then ([], none)
    else
      let w := wordS (s.drop p)
      if w.2 = 0 then ([], some p) else (atT w.1 p :: (lexF k s (p + w.2)).1, (lexF k s (p + w.2)).2)
def lexS (s : B) : List Tok × Int × Int :=
  if s.length > 4096 then ([], 0, 3)
  else match (lexF (s.length + 1) s 0).2 with
    | none => ((lexF (s.length + 1) s 0).1, 0, 0)
    | some p => ([], p, 2)
def wtext (t : Tok) : B := if t.1 = 2 then 63 :: t.2.1 else if t.1 = 3 then (if right t.2.2.1 t.2.2.2.1 t.2.2.2.2.1 t.2.2.2.2.2.1 then textS t.2.2.1 t.2.2.2.1 t.2.2.2.2.1 t.2.2.2.2.2.1 else []) else t.2.1
def joinF : List Tok → B
  | [] => []
  | t :: l => 32 :: wtext t ++ joinF l
def joinS : List Tok → B
  | [] => []
  | t :: l => wtext t ++ joinF l
def sameW (a b : Tok) (pl : Bool) : Bool := decide (a.1 = b.1) && decide (a.2.1 = b.2.1) && decide (a.2.2.1 = b.2.2.1) && decide (a.2.2.2.1 = b.2.2.2.1) && decide (a.2.2.2.2.1 = b.2.2.2.2.1) && decide (a.2.2.2.2.2.1 = b.2.2.2.2.2.1) && (!pl || decide (a.2.2.2.2.2.2.1 = b.2.2.2.2.2.2.1))
def sameL (pl : Bool) : List Tok → List Tok → Bool
  | x :: a, y :: b => sameW x y pl && sameL pl a b
  | _, _ => true
def sameS (a b : List Tok) (pl : Bool) : Bool := decide (a.length = b.length) && sameL pl a b
end Go.Proofs.YtfafmpiajlgojaaDoor.Sp
namespace Go.Proofs.YtfafmpiajlgojaaDoor.Sp
open Go.Proofs.YtfafmpiajlgojaaDoor.Lg
theorem dec_signs : ∀ p : Fin 14, (Go.Utf8.decode ⟨signs1.toArray⟩ p.1).2 = 1 := by decide
theorem signs_ne (s : B) (h : s ≠ []) : signS s = if two s then s.take 2 else if isIn (byteAt s 0) signs1 then s.take 1 else [] := by
  cases s with
  | nil => exact absurd rfl h
  | cons b r => rfl
theorem signS_le (s : B) : (signS s).length ≤ s.length := by
  unfold signS
  split
  · simp; omega
  · split
    · simp
    · split <;> simp
theorem take_signS (s : B) : s.take (signS s).length = signS s := by
  unfold signS
  split
  · rename_i h
    have : 2 ≤ s.length := by
      match s, h with
      | [], h => simp [two] at h
      | [_], h => simp [two] at h
      | _ :: _ :: _, _ => simp
    rw [List.length_take, show min 2 s.length = 2 by omega]
  · split
    · rfl
    · split <;> simp
theorem runI1 : runI 1 = spaceI := rfl
theorem runI2 : runI 2 = letterI := rfl
theorem runI3 : runI 3 = digitI := rfl
theorem many_take (p : Int → Bool) (s : B) (n : Nat) : many p (s.take n) = min n (many p s) := by
  induction s generalizing n with
  | nil => simp [many]
  | cons b s ih =>
    cases n with
    | zero => simp [many]
    | succ n => simp only [List.take_succ_cons, many]; split; rw [ih]; omega; simp
theorem many_pos {p : Int → Bool} {s : B} (h : 0 < s.length) : (0 < many p s) = (p (byteAt s 0) = true) := by
  cases s with
  | nil => simp at h
  | cons b s =>
    have : byteAt (b :: s) 0 = u b := rfl
    rw [this, eq_iff_iff]; simp only [many]; split <;> simp_all
theorem head_byte {s : B} {n : Nat} (h : n < s.length) : ((s.drop n).head? = some 46) = (byteAt s n = 46) := by
  obtain ⟨b, hd, hb, _⟩ := byteAt_drop h
  rw [hd, hb, eq_iff_iff]
  simp only [List.head?_cons, Option.some.injEq]
  constructor
  · rintro rfl; rfl
  · intro q; exact u_inj q
end Go.Proofs.YtfafmpiajlgojaaDoor.Sp
namespace Go.Proofs.YtfafmpiajlgojaaDoor.Sp
open Go.Proofs.YtfafmpiajlgojaaDoor.Lg
theorem prefixS_le (s : B) : (prefixS s).2.2.2.2 ≤ s.length := by
  cases s with
  | nil => simp [prefixS, noTerm]
  | cons b r =>
    simp only [prefixS]
    split
    · split
      · rename_i hi; have := iriAt_le hi; simp at this ⊢; omega
      · simp [noTerm]; omega
    split
    · rw [literalS_eq]
      split
      · split
        · split
          · exact (behindS_le _ _ _ _ _ _ (by simp; omega)).2
          · simp [noTerm]; omega
        · simp [noTerm]; omega
      · simp [noTerm]; omega
    split
    · split
      · have := named_le r; simp; omega
      · simp [noTerm]; omega
    split
    · split
      · have := named_le (r.drop 1); rename_i h _; cases r with
        | nil => simp at h
        | cons c r => simp at this ⊢; omega
      · simp [noTerm]; omega
    · simp [noTerm]; omega
theorem wordS_le (s : B) : (wordS s).2 ≤ s.length := by
  have h1 := prefixS_le s
  have h2 := many_le letterI s
  have h3 := signS_le s
  unfold wordS
  dsimp only
  split
  · split <;> (simp only; omega)
  split
  · exact h2
  split
  · unfold numS
    dsimp only
    have h4 := many_le digitI s
    have h5 := many_le digitI (s.drop (many digitI s + 1))
    rw [List.length_drop] at h5
    split
    · rename_i hc
      have : many digitI s < s.length := by
        have := hc.1
        by_cases q : many digitI s < s.length
        · exact q
        · rw [List.drop_of_length_le (by omega)] at this; simp at this
      simp only; omega
    · exact h4
  · exact h3
end Go.Proofs.YtfafmpiajlgojaaDoor.Sp
namespace Go.Proofs.YtfafmpiajlgojaaDoor.Sp
open Go.Proofs.YtfafmpiajlgojaaDoor.Lg
theorem lexF_fuel : ∀ (k k' : Nat) (s : B) (a : Nat), s.length + 1 - a ≤ k → s.length + 1 - a ≤ k' → a ≤ s.length → lexF k s a = lexF k' s a
  | 0, k', s, a, h, _, ha => by omega
  | k + 1, 0, s, a, _, h, ha => by omega
  | k + 1, k' + 1, s, a, h, h', ha => by
    have hm := many_le spaceI (s.drop a)
    have hw := wordS_le (s.drop (a + many spaceI (s.drop a)))
    rw [List.length_drop] at hm hw
    simp only [lexF]
    by_cases q : a + many spaceI (s.drop a) = s.length
    · simp [q]
    · rw [if_neg q, if_neg q]
      by_cases q2 : (wordS (s.drop (a + many spaceI (s.drop a)))).2 = 0
      · simp [q2]
      · rw [if_neg q2, if_neg q2, lexF_fuel k k' s _ (by omega) (by omega) (by omega)]
theorem many_skip (p : Int → Bool) (s : B) (a : Nat) : many p (s.drop (a + many p (s.drop a))) = 0 := by
  rw [← List.drop_drop]
  generalize s.drop a = r
  induction r with
  | nil => simp [many]
  | cons b r ih =>
    simp only [many]
    split
    · exact ih
    · rename_i h; simp [many, h]
theorem lexF_skip (k : Nat) (s : B) (a : Nat) : lexF (k + 1) s (a + many spaceI (s.drop a)) = lexF (k + 1) s a := by
  simp only [lexF, many_skip, Nat.add_zero]
theorem wordS_kind (s : B) : (wordS s).1.1 ≠ 0 := by
  unfold wordS
  dsimp only
  split
  · split <;> simp
  split
  · simp
  split
  · unfold numS
    dsimp only
    split <;> simp
  · simp
theorem nextS_nat (s : B) (a : Nat) (h : a ≤ s.length) : nextS s a = if a + many spaceI (s.drop a) = s.length then (noTok, ((a + many spaceI (s.drop a) : Nat) : Int), 0)
    else if (wordS (s.drop (a + many spaceI (s.drop a)))).2 = 0 then (noTok, 0, 2) else (atT (wordS (s.drop (a + many spaceI (s.drop a)))).1 ((a + many spaceI (s.drop a) : Nat) : Int), ((a + many spaceI (s.drop a) + (wordS (s.drop (a + many spaceI (s.drop a)))).2 : Nat) : Int), 0) := by
  unfold nextS
  rw [if_neg (by omega), Int.toNat_natCast]
def lexR (s : B) (a : Nat) : List Tok × Option Nat := lexF (s.length + 1 - a) s a
theorem lexR_step (s : B) (a : Nat) (h : a ≤ s.length) : lexR s a = if a + many spaceI (s.drop a) = s.length then ([], none)
    else if (wordS (s.drop (a + many spaceI (s.drop a)))).2 = 0 then ([], some (a + many spaceI (s.drop a)))
    else (atT (wordS (s.drop (a + many spaceI (s.drop a)))).1 ((a + many spaceI (s.drop a) : Nat) : Int) :: (lexR s (a + many spaceI (s.drop a) + (wordS (s.drop (a + many spaceI (s.drop a)))).2)).1, (lexR s (a + many spaceI (s.drop a) + (wordS (s.drop (a + many spaceI (s.drop a)))).2)).2) := by
  have hm := many_le spaceI (s.drop a)
  have hw := wordS_le (s.drop (a + many spaceI (s.drop a)))
  rw [List.length_drop] at hm hw
  unfold lexR
  obtain ⟨k, hk⟩ : ∃ k, s.length + 1 - a = k + 1 := ⟨s.length - a, by omega⟩
  rw [hk]
  conv => lhs; unfold lexF
  by_cases q : a + many spaceI (s.drop a) = s.length
  · simp [q]
  · simp only [if_neg q]
    by_cases q2 : (wordS (s.drop (a + many spaceI (s.drop a)))).2 = 0
    · simp [q2]
    · simp only [if_neg q2]
      rw [lexF_fuel k _ s _ (by omega) (Nat.le_refl _) (by omega)]
theorem lexR_skip (s : B) (a : Nat) (h : a ≤ s.length) : lexR s (a + many spaceI (s.drop a)) = lexR s a := by
  have hm := many_le spaceI (s.drop a)
  rw [List.length_drop] at hm
  rw [lexR_step s a h, lexR_step s _ (by omega), many_skip, Nat.add_zero]
theorem lexS_eq (s : B) (h : s.length ≤ 4096) : lexS s = match (lexR s 0).2 with | none => ((lexR s 0).1, 0, 0) | some p => ([], p, 2) := by
  unfold lexS lexR
  rw [if_neg (by omega)]; rfl
def joinI (i : Nat) (l : List Tok) : B := if i = 0 then joinS l else joinF l
end Go.Proofs.YtfafmpiajlgojaaDoor.Sp
namespace Go.Proofs.YtfafmpiajlgojaaDoor.Sp
open Go.Proofs.YtfafmpiajlgojaaDoor.Lg
def szW (t : Tok) : Prop := t.2.1.length ≤ 140737488355328 ∧ t.2.2.2.1.length ≤ 140737488355328 ∧ t.2.2.2.2.1.length ≤ 140737488355328 ∧ t.2.2.2.2.2.1.length ≤ 140737488355328
theorem joinI_cons (i : Nat) (t : Tok) (l : List Tok) : joinI i (t :: l) = (if i = 0 then wtext t else 32 :: wtext t) ++ joinF l := by
  unfold joinI
  split <;> simp [joinS, joinF]
theorem joinI_nil (i : Nat) : joinI i [] = [] := by unfold joinI; split <;> rfl
theorem joinI_succ (i : Nat) (l : List Tok) : joinI (i + 1) l = joinF l := rfl
theorem joinF_cons (t : Tok) (l : List Tok) : (joinF (t :: l)).length = (wtext t).length + 1 + (joinF l).length := by simp [joinF]; omega
end Go.Proofs.YtfafmpiajlgojaaDoor.Sp
namespace Go.Proofs.YtfafmpiajlgojaaDoor.Sp
open Go.Proofs.YtfafmpiajlgojaaDoor.Lg
def allW (l : List Tok) : Prop := ∀ t ∈ l, szW t
/-- Where the last word from a place on ends. -/
def endF : Nat → B → Nat → Nat
  | 0, _, a => a
  | k + 1, s, a =>
    let p := a + many spaceI (s.drop a)
    if p = s.length then a else if (wordS (s.drop p)).2 = 0 then a else endF k s (p + (wordS (s.drop p)).2)
theorem endF_fuel : ∀ (k k' : Nat) (s : B) (a : Nat), s.length + 1 - a ≤ k → s.length + 1 - a ≤ k' → a ≤ s.length → endF k s a = endF k' s a
  | 0, k', s, a, h, _, ha => by omega
  | k + 1, 0, s, a, _, h, ha => by omega
  | k + 1, k' + 1, s, a, h, h', ha => by
    have hm := many_le spaceI (s.drop a)
    have hw := wordS_le (s.drop (a + many spaceI (s.drop a)))
    rw [List.length_drop] at hm hw
    simp only [endF]
    by_cases q : a + many spaceI (s.drop a) = s.length
    · simp [q]
    · rw [if_neg q, if_neg q]
      by_cases q2 : (wordS (s.drop (a + many spaceI (s.drop a)))).2 = 0
      · simp [q2]
      · rw [if_neg q2, if_neg q2, endF_fuel k k' s _ (by omega) (by omega) (by omega)]
def endR (s : B) (a : Nat) : Nat := endF (s.length + 1 - a) s a
theorem endR_step (s : B) (a : Nat) (h : a ≤ s.length) : endR s a = if a + many spaceI (s.drop a) = s.length then a
    else if (wordS (s.drop (a + many spaceI (s.drop a)))).2 = 0 then a else endR s (a + many spaceI (s.drop a) + (wordS (s.drop (a + many spaceI (s.drop a)))).2) := by
  have hm := many_le spaceI (s.drop a)
  have hw := wordS_le (s.drop (a + many spaceI (s.drop a)))
  rw [List.length_drop] at hm hw
  unfold endR
  obtain ⟨k, hk⟩ : ∃ k, s.length + 1 - a = k + 1 := ⟨s.length - a, by omega⟩
  rw [hk]
  conv => lhs; unfold endF
  by_cases q : a + many spaceI (s.drop a) = s.length
  · simp [q]
  · simp only [if_neg q]
    by_cases q2 : (wordS (s.drop (a + many spaceI (s.drop a)))).2 = 0
    · simp [q2]
    · simp only [if_neg q2]
      rw [endF_fuel k _ s _ (by omega) (Nat.le_refl _) (by omega)]
theorem endR_end : ∀ (n : Nat) (s : B) (a : Nat), s.length - a ≤ n → a ≤ s.length → (lexR s a).2 = none → endR s a ≤ s.length ∧ many spaceI (s.drop (endR s a)) = s.length - endR s a := by
  intro n
  induction n with
  | zero =>
    intro s a hn ha hl
    have : a = s.length := by omega
    subst this
    rw [endR_step _ _ (Nat.le_refl _)]
    simp [many]
  | succ n ih =>
    intro s a hn ha hl
    have hm := many_le spaceI (s.drop a)
    have hw := wordS_le (s.drop (a + many spaceI (s.drop a)))
    rw [List.length_drop] at hm hw
    rw [lexR_step s a ha] at hl
    rw [endR_step s a ha]
    by_cases q : a + many spaceI (s.drop a) = s.length
    · rw [if_pos q]; exact ⟨ha, by omega⟩
    · rw [if_neg q] at hl ⊢
      by_cases q2 : (wordS (s.drop (a + many spaceI (s.drop a)))).2 = 0
      · rw [if_pos q2] at hl; cases hl
      · rw [if_neg q2] at hl ⊢
        exact ih s _ (by omega) (by omega) hl
theorem lexR_len : ∀ (n : Nat) (s : B) (a : Nat), s.length - a ≤ n → a ≤ s.length → (lexR s a).1.length ≤ s.length - a := by
  intro n
  induction n with
  | zero =>
    intro s a hn ha
    have : a = s.length := by omega
    subst this
    rw [lexR_step _ _ (Nat.le_refl _)]
    simp [many]
  | succ n ih =>
    intro s a hn ha
    have hm := many_le spaceI (s.drop a)
    have hw := wordS_le (s.drop (a + many spaceI (s.drop a)))
    rw [List.length_drop] at hm hw
    rw [lexR_step s a ha]
    by_cases q : a + many spaceI (s.drop a) = s.length
    · rw [if_pos q]; simp
    · rw [if_neg q]
      by_cases q2 : (wordS (s.drop (a + many spaceI (s.drop a)))).2 = 0
      · rw [if_pos q2]; simp
      · rw [if_neg q2]
        have := ih s (a + many spaceI (s.drop a) + (wordS (s.drop (a + many spaceI (s.drop a)))).2) (by omega) (by omega)
        simp only [List.length_cons]; omega
theorem sameL_refl (pl : Bool) : ∀ l : List Tok, sameL pl l l = true
  | [] => rfl
  | x :: l => by simp [sameL, sameW, sameL_refl pl l]
theorem sameS_refl (l : List Tok) (pl : Bool) : sameS l l pl = true := by simp [sameS, sameL_refl]
end Go.Proofs.YtfafmpiajlgojaaDoor.Sp
namespace Go.Proofs.YtfafmpiajlgojaaDoor.Sp
theorem lexS_ok {s : B} (h : (lexS s).2.2 = 0) : s.length ≤ 4096 ∧ (lexS s).1 = (lexR s 0).1 ∧ (lexR s 0).2 = none := by
  by_cases hl : s.length ≤ 4096
  · rw [lexS_eq s hl] at h ⊢
    cases hr : (lexR s 0).2 with
    | none => exact ⟨hl, rfl, rfl⟩
    | some p => rw [hr] at h; cases h
  · rw [lexS, if_pos (by omega)] at h; cases h
theorem lexS_bad {s : B} (h : ¬ (lexS s).2.2 = 0) : (lexS s).1 = [] := by
  by_cases hl : s.length ≤ 4096
  · rw [lexS_eq s hl] at h ⊢
    cases hr : (lexR s 0).2 with
    | none => rw [hr] at h; exact absurd rfl h
    | some p => rfl
  · rw [lexS, if_pos (by omega)]
theorem lexS_len (s : B) : (lexS s).1.length ≤ 4096 := by
  by_cases h : (lexS s).2.2 = 0
  · obtain ⟨h1, h2, _⟩ := lexS_ok h
    rw [h2]
    have := lexR_len s.length s 0 (by omega) (by omega)
    omega
  · rw [lexS_bad h]; simp
end Go.Proofs.YtfafmpiajlgojaaDoor.Sp
namespace Go.Proofs.YtfafmpiajlgojaaDoor.Sp
open Go.Proofs.YtfafmpiajlgojaaDoor.Lg
theorem bulk_tok (t : Tok) : t.2.1.length + t.2.2.2.1.length + t.2.2.2.2.1.length + t.2.2.2.2.2.1.length + 4 ≤ RowE.bulk [.int .i64, .str, .int .i64, .str, .str, .str, .int .i64] t := by
  simp only [RowE.bulk, CE.bulk]; omega
theorem textS_len (k : Int) (a t l : B) : (textS k a t l).length ≤ 2 * a.length + t.length + l.length + 8 := by
  have := esc_le a
  unfold textS
  repeat' split
  all_goals simp only [quotedS, List.length_cons, List.length_append, List.length_nil]
  all_goals omega
theorem wtext_len (t : Tok) : (wtext t).length ≤ 2 * RowE.bulk [.int .i64, .str, .int .i64, .str, .str, .str, .int .i64] t := by
  have h1 := bulk_tok t
  have h2 := textS_len t.2.2.1 t.2.2.2.1 t.2.2.2.2.1 t.2.2.2.2.2.1
  unfold wtext
  repeat' split
  all_goals (try simp only [List.length_cons, List.length_nil])
  all_goals omega
theorem joinF_bulk : ∀ l : List Tok, (joinF l).length ≤ 3 * (l.map (RowE.bulk [.int .i64, .str, .int .i64, .str, .str, .str, .int .i64])).sum
  | [] => by simp [joinF]
  | t :: l => by
    have h1 := wtext_len t
    have h2 := bulk_tok t
    have h3 := joinF_bulk l
    rw [joinF_cons]; simp only [List.map_cons, List.sum_cons]; omega
theorem mem_sum {α : Type} {f : α → Nat} : ∀ {l : List α} {x : α}, x ∈ l → f x ≤ (l.map f).sum
  | y :: l, x, h => by
    rcases List.mem_cons.1 h with rfl | h
    · simp
    · have := mem_sum (f := f) h; simp only [List.map_cons, List.sum_cons]; omega
  | [], _, h => by cases h
theorem len_sum {α : Type} {f : α → Nat} (hf : ∀ x, 1 ≤ f x) : ∀ l : List α, l.length ≤ (l.map f).sum
  | [] => by simp
  | y :: l => by have := len_sum hf l; have := hf y; simp only [List.map_cons, List.sum_cons, List.length_cons]; omega
end Go.Proofs.YtfafmpiajlgojaaDoor.Sp
