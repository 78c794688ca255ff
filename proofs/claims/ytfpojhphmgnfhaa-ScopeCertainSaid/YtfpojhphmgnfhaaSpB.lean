/- Part of a proof of the seat's statements: no statement by itself. -/
import Derived.Test.YtfpojhphmgnfhaaSpA
namespace Go.Proofs.Ytfpojhphmgnfhaa.Sp
open Go.Proofs.Ytfpojhphmgnfhaa.Lg
def escB (b : UInt8) : B := if u b = 34 ∨ u b = 92 then [92, b] else if u b = 10 then [92, 110] else if u b = 9 then [92, 116] else [b]
def esc : B → B
  | [] => []
  | b :: s => escB b ++ esc s
def quotedS (s : B) : B := 34 :: (esc s ++ [34])
def textS (k : Int) (a t l : B) : B :=
  if k = 1 then 60 :: (a ++ [62]) else if k = 3 then 95 :: 58 :: a else if k = 4 then 63 :: a
  else if k = 2 then quotedS a ++ ((if t.isEmpty then [] else [94, 94, 60] ++ t ++ [62]) ++ (if l.isEmpty then [] else 64 :: l))
  else []
/-- A term, and how many bytes it has. -/
abbrev R := Int × B × B × B × Int
def noTerm : R := (0, [], [], [], 0)
def iriAt (s : B) : Option (B × Nat) :=
  if s.head? = some 60 ∧ 0 < Go.Lib.indexByte s 62 ∧ isIri ((s.take (Go.Lib.indexByte s 62).toNat).drop 1) then some ((s.take (Go.Lib.indexByte s 62).toNat).drop 1, (Go.Lib.indexByte s 62).toNat + 1) else none
def unesc (c : UInt8) : Option UInt8 := if u c = 34 then some 34 else if u c = 92 then some 92 else if u c = 110 then some 10 else if u c = 116 then some 9 else none
/-- A literal's bytes up to the quote that closes it: what they say, what is left. -/
def scan : B → Option (B × B)
  | [] => some ([], [])
  | b :: s =>
    if u b = 34 then some ([], b :: s)
    else if u b = 92 then match s with
      | [] => none
      | c :: r => match unesc c with
        | some d => (scan r).map fun x => (d :: x.1, x.2)
        | none => none
    else if u b = 10 ∨ u b = 9 then none
    else (scan s).map fun x => (b :: x.1, x.2)
def run : B → Nat
  | [] => 0
  | b :: s => if u b = 34 then 0 else if u b = 92 then (match s with | [] => 1 | _ :: r => run r + 2) else run s + 1
def lowRun : B → B
  | [] => []
  | b :: s => if lowI (u b) then b :: lowRun s else []
/-- What of a type or a language follows at i. -/
def behindS (k : Int) (a t l s : B) (i : Nat) : R :=
  let r := s.drop i
  if r.take 2 = [94, 94] then match iriAt (r.drop 2) with
    | some (x, n) => (k, a, x, l, (i + 2 + n : Nat))
    | none => (k, a, t, l, i)
  else if r.head? = some 64 ∧ isLang (lowRun (r.drop 1)) then (k, a, t, lowRun (r.drop 1), (i + 1 + (lowRun (r.drop 1)).length : Nat))
  else (k, a, t, l, i)
def literalS (s : B) : R := match scan (s.drop 1) with
  | some (out, _ :: r) => if isText out then behindS 2 out [] [] s (s.length - r.length) else noTerm
  | _ => noTerm
def prefixS (s : B) : R := match s with
  | [] => noTerm
  | b :: r =>
    if u b = 60 then match iriAt s with | some (x, n) => (1, x, [], [], n) | none => noTerm
    else if u b = 34 then literalS s
    else if u b = 63 then (if 0 < named r then (4, r.take (named r), [], [], (named r + 1 : Nat)) else noTerm)
    else if u b = 95 ∧ r.head? = some 58 then (if 0 < named (r.drop 1) then (3, (r.drop 1).take (named (r.drop 1)), [], [], (named (r.drop 1) + 2 : Nat)) else noTerm)
    else noTerm
def readS (s : B) : Int × B × B × B × Int :=
  let p := prefixS s
  if p.2.2.2.2 = s.length then (p.1, p.2.1, p.2.2.1, p.2.2.2.1, 0) else (0, [], [], [], 2)
/-- A text that may be read: what is gathered of it is not beyond what a slice may hold. -/
def okP (s : B) : Prop := s.length ≤ Big ∧ (s.length + 2 ≤ 140737488355328 ∨ (s.head? = some 34 → run (s.drop 1) + 2 ≤ 140737488355328 ∧ ((s.drop (run (s.drop 1) + 2)).take 2 = [94, 94] → (s.drop (run (s.drop 1) + 4)).head? = some 60)))
def rowsB (l : B) : List (RowE [.int .u8]) := l.map fun b => (u b, ())
theorem u92 : u 92 = 92 := rfl
theorem u34 : u 34 = 34 := rfl
theorem u110 : u 110 = 110 := rfl
theorem u116 : u 116 = 116 := rfl
theorem u10 : u 10 = 10 := rfl
theorem u9 : u 9 = 9 := rfl
theorem bytesStr_rowsB (l : B) : bytesStr (rowsB l) = l := by
  simp only [bytesStr, rowsB, List.map_map]
  conv => rhs; rw [← List.map_id l]
  refine List.map_congr_left fun b _ => ?_
  simp [u]
theorem rowsB_append (a b : B) : rowsB (a ++ b) = rowsB a ++ rowsB b := by simp [rowsB]
theorem esc_le (s : B) : (esc s).length ≤ 2 * s.length := by
  induction s with
  | nil => simp [esc]
  | cons b s ih =>
    have : (escB b).length ≤ 2 := by
      unfold escB
      split
      · simp
      · split
        · simp
        · split <;> simp
    simp only [esc, List.length_append, List.length_cons]; omega
end Go.Proofs.Ytfpojhphmgnfhaa.Sp
namespace Go.Proofs.Ytfpojhphmgnfhaa.Sp
open Go.Proofs.Ytfpojhphmgnfhaa.Lg
def loopL : B → Nat → Bool × B × Nat
  | [], n => (true, [], n)
  | b :: s, n =>
    if u b = 34 then (true, [], n)
    else if u b = 92 then match s with
      | [] => (false, [], n + 1)
      | c :: r => match unesc c with
        | some d => ((loopL r (n + 2)).1, d :: (loopL r (n + 2)).2.1, (loopL r (n + 2)).2.2)
        | none => (false, [], n + 1)
    else if u b = 10 ∨ u b = 9 then (false, [], n)
    else ((loopL s (n + 1)).1, b :: (loopL s (n + 1)).2.1, (loopL s (n + 1)).2.2)
theorem loopL_scan : ∀ (s : B) (n : Nat), match scan s with
    | some (o, r) => loopL s n = (true, o, n + (s.length - r.length)) ∧ r.length ≤ s.length ∧ (r = [] ∨ ∃ b t, r = b :: t ∧ u b = 34) ∧ r = s.drop (s.length - r.length) ∧ s.length - r.length = run s
    | none => (loopL s n).1 = false
  | [], n => by simp [scan, loopL, run]
  | [b], n => by
    by_cases h1 : u b = 34
    · simp [scan, loopL, run, h1]
    · by_cases h2 : u b = 92
      · simp [scan, loopL, h2]
      · by_cases h3 : u b = 10 ∨ u b = 9
        · simp [scan, loopL, h1, h2, h3]
        · simp [scan, loopL, run, h1, h2, h3]
  | b :: c :: r, n => by
    by_cases h1 : u b = 34
    · simp [scan, loopL, run, h1]
    · by_cases h2 : u b = 92
      · have ih := loopL_scan r (n + 2)
        cases hu : unesc c with
        | none => simp [scan, loopL, h2, hu]
        | some d =>
          cases hs : scan r with
          | none => rw [hs] at ih; simp [scan, loopL, h2, hu, hs, ih]
          | some p =>
            obtain ⟨o, q⟩ := p
            rw [hs] at ih
            obtain ⟨i1, i2, i3, i4, i5⟩ := ih
            simp only [scan, loopL, run, h2, hu, hs, i1, Option.map_some, if_true, (show ¬ ((92 : Int) = 34) by decide), if_false]
            have e : (b :: c :: r).length - q.length = (r.length - q.length) + 2 := by simp; omega
            refine ⟨by rw [e]; congr 2; omega, by simp; omega, i3, ?_, by rw [e, i5]⟩
            rw [e]; simpa using i4
      · by_cases h3 : u b = 10 ∨ u b = 9
        · simp [scan, loopL, h1, h2, h3]
        · have ih := loopL_scan (c :: r) (n + 1)
          have es : scan (b :: c :: r) = (scan (c :: r)).map fun x => (b :: x.1, x.2) := by
            conv => lhs; unfold scan
            simp [h1, h2, h3]
          have el : loopL (b :: c :: r) n = ((loopL (c :: r) (n + 1)).1, b :: (loopL (c :: r) (n + 1)).2.1, (loopL (c :: r) (n + 1)).2.2) := by
            conv => lhs; unfold loopL
            simp [h1, h2, h3]
          have er : run (b :: c :: r) = run (c :: r) + 1 := by
            conv => lhs; unfold run
            simp [h1, h2]
          rw [es, el, er]
          cases hs : scan (c :: r) with
          | none => rw [hs] at ih; simpa using ih
          | some p =>
            obtain ⟨o, q⟩ := p
            rw [hs] at ih
            obtain ⟨i1, i2, i3, i4, i5⟩ := ih
            simp only [Option.map_some, i1]
            have e : (b :: c :: r).length - q.length = ((c :: r).length - q.length) + 1 := by simp at i2 ⊢; omega
            refine ⟨by rw [e]; congr 2; omega, by simp at i2 ⊢; omega, i3, ?_, by rw [e, i5]⟩
            rw [e]
            have : (b :: c :: r).drop ((c :: r).length - q.length + 1) = (c :: r).drop ((c :: r).length - q.length) := rfl
            rw [this]; exact i4
theorem u_inj {b c : UInt8} (h : u b = u c) : b = c := by
  unfold u at h
  exact UInt8.toNat_inj.1 (by omega)
theorem u_toU8 (b : UInt8) : (u b).toNat.toUInt8 = b := by simp [u]
theorem unesc_ix (c : UInt8) : match unesc c with
    | some d => 0 ≤ Go.Lib.indexByte [34, 92, 110, 116] c ∧ Go.Lib.indexByte [34, 92, 110, 116] c < 4 ∧ byteAt [34, 92, 10, 9] (Go.Lib.indexByte [34, 92, 110, 116] c) = u d
    | none => Go.Lib.indexByte [34, 92, 110, 116] c < 0 := by
  by_cases h1 : c = 34
  · subst h1; exact ⟨by decide, by decide, by decide⟩
  by_cases h2 : c = 92
  · subst h2; exact ⟨by decide, by decide, by decide⟩
  by_cases h3 : c = 110
  · subst h3; exact ⟨by decide, by decide, by decide⟩
  by_cases h4 : c = 116
  · subst h4; exact ⟨by decide, by decide, by decide⟩
  have e1 : ¬ u c = 34 := fun h => h1 (u_inj h)
  have e2 : ¬ u c = 92 := fun h => h2 (u_inj h)
  have e3 : ¬ u c = 110 := fun h => h3 (u_inj h)
  have e4 : ¬ u c = 116 := fun h => h4 (u_inj h)
  simp only [unesc, e1, e2, e3, e4, if_false]
  have f : ∀ (x : UInt8), ¬ c = x → (x == c) = false := fun x h => by simp; exact fun q => h q.symm
  simp [Go.Lib.indexByte, f 34 h1, f 92 h2, f 110 h3, f 116 h4]
end Go.Proofs.Ytfpojhphmgnfhaa.Sp

namespace Go.Proofs.Ytfpojhphmgnfhaa.Sp
open Go.Proofs.Ytfpojhphmgnfhaa.Lg
theorem indexByte_le (s : B) (c : UInt8) : Go.Lib.indexByte s c < s.length ∨ Go.Lib.indexByte s c = -1 := by
  induction s with
  | nil => right; rfl
  | cons b s ih =>
    simp only [Go.Lib.indexByte]
    split
    · left; simp
    · split
      · right; rfl
      · rename_i h2
        simp at h2
        left
        rcases ih with h | h
        · simp; omega
        · exact absurd h h2
theorem iriAt_le {s x : B} {n : Nat} (h : iriAt s = some (x, n)) : n ≤ s.length := by
  unfold iriAt at h
  split at h
  · rename_i hc
    simp at h
    rw [← h.2]
    rcases indexByte_le s 62 with q | q
    · omega
    · have := hc.2.1; omega
  · cases h
theorem behindS_kind (k : Int) (a t l s : B) (i : Nat) : (behindS k a t l s i).1 = k := by
  unfold behindS
  simp only
  split
  · split <;> rfl
  · split <;> rfl
theorem prefixS_iri (s : B) : match iriAt s with
    | some (x, n) => prefixS s = (1, x, [], [], (n : Int))
    | none => ¬ (prefixS s).1 = 1 := by
  cases s with
  | nil => simp [iriAt, prefixS, noTerm]
  | cons b r =>
    by_cases h : u b = 60
    · have hb : b = 60 := u_inj h
      simp only [prefixS, h, if_true]
      cases hi : iriAt (b :: r) with
      | none => simp [noTerm]
      | some p => rfl
    · have hi : iriAt (b :: r) = none := by
        unfold iriAt
        rw [if_neg]
        rintro ⟨h1, _⟩
        simp at h1
        subst h1
        exact h rfl
      rw [hi]
      simp only [prefixS, h, if_false]
      split
      · unfold literalS
        split
        · split
          · rw [behindS_kind]; decide
          · simp [noTerm]
        · simp [noTerm]
      · split
        · split <;> simp [noTerm]
        · split
          · split <;> simp [noTerm]
          · simp [noTerm]
theorem lowRun_take (s : B) : s.take (lowRun s).length = lowRun s := by
  induction s with
  | nil => rfl
  | cons b s ih =>
    simp only [lowRun]
    split
    · simp [ih]
    · rfl
end Go.Proofs.Ytfpojhphmgnfhaa.Sp
namespace Go.Proofs.Ytfpojhphmgnfhaa.Sp
open Go.Proofs.Ytfpojhphmgnfhaa.Lg
theorem loopL_q {b : UInt8} {s : B} {n : Nat} (h : u b = 34) : loopL (b :: s) n = (true, [], n) := by
  conv => lhs; unfold loopL
  simp [h]
theorem loopL_e1 {b : UInt8} {n : Nat} (h : u b = 92) : loopL [b] n = (false, [], n + 1) := by simp [loopL, h]
theorem loopL_e2 {b c : UInt8} {s : B} {n : Nat} (h : u b = 92) (hu : unesc c = none) : loopL (b :: c :: s) n = (false, [], n + 1) := by simp [loopL, h, hu]
theorem loopL_e3 {b c d : UInt8} {s : B} {n : Nat} (h : u b = 92) (hu : unesc c = some d) : loopL (b :: c :: s) n = ((loopL s (n + 2)).1, d :: (loopL s (n + 2)).2.1, (loopL s (n + 2)).2.2) := by simp [loopL, h, hu]
theorem loopL_c {b : UInt8} {s : B} {n : Nat} (h : u b = 10 ∨ u b = 9) : loopL (b :: s) n = (false, [], n) := by
  conv => lhs; unfold loopL
  have h1 : ¬ u b = 34 := by omega
  have h2 : ¬ u b = 92 := by omega
  simp [h1, h2, h]
theorem loopL_o {b : UInt8} {s : B} {n : Nat} (h1 : ¬ u b = 34) (h2 : ¬ u b = 92) (h3 : ¬ (u b = 10 ∨ u b = 9)) : loopL (b :: s) n = ((loopL s (n + 1)).1, b :: (loopL s (n + 1)).2.1, (loopL s (n + 1)).2.2) := by
  conv => lhs; unfold loopL
  simp [h1, h2, h3]
theorem rowsB_cons (b : UInt8) (s : B) : rowsB (b :: s) = [(u b, ())] ++ rowsB s := rfl
end Go.Proofs.Ytfpojhphmgnfhaa.Sp

namespace Go.Proofs.Ytfpojhphmgnfhaa.Sp
open Go.Proofs.Ytfpojhphmgnfhaa.Lg
theorem scan_le : ∀ (s o r : B), scan s = some (o, r) → o.length ≤ s.length := by
  have key : ∀ (n : Nat) (s o r : B), s.length ≤ n → scan s = some (o, r) → o.length ≤ s.length := by
    intro n
    induction n with
    | zero =>
      intro s o r hs h
      have : s = [] := List.length_eq_zero_iff.1 (by omega)
      subst this
      simp [scan] at h
      simp [h.1]
    | succ n ih =>
      intro s o r hs h
      match s, hs, h with
      | [], _, h => simp [scan] at h; simp [h.1]
      | b :: s, hs, h =>
        unfold scan at h
        split at h
        · simp at h; simp [h.1]
        · split at h
          · split at h
            · cases h
            · rename_i c r'
              split at h
              · rename_i d hd
                cases hq : scan r' with
                | none => rw [hq] at h; simp at h
                | some p =>
                  rw [hq] at h
                  simp at h
                  have := ih r' p.1 p.2 (by simp at hs; omega) hq
                  rw [← h.1]; simp; omega
              · cases h
          · split at h
            · cases h
            · cases hq : scan s with
              | none => rw [hq] at h; simp at h
              | some p =>
                rw [hq] at h
                simp at h
                have := ih s p.1 p.2 (by simp at hs; omega) hq
                rw [← h.1]; simp; omega
  exact fun s o r h => key s.length s o r (Nat.le_refl _) h
end Go.Proofs.Ytfpojhphmgnfhaa.Sp

namespace Go.Proofs.Ytfpojhphmgnfhaa.Sp
theorem nameRun_le : ∀ (k : Nat) (s : B), nameRun k s ≤ s.length
  | 0, _ => by simp [nameRun]
  | _ + 1, [] => by simp [nameRun]
  | k + 1, b :: s => by
    have := nameRun_le k s
    simp only [nameRun]
    split
    · simp; omega
    · simp
theorem named_le (s : B) : named s ≤ s.length := by
  cases s with
  | nil => simp [named]
  | cons b s =>
    have := nameRun_le 31 s
    simp only [named]
    split
    · simp; omega
    · simp
theorem run_le : ∀ s : B, run s ≤ s.length
  | [] => by simp [run]
  | [b] => by simp [run]; split <;> (try split) <;> simp
  | b :: c :: r => by
    have h1 := run_le r
    have h2 := run_le (c :: r)
    unfold run
    split
    · simp
    · split
      · simp; omega
      · simp at h2 ⊢; omega
end Go.Proofs.Ytfpojhphmgnfhaa.Sp
