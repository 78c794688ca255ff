/- Chapter 1 (terms): what the program's functions and the document's are, as plain functions. -/
import Derived.Test.YtgcjhcefpkbheaaLgE1
section
namespace Go.Proofs.Ytgcjhcefpkbheaa.Sp
open Go.Proofs.Ytgcjhcefpkbheaa.Lg
abbrev B := List UInt8
def letterI (c : Int) : Bool := (decide (97 ≤ c) && decide (c ≤ 122)) || (decide (65 ≤ c) && decide (c ≤ 90))
def digitI (c : Int) : Bool := decide (48 ≤ c) && decide (c ≤ 57)
def nameI (c : Int) : Bool := letterI c || digitI c || decide (c = 95)
def badI (c : Int) : Bool := decide (c = 60) || decide (c = 62) || decide (c = 34) || decide (c = 123) || decide (c = 125) || decide (c = 124) || decide (c = 94) || decide (c = 96) || decide (c = 92)
def iriI (c : Int) : Bool := !(badI c) && decide (33 ≤ c) && decide (c ≤ 126)
def textI (c : Int) : Bool := (decide (32 ≤ c) && decide (c ≤ 126)) || decide (c = 10) || decide (c = 9)
def lowI (c : Int) : Bool := decide (97 ≤ c) && decide (c ≤ 122)
def u (b : UInt8) : Int := (b.toNat : Nat)
def allI (p : Int → Bool) (s : B) : Bool := s.all fun b => p (u b)
def isIri (s : B) : Bool := !s.isEmpty && decide (s.length ≤ 4096) && allI iriI s
def isText (s : B) : Bool := decide (s.length ≤ 4096) && allI textI s
def isLang (s : B) : Bool := !s.isEmpty && decide (s.length ≤ 8) && allI lowI s
/-- How many bytes of a name, at most k. -/
def nameRun : Nat → B → Nat
  | 0, _ => 0
  | _ + 1, [] => 0
  | k + 1, b :: s => if nameI (u b) then nameRun k s + 1 else 0
def named : B → Nat
  | [] => 0
  | b :: s => if letterI (u b) then nameRun 31 s + 1 else 0
def isName (s : B) : Bool := !s.isEmpty && decide (named s = s.length)
/-- Why a term is not right (0: it is). -/
def right (k : Int) (a t l : B) : Bool :=
  if k = 0 then t.isEmpty && l.isEmpty && a.isEmpty
  else if k = 1 then t.isEmpty && l.isEmpty && isIri a
  else if k = 3 ∨ k = 4 then t.isEmpty && l.isEmpty && isName a
  else if k = 2 then isText a && (t.isEmpty || isIri t && l.isEmpty) && (l.isEmpty || isLang l)
  else false
def betw (a b c : Int) : Bool := decide (b ≤ a) && decide (a ≤ c)
def isIn (c : Int) (s : B) : Bool := s.any fun b => decide (c = u b)
def kindI (k c : Int) : Bool := if k = 1 then iriI c else if k = 2 then textI c else if k = 3 then nameI c else if k = 4 then lowI c else false
theorem isIn_bad (c : Int) : isIn c [60, 62, 34, 123, 125, 124, 94, 96, 92] = badI c := by
  simp [isIn, badI, u, Bool.or_assoc]
  rfl
theorem kindI2 : kindI 2 = textI := by funext c; simp [kindI]
theorem kindI1 : kindI 1 = iriI := by funext c; simp [kindI]
theorem kindI3 : kindI 3 = nameI := by funext c; simp [kindI]
theorem kindI4 : kindI 4 = lowI := by funext c; simp [kindI]
theorem nameRun_all : ∀ (k : Nat) (s : B), (nameRun k s = s.length ↔ s.length ≤ k ∧ allI nameI s = true)
  | 0, s => by cases s <;> simp [nameRun, allI]
  | k + 1, [] => by simp [nameRun, allI]
  | k + 1, b :: s => by
    have := nameRun_all k s
    simp only [nameRun, List.length_cons, allI, List.all_cons, Bool.and_eq_true] at this ⊢
    by_cases h : nameI (u b) = true
    · rw [if_pos h]; simp [h, this, allI]
    · rw [if_neg h]; simp [h]
theorem letter_name {c : Int} (h : letterI c = true) : nameI c = true := by simp [nameI, h]
theorem isName_eq (s : B) : isName s = (decide (1 ≤ s.length) && decide (s.length ≤ 32) && allI (kindI 3) s && (match s with | [] => false | b :: _ => letterI (u b))) := by
  rw [kindI3]
  cases s with
  | nil => simp [isName]
  | cons b s =>
    have h31 := nameRun_all 31 s
    have hn : named (b :: s) = if letterI (u b) then nameRun 31 s + 1 else 0 := rfl
    have e : (isName (b :: s) = true) ↔ named (b :: s) = s.length + 1 := by simp [isName]
    rw [Bool.eq_iff_iff, e, hn]
    by_cases h : letterI (u b) = true
    · rw [if_pos h]
      simp only [List.length_cons, Bool.and_eq_true, decide_eq_true_eq, h, and_true]
      have ha : allI nameI (b :: s) = allI nameI s := by simp [allI, letter_name h]
      rw [ha]
      constructor
      · intro q
        have := h31.1 (by omega)
        exact ⟨⟨by omega, by omega⟩, this.2⟩
      · intro q
        have := h31.2 ⟨by omega, q.2⟩
        omega
    · rw [if_neg h]; simp [h]
def Big : Nat := 1152921504606846976
end Go.Proofs.Ytgcjhcefpkbheaa.Sp
end

section
namespace Go.Proofs.Ytgcjhcefpkbheaa.Sp
open Go.Proofs.Ytgcjhcefpkbheaa.Lg
def escB (b : UInt8) : B := if u b = 34 ∨ u b = 92 then [92, b] else if u b = 10 then [92, 110] else if u b = 9 then [92, 116] else [b]
def esc : B → B
  | [] => []
  | b :: s => escB b ++ esc s
def quotedS (s : B) : B := 34 :: (esc s ++ [34])
def textS (k : Int) (a t l : B) : B :=
  if k = 1 then 60 :: (a ++ [62]) else if k = 3 then 95 :: 58 :: a else if k = 4 then 63 :: a
  else if k = 2 then quotedS a ++ ((if t.isEmpty then [] else [94, 94, 60] ++ t ++ [62]) ++ (if l.isEmpty then [] else 64 :: l))
  else []
/-- A term, and how many bytes it has. -/
abbrev R := Int × B × B × B × Int
def noTerm : R := (0, [], [], [], 0)
def iriAt (s : B) : Option (B × Nat) :=
  if s.head? = some 60 ∧ 0 < Go.Lib.indexByte s 62 ∧ isIri ((s.take (Go.Lib.indexByte s 62).toNat).drop 1) then some ((s.take (Go.Lib.indexByte s 62).toNat).drop 1, (Go.Lib.indexByte s 62).toNat + 1) else none
def unesc (c : UInt8) : Option UInt8 := if u c = 34 then some 34 else if u c = 92 then some 92 else if u c = 110 then some 10 else if u c = 116 then some 9 else none
/-- A literal's bytes up to the quote that closes it: what they say, what is left. -/
def scan : B → Option (B × B)
  | [] => some ([], [])
  | b :: s =>
    if u b = 34 then some ([], b :: s)
    else if u b = 92 then match s with
      | [] => none
      | c :: r => match unesc c with
        | some d => (scan r).map fun x => (d :: x.1, x.2)
        | none => none
    else if u b = 10 ∨ u b = 9 then none
    else (scan s).map fun x => (b :: x.1, x.2)
def run : B → Nat
  | [] => 0
  | b :: s => if u b = 34 then 0 else if u b = 92 then (match s with | [] => 1 | _ :: r => run r + 2) else run s + 1
def lowRun : B → B
  | [] => []
  | b :: s => if lowI (u b) then b :: lowRun s else []
/-- What of a type or a language follows at i. -/
def behindS (k : Int) (a t l s : B) (i : Nat) : R :=
  let r := s.drop i
  if r.take 2 = [94, 94] then match iriAt (r.drop 2) with
    | some (x, n) => (k, a, x, l, (i + 2 + n : Nat))
    | none => (k, a, t, l, i)
  else if r.head? = some 64 ∧ isLang (lowRun (r.drop 1)) then (k, a, t, lowRun (r.drop 1), (i + 1 + (lowRun (r.drop 1)).length : Nat))
  else (k, a, t, l, i)
def literalS (s : B) : R := match scan (s.drop 1) with
  | some (out, _ :: r) => if isText out then behindS 2 out [] [] s (s.length - r.length) else noTerm
  | _ => noTerm
def prefixS (s : B) : R := match s with
  | [] => noTerm
  | b :: r =>
    if u b = 60 then match iriAt s with | some (x, n) => (1, x, [], [], n) | none => noTerm
    else if u b = 34 then literalS s
    else if u b = 63 then (if 0 < named r then (4, r.take (named r), [], [], (named r + 1 : Nat)) else noTerm)
    else if u b = 95 ∧ r.head? = some 58 then (if 0 < named (r.drop 1) then (3, (r.drop 1).take (named (r.drop 1)), [], [], (named (r.drop 1) + 2 : Nat)) else noTerm)
    else noTerm
def readS (s : B) : Int × B × B × B × Int :=
  let p := prefixS s
  if p.2.2.2.2 = s.length then (p.1, p.2.1, p.2.2.1, p.2.2.2.1, 0) else (0, [], [], [], 2)
/-- A text that may be read: what is gathered of it is not beyond what a slice may hold. -/
def okP (s : B) : Prop := s.length ≤ Big ∧ (s.length + 2 ≤ 140737488355328 ∨ (s.head? = some 34 → run (s.drop 1) + 2 ≤ 140737488355328 ∧ ((s.drop (run (s.drop 1) + 2)).take 2 = [94, 94] → (s.drop (run (s.drop 1) + 4)).head? = some 60)))
def rowsB (l : B) : List (RowE [.int .u8]) := l.map fun b => (u b, ())
theorem u92 : u 92 = 92 := rfl
theorem u34 : u 34 = 34 := rfl
theorem u110 : u 110 = 110 := rfl
theorem u116 : u 116 = 116 := rfl
theorem u10 : u 10 = 10 := rfl
theorem u9 : u 9 = 9 := rfl
theorem bytesStr_rowsB (l : B) : bytesStr (rowsB l) = l := by
  simp only [bytesStr, rowsB, List.map_map]
  conv => rhs; rw [← List.map_id l]
  refine List.map_congr_left fun b _ => ?_
  simp [u]
theorem rowsB_append (a b : B) : rowsB (a ++ b) = rowsB a ++ rowsB b := by simp [rowsB]
theorem esc_le (s : B) : (esc s).length ≤ 2 * s.length := by
  induction s with
  | nil => simp [esc]
  | cons b s ih =>
    have : (escB b).length ≤ 2 := by
      unfold escB
      split
      · simp
      · split
        · simp
        · split <;> simp
    simp only [esc, List.length_append, List.length_cons]; omega
end Go.Proofs.Ytgcjhcefpkbheaa.Sp
namespace Go.Proofs.Ytgcjhcefpkbheaa.Sp
open Go.Proofs.Ytgcjhcefpkbheaa.Lg
def loopL : B → Nat → Bool × B × Nat
  | [], n => (true, [], n)
  | b :: s, n =>
    if u b = 34 then (true, [], n)
    else if u b = 92 then match s with
      | [] => (false, [], n + 1)
      | c :: r => match unesc c with
        | some d => ((loopL r (n + 2)).1, d :: (loopL r (n + 2)).2.1, (loopL r (n + 2)).2.2)
        | none => (false, [], n + 1)
    else if u b = 10 ∨ u b = 9 then (false, [], n)
    else ((loopL s (n + 1)).1, b :: (loopL s (n + 1)).2.1, (loopL s (n + 1)).2.2)
theorem loopL_scan : ∀ (s : B) (n : Nat), match scan s with
    | some (o, r) => loopL s n = (true, o, n + (s.length - r.length)) ∧ r.length ≤ s.length ∧ (r = [] ∨ ∃ b t, r = b :: t ∧ u b = 34) ∧ r = s.drop (s.length - r.length) ∧ s.length - r.length = run s
    | none => (loopL s n).1 = false
  | [], n => by simp [scan, loopL, run]
  | [b], n => by
    by_cases h1 : u b = 34
    · simp [scan, loopL, run, h1]
    · by_cases h2 : u b = 92
      · simp [scan, loopL, h2]
      · by_cases h3 : u b = 10 ∨ u b = 9
        · simp [scan, loopL, h1, h2, h3]
        · simp [scan, loopL, run, h1, h2, h3]
  | b :: c :: r, n => by
    by_cases h1 : u b = 34
    · simp [scan, loopL, run, h1]
    · by_cases h2 : u b = 92
      · have ih := loopL_scan r (n + 2)
        cases hu : unesc c with
        | none => simp [scan, loopL, h2, hu]
        | some d =>
          cases hs : scan r with
          | none => rw [hs] at ih; simp [scan, loopL, h2, hu, hs, ih]
          | some p =>
            obtain ⟨o, q⟩ := p
            rw [hs] at ih
            obtain ⟨i1, i2, i3, i4, i5⟩ := ih
            simp only [scan, loopL, run, h2, hu, hs, i1, Option.map_some, if_true, (show ¬ ((92 : Int) = 34) by decide), if_false]
            have e : (b :: c :: r).length - q.length = (r.length - q.length) + 2 := by simp; omega
            refine ⟨by rw [e]; congr 2; omega, by simp; omega, i3, ?_, by rw [e, i5]⟩
            rw [e]; simpa using i4
      · by_cases h3 : u b = 10 ∨ u b = 9
        · simp [scan, loopL, h1, h2, h3]
        · have ih := loopL_scan (c :: r) (n + 1)
          have es : scan (b :: c :: r) = (scan (c :: r)).map fun x => (b :: x.1, x.2) := by
            conv => lhs; unfold scan
            simp [h1, h2, h3]
          have el : loopL (b :: c :: r) n = ((loopL (c :: r) (n + 1)).1, b :: (loopL (c :: r) (n + 1)).2.1, (loopL (c :: r) (n + 1)).2.2) := by
            conv => lhs; unfold loopL
            simp [h1, h2, h3]
          have er : run (b :: c :: r) = run (c :: r) + 1 := by
            conv => lhs; unfold run
            simp [h1, h2]
          rw [es, el, er]
          cases hs : scan (c :: r) with
          | none => rw [hs] at ih; simpa using ih
          | some p =>
            obtain ⟨o, q⟩ := p
            rw [hs] at ih
            obtain ⟨i1, i2, i3, i4, i5⟩ := ih
            simp only [Option.map_some, i1]
            have e : (b :: c :: r).length - q.length = ((c :: r).length - q.length) + 1 := by simp at i2 ⊢; omega
            refine ⟨by rw [e]; congr 2; omega, by simp at i2 ⊢; omega, i3, ?_, by rw [e, i5]⟩
            rw [e]
            have : (b :: c :: r).drop ((c :: r).length - q.length + 1) = (c :: r).drop ((c :: r).length - q.length) := rfl
            rw [this]; exact i4
theorem u_inj {b c : UInt8} (h : u b = u c) : b = c := by
  unfold u at h
  exact UInt8.toNat_inj.1 (by omega)
theorem u_toU8 (b : UInt8) : (u b).toNat.toUInt8 = b := by simp [u]
theorem unesc_ix (c : UInt8) : match unesc c with
    | some d => 0 ≤ Go.Lib.indexByte [34, 92, 110, 116] c ∧ Go.Lib.indexByte [34, 92, 110, 116] c < 4 ∧ byteAt [34, 92, 10, 9] (Go.Lib.indexByte [34, 92, 110, 116] c) = u d
    | none => Go.Lib.indexByte [34, 92, 110, 116] c < 0 := by
  by_cases h1 : c = 34
  · subst h1; exact ⟨by decide, by decide, by decide⟩
  by_cases h2 : c = 92
  · subst h2; exact ⟨by decide, by decide, by decide⟩
  by_cases h3 : c = 110
  · subst h3; exact ⟨by decide, by decide, by decide⟩
  by_cases h4 : c = 116
  · subst h4; exact ⟨by decide, by decide, by decide⟩
  have e1 : ¬ u c = 34 := fun h => h1 (u_inj h)
  have e2 : ¬ u c = 92 := fun h => h2 (u_inj h)
  have e3 : ¬ u c = 110 := fun h => h3 (u_inj h)
  have e4 : ¬ u c = 116 := fun h => h4 (u_inj h)
  simp only [unesc, e1, e2, e3, e4, if_false]
  have f : ∀ (x : UInt8), ¬ c = x → (x == c) = false := fun x h => by simp; exact fun q => h q.symm
  simp [Go.Lib.indexByte, f 34 h1, f 92 h2, f 110 h3, f 116 h4]
end Go.Proofs.Ytgcjhcefpkbheaa.Sp

namespace Go.Proofs.Ytgcjhcefpkbheaa.Sp
open Go.Proofs.Ytgcjhcefpkbheaa.Lg
theorem indexByte_le (s : B) (c : UInt8) : Go.Lib.indexByte s c < s.length ∨ Go.Lib.indexByte s c = -1 := by
  induction s with
  | nil => right; rfl
  | cons b s ih =>
    simp only [Go.Lib.indexByte]
    split
    · left; simp
    · split
      · right; rfl
      · rename_i h2
        simp at h2
        left
        rcases ih with h | h
        · simp; omega
        · exact absurd h h2
theorem iriAt_le {s x : B} {n : Nat} (h : iriAt s = some (x, n)) : n ≤ s.length := by
  unfold iriAt at h
  split at h
  · rename_i hc
    simp at h
    rw [← h.2]
    rcases indexByte_le s 62 with q | q
    · omega
    · have := hc.2.1; omega
  · cases h
theorem behindS_kind (k : Int) (a t l s : B) (i : Nat) : (behindS k a t l s i).1 = k := by
  unfold behindS
  simp only
  split
  · split <;> rfl
  · split <;> rfl
theorem prefixS_iri (s : B) : match iriAt s with
    | some (x, n) => prefixS s = (1, x, [], [], (n : Int))
    | none => ¬ (prefixS s).1 = 1 := by
  cases s with
  | nil => simp [iriAt, prefixS, noTerm]
  | cons b r =>
    by_cases h : u b = 60
    · have hb : b = 60 := u_inj h
      simp only [prefixS, h, if_true]
      cases hi : iriAt (b :: r) with
      | none => simp [noTerm]
      | some p => rfl
    · have hi : iriAt (b :: r) = none := by
        unfold iriAt
        rw [if_neg]
        rintro ⟨h1, _⟩
        simp at h1
        subst h1
        exact h rfl
      rw [hi]
      simp only [prefixS, h, if_false]
      split
      · unfold literalS
        split
        · split
          · rw [behindS_kind]; decide
          · simp [noTerm]
        · simp [noTerm]
      · split
        · split <;> simp [noTerm]
        · split
          · split <;> simp [noTerm]
          · simp [noTerm]
theorem lowRun_take (s : B) : s.take (lowRun s).length = lowRun s := by
  induction s with
  | nil => rfl
  | cons b s ih =>
    simp only [lowRun]
    split
    · simp [ih]
    · rfl
end Go.Proofs.Ytgcjhcefpkbheaa.Sp
namespace Go.Proofs.Ytgcjhcefpkbheaa.Sp
open Go.Proofs.Ytgcjhcefpkbheaa.Lg
theorem loopL_q {b : UInt8} {s : B} {n : Nat} (h : u b = 34) : loopL (b :: s) n = (true, [], n) := by
  conv => lhs; unfold loopL
  simp [h]
theorem loopL_e1 {b : UInt8} {n : Nat} (h : u b = 92) : loopL [b] n = (false, [], n + 1) := by simp [loopL, h]
theorem loopL_e2 {b c : UInt8} {s : B} {n : Nat} (h : u b = 92) (hu : unesc c = none) : loopL (b :: c :: s) n = (false, [], n + 1) := by simp [loopL, h, hu]
theorem loopL_e3 {b c d : UInt8} {s : B} {n : Nat} (h : u b = 92) (hu : unesc c = some d) : loopL (b :: c :: s) n = ((loopL s (n + 2)).1, d :: (loopL s (n + 2)).2.1, (loopL s (n + 2)).2.2) := by simp [loopL, h, hu]
theorem loopL_c {b : UInt8} {s : B} {n : Nat} (h : u b = 10 ∨ u b = 9) : loopL (b :: s) n = (false, [], n) := by
  conv => lhs; unfold loopL
  have h1 : ¬ u b = 34 := by omega
  have h2 : ¬ u b = 92 := by omega
  simp [h1, h2, h]
theorem loopL_o {b : UInt8} {s : B} {n : Nat} (h1 : ¬ u b = 34) (h2 : ¬ u b = 92) (h3 : ¬ (u b = 10 ∨ u b = 9)) : loopL (b :: s) n = ((loopL s (n + 1)).1, b :: (loopL s (n + 1)).2.1, (loopL s (n + 1)).2.2) := by
  conv => lhs; unfold loopL
  simp [h1, h2, h3]
theorem rowsB_cons (b : UInt8) (s : B) : rowsB (b :: s) = [(u b, ())] ++ rowsB s := rfl
end Go.Proofs.Ytgcjhcefpkbheaa.Sp

namespace Go.Proofs.Ytgcjhcefpkbheaa.Sp
open Go.Proofs.Ytgcjhcefpkbheaa.Lg
theorem scan_le : ∀ (s o r : B), scan s = some (o, r) → o.length ≤ s.length := by
  have key : ∀ (n : Nat) (s o r : B), s.length ≤ n → scan s = some (o, r) → o.length ≤ s.length := by
    intro n
    induction n with
    | zero =>
      intro s o r hs h
      have : s = [] := List.length_eq_zero_iff.1 (by omega)
      subst this
      simp [scan] at h
      simp [h.1]
    | succ n ih =>
      intro s o r hs h
      match s, hs, h with
      | [], _, h => simp [scan] at h; simp [h.1]
      | b :: s, hs, h =>
        unfold scan at h
        split at h
        · simp at h; simp [h.1]
        · split at h
          · split at h
            · cases h
            · rename_i c r'
              split at h
              · rename_i d hd
                cases hq : scan r' with
                | none => rw [hq] at h; simp at h
                | some p =>
                  rw [hq] at h
                  simp at h
                  have := ih r' p.1 p.2 (by simp at hs; omega) hq
                  rw [← h.1]; simp; omega
              · cases h
          · split at h
            · cases h
            · cases hq : scan s with
              | none => rw [hq] at h; simp at h
              | some p =>
                rw [hq] at h
                simp at h
                have := ih s p.1 p.2 (by simp at hs; omega) hq
                rw [← h.1]; simp; omega
  exact fun s o r h => key s.length s o r (Nat.le_refl _) h
end Go.Proofs.Ytgcjhcefpkbheaa.Sp

namespace Go.Proofs.Ytgcjhcefpkbheaa.Sp
theorem nameRun_le : ∀ (k : Nat) (s : B), nameRun k s ≤ s.length
  | 0, _ => by simp [nameRun]
  | _ + 1, [] => by simp [nameRun]
  | k + 1, b :: s => by
    have := nameRun_le k s
    simp only [nameRun]
    split
    · simp; omega
    · simp
theorem named_le (s : B) : named s ≤ s.length := by
  cases s with
  | nil => simp [named]
  | cons b s =>
    have := nameRun_le 31 s
    simp only [named]
    split
    · simp; omega
    · simp
theorem run_le : ∀ s : B, run s ≤ s.length
  | [] => by simp [run]
  | [b] => by simp [run]; split <;> (try split) <;> simp
  | b :: c :: r => by
    have h1 := run_le r
    have h2 := run_le (c :: r)
    unfold run
    split
    · simp
    · split
      · simp; omega
      · simp at h2 ⊢; omega
end Go.Proofs.Ytgcjhcefpkbheaa.Sp
end

section
namespace Go.Proofs.Ytgcjhcefpkbheaa.Sp
open Go.Proofs.Ytgcjhcefpkbheaa.Lg
theorem escB_le (b : UInt8) : (escB b).length ≤ 2 := by
  unfold escB
  split
  · simp
  · split
    · simp
    · split <;> simp
theorem escB_eq (b : UInt8) : escB b = if (b.toNat : Int) = 34 then [92, 34] else if (b.toNat : Int) = 92 then [92, 92] else if (b.toNat : Int) = 10 then [92, 110] else if (b.toNat : Int) = 9 then [92, 116] else [b] := by
  unfold escB
  by_cases h1 : u b = 34
  · have hb : b = 34 := u_inj (by rw [h1]; rfl)
    subst hb; rfl
  · by_cases h2 : u b = 92
    · have hb : b = 92 := u_inj (by rw [h2]; rfl)
      subst hb; rfl
    · rw [if_neg (by rintro (h | h) <;> contradiction), if_neg (c := (b.toNat : Int) = 34) h1, if_neg (c := (b.toNat : Int) = 92) h2]
      rfl
theorem take_drop_one {α : Type} {l : List α} {m : Nat} {b : α} (h : l[m]? = some b) : (l.take (m + 1)).drop m = [b] := by
  rw [List.drop_take, Nat.add_sub_cancel_left]
  obtain ⟨hm, he⟩ := List.getElem?_eq_some_iff.1 h
  rw [List.drop_eq_getElem_cons hm, he]; rfl
/-- The text of escapes. -/
def unescS : B → Option B
  | [] => some []
  | b :: s => if u b = 92 then (match s with | [] => none | c :: r => match unesc c with | some d => (unescS r).map (d :: ·) | none => none)
    else if u b = 34 ∨ u b = 10 ∨ u b = 9 then none else (unescS s).map (b :: ·)
theorem scan_unesc : ∀ (n : Nat) (r : B), r.length ≤ n → scan r = (unescS (r.take (run r))).map fun o => (o, r.drop (run r))
  | 0, r, h => by
    obtain rfl : r = [] := List.length_eq_zero_iff.1 (by omega)
    simp [scan, unescS, run]
  | n + 1, [], _ => by simp [scan, unescS, run]
  | n + 1, b :: s, h => by
    by_cases h1 : u b = 34
    · have er : run (b :: s) = 0 := by conv => lhs; unfold run
                                       simp [h1]
      have e1 : scan (b :: s) = some ([], b :: s) := by conv => lhs; unfold scan
                                                        simp [h1]
      rw [er, e1]; rfl
    by_cases h2 : u b = 92
    · cases s with
      | nil => simp [scan, run, unescS, h2]
      | cons c r =>
        have ih := scan_unesc n r (by simp at h; omega)
        have er : run (b :: c :: r) = run r + 2 := by simp [run, h2]
        rw [er]
        simp only [scan, h2, (show ¬ ((92 : Int) = 34) by decide), if_false, if_true, List.take_succ_cons, List.drop_succ_cons, unescS]
        cases hu : unesc c with
        | none => simp
        | some d => rw [ih]; simp [Option.map_map, Function.comp_def]
    by_cases h3 : u b = 10 ∨ u b = 9
    · have er : run (b :: s) = run s + 1 := by conv => lhs; unfold run
                                               simp [h1, h2]
      rw [er]
      have e1 : scan (b :: s) = none := by conv => lhs; unfold scan
                                           simp [h1, h2, h3]
      rw [e1, List.take_succ_cons]
      conv => rhs; unfold unescS
      simp [h2, h3]
    · have ih := scan_unesc n s (by simp at h; omega)
      have er : run (b :: s) = run s + 1 := by conv => lhs; unfold run
                                               simp [h1, h2]
      have e1 : scan (b :: s) = (scan s).map fun x => (b :: x.1, x.2) := by conv => lhs; unfold scan
                                                                            simp [h1, h2, h3]
      rw [er, e1, ih, List.take_succ_cons, List.drop_succ_cons]
      have h4 : ¬ (u b = 34 ∨ u b = 10 ∨ u b = 9) := by rintro (q | q | q) <;> simp_all
      have e2 : unescS (b :: s.take (run s)) = (unescS (s.take (run s))).map (b :: ·) := by conv => lhs; unfold unescS
                                                                                            simp [h2, h4]
      rw [e2]; simp [Option.map_map, Function.comp_def]
theorem literalS_eq (b : UInt8) (r : B) : literalS (b :: r) = if run r < r.length then (match unescS (r.take (run r)) with | some o => if isText o then behindS 2 o [] [] (b :: r) (run r + 2) else noTerm | none => noTerm) else noTerm := by
  have hs := scan_unesc r.length r (Nat.le_refl _)
  have hl := loopL_scan r 1
  unfold literalS
  rw [show (b :: r).drop 1 = r from rfl, hs] at *
  cases hu : unescS (r.take (run r)) with
  | none => simp
  | some o =>
    simp only [Option.map_some]
    by_cases hr : run r < r.length
    · rw [if_pos hr, List.drop_eq_getElem_cons hr]
      simp only [List.length_cons, List.length_drop]
      rw [show r.length + 1 - (r.length - (run r + 1)) = run r + 2 by omega]
    · rw [if_neg hr, List.drop_of_length_le (by omega)]
theorem nameRun_take : ∀ (k m : Nat) (s : B), nameRun k (s.take m) = min m (nameRun k s)
  | 0, m, s => by simp [nameRun]
  | k + 1, 0, s => by simp [nameRun]
  | k + 1, m + 1, [] => by simp [nameRun]
  | k + 1, m + 1, b :: s => by
    simp only [List.take_succ_cons, nameRun]
    split
    · rw [nameRun_take k m s]; omega
    · simp
theorem named_take (m : Nat) (s : B) : named (s.take m) = min m (named s) := by
  cases s with
  | nil => simp [named]
  | cons b s =>
    cases m with
    | zero => simp [named]
    | succ m =>
      simp only [List.take_succ_cons, named]
      split
      · rw [nameRun_take]; omega
      · simp
theorem isName_take {s : B} {n : Nat} (h : n < s.length) : isName (s.take (n + 1)) = decide (n + 1 ≤ named s) := by
  unfold isName
  rw [named_take]
  have : (s.take (n + 1)).length = n + 1 := by simp; omega
  rw [this, Bool.eq_iff_iff]
  have h2 : (s.take (n + 1)).isEmpty = false := by cases hq : s.take (n + 1) <;> simp_all
  simp [h2]; omega
theorem named_le32 (s : B) : named s ≤ 32 := by
  have : ∀ k s, nameRun k s ≤ k := by
    intro k
    induction k with
    | zero => intro s; simp [nameRun]
    | succ k ih =>
      intro s
      cases s with
      | nil => simp [nameRun]
      | cons b s => simp only [nameRun]; split; have := ih s; omega; omega
  cases s with
  | nil => simp [named]
  | cons b s => simp only [named]; split; have := this 31 s; omega; omega

/-! Places of bytes -/
theorem indexByte_neg {s : B} {c : UInt8} : Go.Lib.indexByte s c < 0 ↔ c ∉ s := by
  induction s with
  | nil => simp [Go.Lib.indexByte]
  | cons b s ih =>
    have := Go.Lib.indexByte_ge s c
    simp only [Go.Lib.indexByte]
    by_cases h : b = c
    · subst h; simp
    · have hb : (b == c) = false := by simp [h]
      rw [hb]
      simp only [Bool.false_eq_true, if_false, List.mem_cons, not_or, Ne.symm h, not_false_eq_true, true_and, ← ih]
      split
      · rename_i q; simp at q; omega
      · rename_i q; simp at q; omega
theorem indexByte_append {s : B} {c : UInt8} (r : B) (h : c ∉ s) : Go.Lib.indexByte (s ++ c :: r) c = s.length := by
  induction s with
  | nil => simp [Go.Lib.indexByte]
  | cons b s ih =>
    simp only [List.mem_cons, not_or] at h
    have hb : (b == c) = false := by simp [Ne.symm h.1]
    simp only [List.cons_append, Go.Lib.indexByte, hb, ih h.2]
    simp
theorem indexByte_split {s : B} {c : UInt8} (h : 0 ≤ Go.Lib.indexByte s c) : s = s.take (Go.Lib.indexByte s c).toNat ++ c :: s.drop ((Go.Lib.indexByte s c).toNat + 1) ∧ c ∉ s.take (Go.Lib.indexByte s c).toNat := by
  induction s with
  | nil => simp [Go.Lib.indexByte] at h
  | cons b s ih =>
    have hg := Go.Lib.indexByte_ge s c
    simp only [Go.Lib.indexByte] at h ⊢
    by_cases hb : b = c
    · subst hb; simp
    · have hb' : (b == c) = false := by simp [hb]
      rw [hb'] at h ⊢
      simp only [Bool.false_eq_true, if_false] at h ⊢
      split at h
      · omega
      · rename_i q
        have q' : ¬ Go.Lib.indexByte s c = -1 := by simpa using q
        rw [if_neg q]
        obtain ⟨i1, i2⟩ := ih (by omega)
        have e : (Go.Lib.indexByte s c + 1).toNat = (Go.Lib.indexByte s c).toNat + 1 := by omega
        rw [e, List.take_succ_cons, List.drop_succ_cons]
        refine ⟨?_, ?_⟩
        · rw [List.cons_append, ← i1]
        · simp only [List.mem_cons, not_or]; exact ⟨Ne.symm hb, i2⟩

/-! Which of two texts is ahead -/
def diffB : B → B → Int
  | a :: as, b :: bs => if a < b then -1 else if b < a then 1 else diffB as bs
  | _, _ => 0
theorem compare_diff : ∀ a b : B, Go.Lib.compareBytes a b = if diffB a b = 0 then (if a.length < b.length then -1 else if a.length > b.length then 1 else 0) else diffB a b
  | [], [] => by simp [Go.Lib.compareBytes, diffB]
  | [], _ :: _ => by simp [Go.Lib.compareBytes, diffB]
  | _ :: _, [] => by simp [Go.Lib.compareBytes, diffB]
  | a :: as, b :: bs => by
    have := compare_diff as bs
    simp only [Go.Lib.compareBytes, diffB]
    split
    · simp
    · split
      · simp
      · rw [this]; simp
abbrev TR := Int × B × B × B × Unit
def rightT (t : TR) : Bool := right t.1 t.2.1 t.2.2.1 t.2.2.2.1
def textT (t : TR) : B := textS t.1 t.2.1 t.2.2.1 t.2.2.2.1
/-- Which of two terms is ahead. -/
def cmpT (a b : TR) : Int :=
  if a.1 < b.1 then -1 else if b.1 < a.1 then 1
  else if Go.Lib.compareBytes a.2.1 b.2.1 ≠ 0 then Go.Lib.compareBytes a.2.1 b.2.1
  else if Go.Lib.compareBytes a.2.2.1 b.2.2.1 ≠ 0 then Go.Lib.compareBytes a.2.2.1 b.2.2.1
  else Go.Lib.compareBytes a.2.2.2.1 b.2.2.2.1
end Go.Proofs.Ytgcjhcefpkbheaa.Sp
namespace Go.Proofs.Ytgcjhcefpkbheaa.Sp
open Go.Proofs.Ytgcjhcefpkbheaa.Lg
theorem byteAt_u {s : B} {n : Nat} {b : UInt8} (h : s[n]? = some b) : byteAt s (n : Int) = u b := by simp [byteAt, h, u]
theorem run_q {b : UInt8} (s : B) (h : u b = 34) : run (b :: s) = 0 := by unfold run; simp [h]
theorem run_o {b : UInt8} (s : B) (h : ¬ u b = 34) (k : ¬ u b = 92) : run (b :: s) = run s + 1 := by
  conv => lhs; unfold run
  simp [h, k]
theorem u_ge (b : UInt8) : 0 ≤ u b := by unfold u; omega
theorem u_lt (b : UInt8) : u b < 256 := by
  have := b.toNat_lt
  unfold u; omega
end Go.Proofs.Ytgcjhcefpkbheaa.Sp
namespace Go.Proofs.Ytgcjhcefpkbheaa.Sp
theorem u_toU8' (b : UInt8) : ((b.toNat : Nat) : Int).toNat.toUInt8 = b := by simp
end Go.Proofs.Ytgcjhcefpkbheaa.Sp
namespace Go.Proofs.Ytgcjhcefpkbheaa.Sp
theorem unesc_e {b c : UInt8} {s : B} (h : u b = 92) : unescS (b :: c :: s) = match unesc c with | some d => (unescS s).map (d :: ·) | none => none := by simp only [unescS, h, if_true]
theorem unesc_bad {b : UInt8} (s : B) (h : ¬ u b = 92) (k : u b = 34 ∨ u b = 10 ∨ u b = 9) : unescS (b :: s) = none := by
  conv => lhs; unfold unescS
  simp [h, k]
theorem unesc_o {b : UInt8} (s : B) (h : ¬ u b = 92) (k : ¬ (u b = 34 ∨ u b = 10 ∨ u b = 9)) : unescS (b :: s) = (unescS s).map (b :: ·) := by
  conv => lhs; unfold unescS
  simp [h, k]
theorem unesc_none {c : UInt8} (h : unesc c = none) : ¬ u c = 34 ∧ ¬ u c = 92 ∧ ¬ u c = 110 ∧ ¬ u c = 116 := by
  unfold unesc at h
  refine ⟨?_, ?_, ?_, ?_⟩ <;> intro q <;> simp [q] at h
theorem unesc_some {c d : UInt8} (h : unesc c = some d) : (u c = 34 ∧ d = 34) ∨ (u c = 92 ∧ d = 92) ∨ (u c = 110 ∧ d = 10) ∨ (u c = 116 ∧ d = 9) := by
  unfold unesc at h
  by_cases h1 : u c = 34
  · simp [h1] at h; exact .inl ⟨h1, h.symm⟩
  by_cases h2 : u c = 92
  · simp [h2] at h; exact .inr (.inl ⟨h2, h.symm⟩)
  by_cases h3 : u c = 110
  · simp [h3] at h; exact .inr (.inr (.inl ⟨h3, h.symm⟩))
  by_cases h4 : u c = 116
  · simp [h4] at h; exact .inr (.inr (.inr ⟨h4, h.symm⟩))
  simp [h1, h2, h3, h4] at h
end Go.Proofs.Ytgcjhcefpkbheaa.Sp
namespace Go.Proofs.Ytgcjhcefpkbheaa.Sp
open Go.Proofs.Ytgcjhcefpkbheaa.Lg
theorem lowRun_len (s : B) : (lowRun s).length ≤ s.length := by
  induction s with
  | nil => simp [lowRun]
  | cons b s ih => simp only [lowRun]; split <;> simp; omega
theorem indexByte_skip {s : B} {b c : UInt8} (h : ¬ b = c) : Go.Lib.indexByte (b :: s) c = if Go.Lib.indexByte s c = -1 then -1 else Go.Lib.indexByte s c + 1 := by
  have hb : (b == c) = false := by simp [h]
  simp [Go.Lib.indexByte, hb]
/-- What the document's 'typed' finds: as behindS does. -/
theorem behind_iri (a : B) (r : B) : behindS 2 a [] [] (94 :: 94 :: 60 :: r) 0 = if 0 < Go.Lib.indexByte (94 :: 94 :: 60 :: r) 62 ∧ isIri (((94 :: 94 :: 60 :: r).take (Go.Lib.indexByte (94 :: 94 :: 60 :: r) 62).toNat).drop 3) then (2, a, ((94 :: 94 :: 60 :: r).take (Go.Lib.indexByte (94 :: 94 :: 60 :: r) 62).toNat).drop 3, [], Go.Lib.indexByte (94 :: 94 :: 60 :: r) 62 + 1) else (2, a, [], [], 0) := by
  have hg := Go.Lib.indexByte_ge r 62
  have e1 : Go.Lib.indexByte (60 :: r) 62 = if Go.Lib.indexByte r 62 = -1 then -1 else Go.Lib.indexByte r 62 + 1 := indexByte_skip (by decide)
  have e2 : Go.Lib.indexByte (94 :: 94 :: 60 :: r) 62 = if Go.Lib.indexByte r 62 = -1 then -1 else Go.Lib.indexByte r 62 + 3 := by
    rw [indexByte_skip (by decide), indexByte_skip (by decide), e1]
    by_cases h : Go.Lib.indexByte r 62 = -1
    · simp [h]
    · rw [if_neg h, if_neg h, if_neg (by omega), if_neg (by omega)]; omega
  rw [e2]
  unfold behindS
  simp only [List.drop_zero, List.take_succ_cons, List.take_zero, if_true, List.drop_succ_cons, iriAt, List.head?_cons, e1]
  by_cases h : Go.Lib.indexByte r 62 = -1
  · simp [h]
  · rw [if_neg h, if_neg h]
    have t1 : (Go.Lib.indexByte r 62 + 1).toNat = (Go.Lib.indexByte r 62).toNat + 1 := by omega
    have t2 : (Go.Lib.indexByte r 62 + 3).toNat = (Go.Lib.indexByte r 62).toNat + 3 := by omega
    rw [t1, t2]
    simp only [List.take_succ_cons, List.drop_succ_cons, List.drop_zero, true_and, show (0 < Go.Lib.indexByte r 62 + 1) = True by simp; omega, show (0 < Go.Lib.indexByte r 62 + 3) = True by simp; omega]
    by_cases q : isIri (r.take (Go.Lib.indexByte r 62).toNat) = true
    · simp only [q, if_true]
      congr 4
      omega
    · simp [q]
theorem behind_other (a : B) (r : B) (h : ¬ r.take 3 = [94, 94, 60]) : behindS 2 a [] [] r 0 = if r.head? = some 64 ∧ isLang (lowRun (r.drop 1)) then (2, a, [], lowRun (r.drop 1), ((1 + (lowRun (r.drop 1)).length : Nat) : Int)) else (2, a, [], [], 0) := by
  unfold behindS
  simp only [List.drop_zero]
  by_cases q : r.take 2 = [94, 94]
  · match r, q, h with
    | b :: c :: r', q, h =>
      simp at q
      obtain ⟨rfl, rfl⟩ := q
      have hi : iriAt r' = none := by
        unfold iriAt
        rw [if_neg]
        rintro ⟨hh, _⟩
        cases r' with
        | nil => simp at hh
        | cons d r'' => simp at hh; subst hh; simp at h
      simp [hi]
    | [b], q, _ => simp at q
    | [], q, _ => simp at q
  · rw [if_neg q]; simp
end Go.Proofs.Ytgcjhcefpkbheaa.Sp
namespace Go.Proofs.Ytgcjhcefpkbheaa.Sp
open Go.Proofs.Ytgcjhcefpkbheaa.Lg
theorem behindS_shift (k : Int) (a t l s : B) (i : Nat) : behindS k a t l s i = ((behindS k a t l (s.drop i) 0).1, (behindS k a t l (s.drop i) 0).2.1, (behindS k a t l (s.drop i) 0).2.2.1, (behindS k a t l (s.drop i) 0).2.2.2.1, (behindS k a t l (s.drop i) 0).2.2.2.2 + i) := by
  unfold behindS
  simp only [List.drop_zero]
  by_cases q : (s.drop i).take 2 = [94, 94]
  · rw [if_pos q, if_pos q]
    cases iriAt ((s.drop i).drop 2) with
    | none => simp
    | some p => simp; omega
  · rw [if_neg q, if_neg q]
    by_cases z : (s.drop i).head? = some 64 ∧ isLang (lowRun ((s.drop i).drop 1))
    · rw [if_pos z, if_pos z]; simp; omega
    · rw [if_neg z, if_neg z]; simp
theorem behindS_le (k : Int) (a t l s : B) (i : Nat) (h : i ≤ s.length) : (i : Int) ≤ (behindS k a t l s i).2.2.2.2 ∧ (behindS k a t l s i).2.2.2.2 ≤ s.length := by
  unfold behindS
  simp only
  split
  · split
    · rename_i hi; have := iriAt_le hi; rw [List.length_drop, List.length_drop] at this
      rename_i hq _ _ _
      have : 2 ≤ (s.drop i).length := by
        have := congrArg List.length hq; rw [List.length_take] at this; simp at this ⊢; omega
      rw [List.length_drop] at this
      constructor
      · simp; omega
      · simp; omega
    · exact ⟨by simp, by simp; omega⟩
  · split
    · rename_i hq
      have h1 := lowRun_len ((s.drop i).drop 1)
      rw [List.length_drop, List.length_drop] at h1
      have : 0 < (s.drop i).length := by cases hs : s.drop i <;> simp_all
      rw [List.length_drop] at this
      refine ⟨?_, ?_⟩
      · show (i : Int) ≤ ((i + 1 + (lowRun ((s.drop i).drop 1)).length : Nat) : Int); omega
      · show ((i + 1 + (lowRun ((s.drop i).drop 1)).length : Nat) : Int) ≤ _; omega
    · exact ⟨by simp, by simp; omega⟩
end Go.Proofs.Ytgcjhcefpkbheaa.Sp
namespace Go.Proofs.Ytgcjhcefpkbheaa.Sp
theorem prefixS_one (b : UInt8) : prefixS [b] = noTerm := by
  by_cases h1 : u b = 60
  · obtain rfl : b = 60 := u_inj h1
    rfl
  by_cases h2 : u b = 34
  · obtain rfl : b = 34 := u_inj h2
    rfl
  by_cases h3 : u b = 63
  · obtain rfl : b = 63 := u_inj h3
    rfl
  by_cases h4 : u b = 95
  · obtain rfl : b = 95 := u_inj h4
    rfl
  simp only [prefixS, h1, h2, h3, h4, if_false, false_and]
end Go.Proofs.Ytgcjhcefpkbheaa.Sp
end

section
namespace Go.Proofs.Ytgcjhcefpkbheaa.Sp
open Go.Proofs.Ytgcjhcefpkbheaa.Lg
/-! A term's text, read. -/
def stops (r : B) : Prop := r = [] ∨ ∃ q, r = 32 :: q
theorem all_mem {p : Int → Bool} {s : B} (h : allI p s = true) : ∀ b ∈ s, p (u b) = true := by
  simpa [allI] using h
theorem iri_no62 {x : B} (h : isIri x = true) : (62 : UInt8) ∉ x := by
  intro hm
  simp only [isIri, Bool.and_eq_true] at h
  have := all_mem h.2 62 hm
  exact absurd this (by decide)
theorem iriAt_text {x : B} (h : isIri x = true) (r : B) : iriAt (60 :: (x ++ 62 :: r)) = some (x, x.length + 2) := by
  have hi : Go.Lib.indexByte (60 :: (x ++ 62 :: r)) 62 = ((x.length + 1 : Nat) : Int) := by
    have := indexByte_append (s := 60 :: x) (c := 62) r (by simp; exact iri_no62 h)
    simpa using this
  unfold iriAt
  rw [hi, Int.toNat_natCast]
  have e : ((60 :: (x ++ 62 :: r)).take (x.length + 1)).drop 1 = x := by simp
  rw [e, if_pos ⟨rfl, by omega, h⟩]
theorem nameRun_append : ∀ (k : Nat) (a r : B), nameRun k a = a.length → (∀ b q, r = b :: q → nameI (u b) = false) → nameRun k (a ++ r) = a.length
  | 0, a, r, h, _ => by simpa [nameRun] using h
  | k + 1, [], r, _, hr => by
    cases r with
    | nil => simp [nameRun]
    | cons b q => simp [nameRun, hr b q rfl]
  | k + 1, b :: a, r, h, hr => by
    simp only [nameRun, List.length_cons] at h
    split at h
    · rename_i hb
      simp only [List.cons_append, nameRun, hb, if_true, List.length_cons]
      rw [nameRun_append k a r (by omega) hr]
    · omega
theorem named_append {a r : B} (h : isName a = true) (hr : ∀ b q, r = b :: q → nameI (u b) = false) : named (a ++ r) = a.length := by
  simp only [isName, Bool.and_eq_true, decide_eq_true_eq] at h
  cases a with
  | nil => simp at h
  | cons b a =>
    have h2 := h.2
    simp only [named, List.length_cons] at h2
    split at h2
    · rename_i hb
      simp only [List.cons_append, named, hb, if_true, List.length_cons]
      rw [nameRun_append 31 a r (by omega) hr]
    · omega
theorem stops_name {r : B} (h : stops r) : ∀ b q, r = b :: q → nameI (u b) = false := by
  rintro b q e
  rcases h with rfl | ⟨_, rfl⟩
  · cases e
  · cases e; decide
theorem isName_pos {a : B} (h : isName a = true) : 0 < a.length := by
  cases a with
  | nil => simp [isName] at h
  | cons _ _ => simp
theorem esc_app (a : B) (b : UInt8) : esc (b :: a) = escB b ++ esc a := rfl
theorem scan_esc : ∀ (a : B), allI textI a = true → ∀ q : B, scan (esc a ++ 34 :: q) = some (a, 34 :: q)
  | [], _, q => by
    show scan (34 :: q) = _
    conv => lhs; unfold scan
    rfl
  | b :: a, h, q => by
    simp only [allI, List.all_cons, Bool.and_eq_true] at h
    have ih := scan_esc a h.2 q
    rw [esc_app, List.append_assoc]
    unfold escB
    by_cases h1 : u b = 34
    · obtain rfl : b = 34 := u_inj h1
      rw [if_pos (.inl h1)]
      show scan (92 :: 34 :: (esc a ++ 34 :: q)) = _
      conv => lhs; unfold scan
      rw [if_neg (by decide), if_pos (by decide)]
      show Option.map _ (scan (esc a ++ 34 :: q)) = _
      rw [ih]; rfl
    by_cases h2 : u b = 92
    · obtain rfl : b = 92 := u_inj h2
      rw [if_pos (.inr h2)]
      show scan (92 :: 92 :: (esc a ++ 34 :: q)) = _
      conv => lhs; unfold scan
      rw [if_neg (by decide), if_pos (by decide)]
      show Option.map _ (scan (esc a ++ 34 :: q)) = _
      rw [ih]; rfl
    rw [if_neg (by rintro (z | z) <;> contradiction)]
    by_cases h3 : u b = 10
    · obtain rfl : b = 10 := u_inj h3
      rw [if_pos h3]
      show scan (92 :: 110 :: (esc a ++ 34 :: q)) = _
      conv => lhs; unfold scan
      rw [if_neg (by decide), if_pos (by decide)]
      show Option.map _ (scan (esc a ++ 34 :: q)) = _
      rw [ih]; rfl
    rw [if_neg h3]
    by_cases h4 : u b = 9
    · obtain rfl : b = 9 := u_inj h4
      rw [if_pos h4]
      show scan (92 :: 116 :: (esc a ++ 34 :: q)) = _
      conv => lhs; unfold scan
      rw [if_neg (by decide), if_pos (by decide)]
      show Option.map _ (scan (esc a ++ 34 :: q)) = _
      rw [ih]; rfl
    rw [if_neg h4]
    show scan (b :: (esc a ++ 34 :: q)) = _
    conv => lhs; unfold scan
    rw [if_neg h1, if_neg h2, if_neg (by rintro (z | z) <;> contradiction), ih]; rfl
theorem lowRun_append {l r : B} (h : allI lowI l = true) (hr : ∀ b q, r = b :: q → lowI (u b) = false) : lowRun (l ++ r) = l := by
  induction l with
  | nil =>
    cases r with
    | nil => rfl
    | cons b q => simp [lowRun, hr b q rfl]
  | cons b l ih =>
    simp only [allI, List.all_cons, Bool.and_eq_true] at h
    simp only [List.cons_append, lowRun, h.1, if_true]
    rw [ih h.2]
theorem literal_text {a t l r : B} (ha : isText a = true) (h : (t = [] ∨ (isIri t = true ∧ l = [])) ∧ (l = [] ∨ isLang l = true)) (hs : stops r) :
    literalS (quotedS a ++ ((if t.isEmpty then [] else [94, 94, 60] ++ t ++ [62]) ++ (if l.isEmpty then [] else 64 :: l)) ++ r) = (2, a, t, l, ((quotedS a ++ ((if t.isEmpty then [] else [94, 94, 60] ++ t ++ [62]) ++ (if l.isEmpty then [] else 64 :: l))).length : Int)) := by
  simp only [isText, Bool.and_eq_true, decide_eq_true_eq] at ha
  generalize hq : ((if t.isEmpty then [] else [94, 94, 60] ++ t ++ [62]) ++ (if l.isEmpty then [] else 64 :: l) : B) = q
  have e1 : quotedS a ++ q ++ r = 34 :: (esc a ++ 34 :: (q ++ r)) := by simp [quotedS]
  have hsc := scan_esc a ha.2 (q ++ r)
  rw [e1]
  unfold literalS
  rw [show List.drop 1 (34 :: (esc a ++ 34 :: (q ++ r))) = esc a ++ 34 :: (q ++ r) from rfl, hsc]
  have hit : isText a = true := by simp [isText, ha]
  simp only [hit, if_true]
  have el : (34 :: (esc a ++ 34 :: (q ++ r))).length - (q ++ r).length = (esc a).length + 2 := by simp; omega
  have ed : (34 :: (esc a ++ 34 :: (q ++ r))).drop ((esc a).length + 2) = q ++ r := by
    rw [show (esc a).length + 2 = ((esc a).length + 1) + 1 by omega, List.drop_succ_cons]
    rw [List.drop_append]
    simp
  rw [el]
  unfold behindS
  simp only [ed]
  have hql : ((quotedS a ++ q).length : Int) = (esc a).length + 2 + q.length := by simp [quotedS]; omega
  have hr2 : ∀ b z, r = b :: z → b = 32 := by
    rintro b z e
    rcases hs with rfl | ⟨_, rfl⟩
    · cases e
    · cases e; rfl
  rcases h.1 with ht | ⟨ht, hl⟩
  · subst ht
    rcases h.2 with hl | hl
    · subst hl
      simp at hq; subst hq
      have n1 : ¬ (r.take 2 = [94, 94]) := by
        rcases hs with rfl | ⟨z, rfl⟩
        · simp
        · cases z <;> simp
      have n2 : ¬ (r.head? = some 64 ∧ isLang (lowRun (r.drop 1)) = true) := by
        rcases hs with rfl | ⟨z, rfl⟩ <;> simp
      simp only [List.nil_append, if_neg n1, if_neg n2]
      simp [quotedS]; omega
    · have hle : l.isEmpty = false := by cases l <;> simp_all [isLang]
      simp [hle] at hq; subst hq
      simp only [isLang, Bool.and_eq_true] at hl
      have hlr : lowRun (l ++ r) = l := lowRun_append hl.2 (by
        rintro b z e; rw [hr2 b z e]; decide)
      have n1 : ¬ ((64 :: l ++ r).take 2 = [94, 94]) := by
        cases l <;> simp_all
      have hil : isLang l = true := by simp [isLang, hl]
      simp only [List.cons_append, List.drop_succ_cons, List.drop_zero, hlr, List.head?_cons, hil, and_self, if_true]
      rw [if_neg (by simp)]
      rw [hql]
      simp; omega
  · subst hl
    have hte : t.isEmpty = false := by cases t <;> simp_all [isIri]
    simp [hte] at hq; subst hq
    have hi := iriAt_text ht r
    simp only [List.cons_append, List.append_assoc, List.nil_append, List.take_succ_cons, List.take_zero, if_true, List.drop_succ_cons, List.drop_zero, hi]
    rw [hql]
    simp; omega
theorem prefix_text {k : Int} {a t l r : B} (h : right k a t l = true) (hk : k ≠ 0) (hs : stops r) : prefixS (textS k a t l ++ r) = (k, a, t, l, ((textS k a t l).length : Int)) := by
  unfold right at h
  rw [if_neg hk] at h
  by_cases h1 : k = 1
  · subst h1
    simp at h
    obtain ⟨⟨rfl, rfl⟩, hi⟩ := h
    have := iriAt_text hi r
    have e : textS 1 a [] [] = 60 :: (a ++ [62]) := rfl
    have e2 : (60 :: (a ++ [62])) ++ r = 60 :: (a ++ 62 :: r) := by simp
    rw [e, e2]
    show (match iriAt (60 :: (a ++ 62 :: r)) with | some (x, n) => (1, x, [], [], (n : Int)) | none => noTerm) = _
    rw [this]
    simp; omega
  rw [if_neg h1] at h
  by_cases h3 : k = 3 ∨ k = 4
  · rw [if_pos h3] at h
    simp at h
    obtain ⟨⟨rfl, rfl⟩, hn⟩ := h
    have hna := named_append hn (stops_name hs)
    have hp := isName_pos hn
    rcases h3 with rfl | rfl
    · show (if 0 < named (a ++ r) then ((3 : Int), (a ++ r).take (named (a ++ r)), ([] : B), ([] : B), ((named (a ++ r) + 2 : Nat) : Int)) else noTerm) = (3, a, [], [], ((a.length + 2 : Nat) : Int))
      rw [hna, if_pos hp]; simp
    · show (if 0 < named (a ++ r) then ((4 : Int), (a ++ r).take (named (a ++ r)), ([] : B), ([] : B), ((named (a ++ r) + 1 : Nat) : Int)) else noTerm) = (4, a, [], [], ((a.length + 1 : Nat) : Int))
      rw [hna, if_pos hp]; simp
  rw [if_neg h3] at h
  by_cases h2 : k = 2
  · rw [if_pos h2] at h
    subst h2
    simp only [Bool.and_eq_true, Bool.or_eq_true, List.isEmpty_iff] at h
    have hl := literal_text (r := r) h.1.1 ⟨h.1.2, h.2⟩ hs
    have e : textS 2 a t l = quotedS a ++ ((if t.isEmpty then [] else [94, 94, 60] ++ t ++ [62]) ++ (if l.isEmpty then [] else 64 :: l)) := by simp [textS]
    rw [e, ← hl]
    generalize ((if t.isEmpty then [] else [94, 94, 60] ++ t ++ [62]) ++ (if l.isEmpty then [] else 64 :: l) : B) = q
    simp only [quotedS, List.cons_append, prefixS]
    rw [if_neg (by decide), if_pos (by decide)]
  · rw [if_neg h2] at h; cases h
theorem read_text {k : Int} {a t l : B} (h : right k a t l = true) : readS (textS k a t l) = (k, a, t, l, 0) := by
  by_cases hk : k = 0
  · subst hk
    simp [right] at h
    obtain ⟨⟨rfl, rfl⟩, rfl⟩ := h
    rfl
  · have := prefix_text (r := []) h hk (.inl rfl)
    rw [List.append_nil] at this
    simp only [readS, this, if_true]
end Go.Proofs.Ytgcjhcefpkbheaa.Sp
namespace Go.Proofs.Ytgcjhcefpkbheaa.Sp
open Go.Proofs.Ytgcjhcefpkbheaa.Lg
theorem iriAt_take {s x : B} {n : Nat} (h : iriAt s = some (x, n)) : isIri x = true ∧ s.take n = 60 :: (x ++ [62]) ∧ n = x.length + 2 := by
  unfold iriAt at h
  split at h
  · rename_i hc
    obtain ⟨h1, h2, h3⟩ := hc
    simp at h
    obtain ⟨hx, hn⟩ := h
    have hsp := indexByte_split (s := s) (c := 62) (by omega)
    generalize hi : (Go.Lib.indexByte s 62).toNat = i at *
    cases s with
    | nil => simp at h1
    | cons b s =>
      simp at h1; subst h1
      cases i with
      | zero => omega
      | succ i =>
        simp only [List.take_succ_cons, List.drop_succ_cons, List.drop_zero] at hx h3 hsp
        rw [← List.drop_one, List.drop_succ_cons, List.drop_zero] at hx
        subst hx
        refine ⟨h3, ?_, ?_⟩
        · rw [← hn, List.take_succ_cons]
          congr 1
          have := hsp.1
          simp only [List.cons_append, List.cons.injEq, true_and] at this
          have hl : (s.take i).length = i := by
            have hle := indexByte_le (60 :: s) 62
            simp at hle
            rw [List.length_take]; omega
          conv => lhs; rw [this]
          rw [List.take_append, hl, List.take_of_length_le (by omega)]
          simp
        · rw [← hn]
          have hle := indexByte_le (60 :: s) 62
          simp at hle
          rw [List.length_take]; omega
  · cases h
theorem escB_of {c d : UInt8} (h : unesc c = some d) : escB d = [92, c] := by
  rcases unesc_some h with ⟨z, rfl⟩ | ⟨z, rfl⟩ | ⟨z, rfl⟩ | ⟨z, rfl⟩
  · obtain rfl : c = 34 := u_inj z; rfl
  · obtain rfl : c = 92 := u_inj z; rfl
  · obtain rfl : c = 110 := u_inj z; rfl
  · obtain rfl : c = 116 := u_inj z; rfl
theorem esc_unesc : ∀ (n : Nat) (r o : B), r.length ≤ n → unescS r = some o → esc o = r
  | 0, r, o, hn, h => by
    obtain rfl : r = [] := List.length_eq_zero_iff.1 (by omega)
    simp [unescS] at h; subst h; rfl
  | n + 1, [], o, _, h => by simp [unescS] at h; subst h; rfl
  | n + 1, b :: s, o, hn, h => by
    by_cases h1 : u b = 92
    · obtain rfl : b = 92 := u_inj h1
      cases s with
      | nil => simp [unescS, h1] at h
      | cons c r =>
        rw [unesc_e h1] at h
        cases hu : unesc c with
        | none => rw [hu] at h; cases h
        | some d =>
          rw [hu] at h
          cases hr : unescS r with
          | none => rw [hr] at h; cases h
          | some o' =>
            rw [hr] at h
            simp at h; subst h
            rw [esc_app, escB_of hu, esc_unesc n r o' (by simp at hn; omega) hr]; rfl
    · by_cases h2 : u b = 34 ∨ u b = 10 ∨ u b = 9
      · rw [unesc_bad s h1 h2] at h; cases h
      · rw [unesc_o s h1 h2] at h
        cases hr : unescS s with
        | none => rw [hr] at h; cases h
        | some o' =>
          rw [hr] at h
          simp at h; subst h
          simp only [not_or] at h2
          have : escB b = [b] := by
            unfold escB
            rw [if_neg (by rintro (z | z); exact h2.1 z; exact h1 z), if_neg h2.2.1, if_neg h2.2.2]
          rw [esc_app, this, esc_unesc n s o' (by simp at hn; omega) hr]; rfl
theorem run_quote : ∀ (n : Nat) (r : B), r.length ≤ n → ∀ h : run r < r.length, r[run r] = 34
  | 0, r, hn, h => by omega
  | n + 1, [], _, h => by simp at h
  | n + 1, b :: s, hn, h => by
    by_cases h1 : u b = 34
    · have e := run_q s h1
      obtain rfl : b = 34 := u_inj h1
      simp [e]
    · by_cases h2 : u b = 92
      · cases s with
        | nil => simp [run, h2] at h
        | cons c r =>
          have e : run (b :: c :: r) = run r + 2 := by simp [run, h2]
          have := run_quote n r (by simp at hn; omega) (by rw [e] at h; simp at h; omega)
          simp only [e]
          simpa using this
      · have e := run_o s h1 h2
        have := run_quote n s (by simp at hn; omega) (by rw [e] at h; simp at h; omega)
        simp only [e]
        simpa using this
theorem text_prefix {s a t l : B} {k n : Int} (h : prefixS s = (k, a, t, l, n)) (hn : n ≠ 0) : right k a t l = true ∧ textS k a t l = s.take n.toNat := by
  cases s with
  | nil => simp [prefixS, noTerm] at h; exact absurd h.2.2.2.2.symm hn
  | cons b r =>
    simp only [prefixS] at h
    split at h
    · rename_i hb
      obtain rfl : b = 60 := u_inj hb
      cases hi : iriAt (60 :: r) with
      | none => rw [hi] at h; simp [noTerm] at h; exact absurd h.2.2.2.2.symm hn
      | some p =>
        obtain ⟨x, m⟩ := p
        rw [hi] at h
        simp at h
        obtain ⟨rfl, rfl, rfl, rfl, rfl⟩ := h
        obtain ⟨q1, q2, q3⟩ := iriAt_take hi
        rw [Int.toNat_natCast, q2]
        exact ⟨by simp [right, q1], rfl⟩
    split at h
    · rename_i hb
      obtain rfl : b = 34 := u_inj hb
      rw [literalS_eq] at h
      split at h
      · rename_i hr
        cases hu : unescS (r.take (run r)) with
        | none => rw [hu] at h; simp [noTerm] at h; exact absurd h.2.2.2.2.symm hn
        | some o =>
          rw [hu] at h
          dsimp only at h
          split at h
          · rename_i ht
            have he := esc_unesc _ _ _ (Nat.le_refl _) hu
            have hq := run_quote _ r (Nat.le_refl _) hr
            have hd : (34 :: r).drop (run r + 2) = r.drop (run r + 1) := rfl
            have hsplit : 34 :: r = quotedS o ++ r.drop (run r + 1) := by
              simp only [quotedS, he, List.cons_append, List.append_assoc, List.nil_append]
              congr 1
              conv => lhs; rw [← List.take_append_drop (run r) r]
              congr 1
              rw [List.drop_eq_getElem_cons hr, hq]
            have hql : (quotedS o).length = run r + 2 := by
              simp only [quotedS, he, List.length_cons, List.length_append, List.length_take, List.length_nil]; omega
            have hit : isText o = true := ht
            unfold behindS at h
            simp only [hd] at h
            split at h
            · rename_i hc
              cases hi : iriAt ((r.drop (run r + 1)).drop 2) with
              | none =>
                rw [hi] at h
                simp at h
                obtain ⟨rfl, rfl, rfl, rfl, rfl⟩ := h
                refine ⟨by simp [right, hit], ?_⟩
                rw [show ((run r : Int) + 2).toNat = (quotedS o).length by rw [hql]; omega, hsplit]
                rw [List.take_left]; simp [textS]
              | some p =>
                obtain ⟨x, m⟩ := p
                rw [hi] at h
                simp at h
                obtain ⟨rfl, rfl, rfl, rfl, rfl⟩ := h
                obtain ⟨q1, q2, q3⟩ := iriAt_take hi
                have hx : x.isEmpty = false := by cases x <;> simp_all [isIri]
                refine ⟨by simp [right, hit, q1], ?_⟩
                rw [show ((run r : Int) + 2 + 2 + (m : Int)).toNat = (quotedS o).length + (2 + m) by rw [hql]; omega, hsplit]
                rw [List.take_length_add_append]
                simp only [textS, hx]
                simp
                rw [show 2 + m = m + 2 by omega]
                have : (r.drop (run r + 1)) = 94 :: 94 :: (r.drop (run r + 1)).drop 2 := by
                  match hz : r.drop (run r + 1), hc with
                  | x :: y :: z, hc => simp at hc; rw [hc.1, hc.2]; rfl
                  | [x], hc => simp at hc
                  | [], hc => simp at hc
                rw [this]
                simp only [List.take_succ_cons]
                rw [q2]
            · split at h
              · rename_i hc
                simp at h
                obtain ⟨rfl, rfl, rfl, rfl, rfl⟩ := h
                have hil := hc.2
                rw [List.drop_drop] at hil
                generalize hl : lowRun (r.drop (run r + 1 + 1)) = l at *
                have hlt := lowRun_take (r.drop (run r + 1 + 1))
                rw [hl] at hlt
                have hle : l.isEmpty = false := by cases l <;> simp_all [isLang]
                refine ⟨by simp [right, hit, hil], ?_⟩
                rw [show ((run r : Int) + 2 + 1 + (l.length : Int)).toNat = (quotedS o).length + (1 + l.length) by rw [hql]; omega, hsplit]
                rw [List.take_length_add_append]
                simp only [textS, hle]
                simp
                have : (r.drop (run r + 1)) = 64 :: r.drop (run r + 1 + 1) := by
                  have h0 := hc.1
                  cases hz : r.drop (run r + 1) with
                  | nil => rw [hz] at h0; simp at h0
                  | cons x z =>
                    rw [hz] at h0
                    simp at h0; subst h0
                    rw [← List.drop_drop, hz]; rfl
                rw [this, show 1 + l.length = l.length + 1 by omega, List.take_succ_cons, hlt]
              · simp at h
                obtain ⟨rfl, rfl, rfl, rfl, rfl⟩ := h
                refine ⟨by simp [right, hit], ?_⟩
                rw [show ((run r : Int) + 2).toNat = (quotedS o).length by rw [hql]; omega, hsplit]
                rw [List.take_left]; simp [textS]
          · simp [noTerm] at h; exact absurd h.2.2.2.2.symm hn
      · simp [noTerm] at h; exact absurd h.2.2.2.2.symm hn
    split at h
    · rename_i hb
      obtain rfl : b = 63 := u_inj hb
      split at h
      · rename_i hp
        simp at h
        obtain ⟨rfl, rfl, rfl, rfl, rfl⟩ := h
        have hle := named_le r
        have hnm : isName (r.take (named r)) = true := by
          unfold isName
          rw [named_take, List.length_take]
          have hne : (r.take (named r)).isEmpty = false := by
            cases r with
            | nil => simp [named] at hp
            | cons x z => obtain ⟨m, hm⟩ : ∃ m, named (x :: z) = m + 1 := ⟨named (x :: z) - 1, by omega⟩
                          rw [hm]; rfl
          rw [hne]; simp; omega
        refine ⟨by simp [right, hnm], ?_⟩
        rw [show ((named r : Int) + 1).toNat = named r + 1 by omega, List.take_succ_cons]; rfl
      · simp [noTerm] at h; exact absurd h.2.2.2.2.symm hn
    split at h
    · rename_i hb
      obtain rfl : b = 95 := u_inj hb.1
      cases r with
      | nil => simp at hb
      | cons c r =>
        have hc : c = 58 := by simpa using hb.2
        subst hc
        simp only [List.drop_succ_cons, List.drop_zero] at h
        split at h
        · rename_i hp
          simp at h
          obtain ⟨rfl, rfl, rfl, rfl, rfl⟩ := h
          have hle := named_le r
          have hnm : isName (r.take (named r)) = true := by
            unfold isName
            rw [named_take, List.length_take]
            have hne : (r.take (named r)).isEmpty = false := by
              cases r with
              | nil => simp [named] at hp
              | cons x z => obtain ⟨m, hm⟩ : ∃ m, named (x :: z) = m + 1 := ⟨named (x :: z) - 1, by omega⟩
                            rw [hm]; rfl
            rw [hne]; simp; omega
          refine ⟨by simp [right, hnm], ?_⟩
          rw [show ((named r : Int) + 2).toNat = named r + 1 + 1 by omega, List.take_succ_cons, List.take_succ_cons]; rfl
        · simp [noTerm] at h; exact absurd h.2.2.2.2.symm hn
    · simp [noTerm] at h; exact absurd h.2.2.2.2.symm hn
theorem text_read {s : B} (h : (readS s).2.2.2.2 = 0) : right (readS s).1 (readS s).2.1 (readS s).2.2.1 (readS s).2.2.2.1 = true ∧ textS (readS s).1 (readS s).2.1 (readS s).2.2.1 (readS s).2.2.2.1 = s := by
  unfold readS at h ⊢
  simp only at h ⊢
  by_cases q : (prefixS s).2.2.2.2 = (s.length : Int)
  · simp only [q, if_true]
    cases s with
    | nil => exact ⟨rfl, rfl⟩
    | cons b r =>
      have := text_prefix (s := b :: r) (k := (prefixS (b :: r)).1) (a := (prefixS (b :: r)).2.1) (t := (prefixS (b :: r)).2.2.1) (l := (prefixS (b :: r)).2.2.2.1) (n := (prefixS (b :: r)).2.2.2.2) rfl (by rw [q]; simp; omega)
      refine ⟨this.1, this.2.trans ?_⟩
      rw [q, Int.toNat_natCast, List.take_length]
  · simp [q] at h
end Go.Proofs.Ytgcjhcefpkbheaa.Sp
namespace Go.Proofs.Ytgcjhcefpkbheaa.Sp
open Go.Lib
theorem compare_range : ∀ a b : B, compareBytes a b = -1 ∨ compareBytes a b = 0 ∨ compareBytes a b = 1
  | [], [] => by simp [compareBytes]
  | [], _ :: _ => by simp [compareBytes]
  | _ :: _, [] => by simp [compareBytes]
  | a :: as, b :: bs => by
    have := compare_range as bs
    simp only [compareBytes]
    split
    · simp
    · split
      · simp
      · exact this
theorem compare_anti : ∀ a b : B, compareBytes b a = -compareBytes a b
  | [], [] => by simp [compareBytes]
  | [], _ :: _ => by simp [compareBytes]
  | _ :: _, [] => by simp [compareBytes]
  | a :: as, b :: bs => by
    have ih := compare_anti as bs
    have hl : ∀ x y : UInt8, (x < y) = (x.toNat < y.toNat) := fun x y => by rw [UInt8.lt_iff_toNat_lt]
    simp only [compareBytes, hl]
    by_cases h1 : a.toNat < b.toNat
    · rw [if_pos h1, if_neg (by omega), if_pos h1]; rfl
    · by_cases h2 : b.toNat < a.toNat
      · rw [if_pos h2, if_neg h1, if_pos h2]
      · rw [if_neg h2, if_neg h1, if_neg h1, if_neg h2, ih]
theorem compare_zero : ∀ a b : B, compareBytes a b = 0 ↔ a = b
  | [], [] => by simp [compareBytes]
  | [], _ :: _ => by simp [compareBytes]
  | _ :: _, [] => by simp [compareBytes]
  | a :: as, b :: bs => by
    have ih := compare_zero as bs
    have hl : ∀ x y : UInt8, (x < y) = (x.toNat < y.toNat) := fun x y => by rw [UInt8.lt_iff_toNat_lt]
    simp only [compareBytes, hl, List.cons.injEq]
    by_cases h1 : a.toNat < b.toNat
    · rw [if_pos h1]
      have : a ≠ b := by rintro rfl; omega
      simp [this]
    · by_cases h2 : b.toNat < a.toNat
      · rw [if_neg h1, if_pos h2]
        have : a ≠ b := by rintro rfl; omega
        simp [this]
      · rw [if_neg h1, if_neg h2, ih]
        have : a = b := UInt8.toNat_inj.1 (by omega)
        simp [this]
theorem compare_trans : ∀ a b c : B, compareBytes a b ≤ 0 → compareBytes b c ≤ 0 → compareBytes a c ≤ 0
  | [], _, [] => by simp [compareBytes]
  | [], _, _ :: _ => by simp [compareBytes]
  | _ :: _, [], _ => by simp [compareBytes]
  | _ :: _, _ :: _, [] => by simp [compareBytes]
  | a :: as, b :: bs, c :: cs => by
    have ih := compare_trans as bs cs
    have hl : ∀ x y : UInt8, (x < y) = (x.toNat < y.toNat) := fun x y => by rw [UInt8.lt_iff_toNat_lt]
    simp only [compareBytes, hl]
    intro h1 h2
    split at h1
    · split at h2
      · rw [if_pos (by omega)]; decide
      · split at h2
        · omega
        · rw [if_pos (by omega)]; decide
    · split at h1
      · omega
      · split at h2
        · rw [if_pos (by omega)]; decide
        · split at h2
          · omega
          · rw [if_neg (by omega), if_neg (by omega)]; exact ih h1 h2
theorem cmpT_range (a b : TR) : cmpT a b = -1 ∨ cmpT a b = 0 ∨ cmpT a b = 1 := by
  unfold cmpT
  repeat' split
  all_goals first | exact compare_range _ _ | simp
theorem cmpT_anti (a b : TR) : cmpT b a = -cmpT a b := by
  unfold cmpT
  rw [compare_anti a.2.1 b.2.1, compare_anti a.2.2.1 b.2.2.1, compare_anti a.2.2.2.1 b.2.2.2.1]
  by_cases h1 : a.1 < b.1
  · rw [if_neg (by omega), if_pos h1, if_pos h1]; rfl
  by_cases h2 : b.1 < a.1
  · rw [if_pos h2, if_neg h1, if_pos h2]
  rw [if_neg h2, if_neg h1, if_neg h1, if_neg h2]
  by_cases h3 : compareBytes a.2.1 b.2.1 = 0
  · by_cases h4 : compareBytes a.2.2.1 b.2.2.1 = 0
    · simp [h3, h4]
    · simp [h3, h4]
  · simp [h3]
theorem cmpT_zero (a b : TR) : cmpT a b = 0 ↔ a = b := by
  unfold cmpT
  obtain ⟨k, x, y, z, _⟩ := a
  obtain ⟨k', x', y', z', _⟩ := b
  simp only [Prod.mk.injEq, and_true]
  by_cases h1 : k < k'
  · rw [if_pos h1]; constructor
    · intro h; cases h
    · intro h; omega
  by_cases h2 : k' < k
  · rw [if_neg h1, if_pos h2]; constructor
    · intro h; cases h
    · intro h; omega
  rw [if_neg h1, if_neg h2]
  have hk : k = k' := by omega
  by_cases h3 : compareBytes x x' = 0
  · rw [if_neg (by simp [h3])]
    have e3 := (compare_zero _ _).1 h3
    by_cases h4 : compareBytes y y' = 0
    · rw [if_neg (by simp [h4])]
      have e4 := (compare_zero _ _).1 h4
      rw [compare_zero]
      simp [hk, e3, e4]
    · rw [if_pos h4]
      have : y ≠ y' := fun e => h4 ((compare_zero _ _).2 e)
      simp [h4, this]
  · rw [if_pos h3]
    have : x ≠ x' := fun e => h3 ((compare_zero _ _).2 e)
    simp [h3, this]
theorem cmpT_trans (a b c : TR) (h : cmpT a b ≤ 0) (k : cmpT b c ≤ 0) : cmpT a c ≤ 0 := by
  have hr := fun x y : B => compare_range x y
  have hz := fun x y : B => compare_zero x y
  have ht := fun x y z : B => compare_trans x y z
  unfold cmpT at *
  obtain ⟨k1, x1, y1, z1, _⟩ := a
  obtain ⟨k2, x2, y2, z2, _⟩ := b
  obtain ⟨k3, x3, y3, z3, _⟩ := c
  dsimp only at *
  by_cases a1 : k1 < k2
  · have : k2 ≤ k3 := by
      by_cases q : k3 < k2
      · rw [if_neg (by omega), if_pos q] at k; omega
      · omega
    rw [if_pos (by omega)]; decide
  rw [if_neg a1] at h
  by_cases a2 : k2 < k1
  · rw [if_pos a2] at h; omega
  rw [if_neg a2] at h
  obtain rfl : k1 = k2 := by omega
  by_cases a3 : k1 < k3
  · rw [if_pos a3]; decide
  rw [if_neg a3] at k ⊢
  by_cases a4 : k3 < k1
  · rw [if_pos a4] at k; omega
  rw [if_neg a4] at k ⊢
  -- texts
  have step : ∀ (p q r : B) (u v w : Int), (if compareBytes p q ≠ 0 then compareBytes p q else u) ≤ 0 → (if compareBytes q r ≠ 0 then compareBytes q r else v) ≤ 0 → (u ≤ 0 → v ≤ 0 → w ≤ 0) → (if compareBytes p r ≠ 0 then compareBytes p r else w) ≤ 0 := by
    intro p q r u v w h1 h2 h3
    by_cases e1 : compareBytes p q = 0
    · rw [if_neg (by simp [e1])] at h1
      obtain rfl := (hz _ _).1 e1
      by_cases e2 : compareBytes p r = 0
      · rw [if_neg (by simp [e2])] at h2 ⊢; exact h3 h1 h2
      · rw [if_pos e2] at h2 ⊢; exact h2
    · rw [if_pos e1] at h1
      by_cases e2 : compareBytes q r = 0
      · obtain rfl := (hz _ _).1 e2
        rw [if_pos e1]; exact h1
      · rw [if_pos e2] at h2
        have e3 := ht p q r h1 h2
        by_cases e4 : compareBytes p r = 0
        · obtain rfl := (hz _ _).1 e4
          have := compare_anti p q
          have := hr p q
          omega
        · rw [if_pos e4]; exact e3
  exact step _ _ _ _ _ _ h k fun h k => step _ _ _ _ _ _ h k fun h k => ht _ _ _ h k
end Go.Proofs.Ytgcjhcefpkbheaa.Sp
namespace Go.Proofs.Ytgcjhcefpkbheaa.Sp
open Go.Proofs.Ytgcjhcefpkbheaa.Lg
theorem isName_le {a : B} (h : isName a = true) : a.length ≤ 32 := by
  simp only [isName, Bool.and_eq_true, decide_eq_true_eq] at h
  have := named_le32 a; omega
theorem isIri_le {a : B} (h : isIri a = true) : a.length ≤ 4096 := by
  simp only [isIri, Bool.and_eq_true, decide_eq_true_eq] at h; omega
theorem isLang_le {a : B} (h : isLang a = true) : a.length ≤ 8 := by
  simp only [isLang, Bool.and_eq_true, decide_eq_true_eq] at h; omega
theorem right_le {k : Int} {a t l : B} (h : right k a t l = true) : a.length ≤ 4096 ∧ t.length ≤ 4096 ∧ l.length ≤ 8 := by
  unfold right at h
  split at h
  · simp at h; simp [h]
  split at h
  · simp at h; have := isIri_le h.2; simp [h]; omega
  split at h
  · simp at h; have := isName_le h.2; simp [h]; omega
  split at h
  · simp [isText] at h
    refine ⟨h.1.1.1, ?_, ?_⟩
    · rcases h.1.2 with q | q
      · simp [q]
      · exact isIri_le q.1
    · rcases h.2 with q | q
      · simp [q]
      · exact isLang_le q
  · cases h
theorem textS_le {k : Int} {a t l : B} (h : right k a t l = true) : (textS k a t l).length ≤ 20000 := by
  obtain ⟨h1, h2, h3⟩ := right_le h
  have he := esc_le a
  unfold textS
  repeat' split
  all_goals simp only [quotedS, List.length_cons, List.length_append, List.length_nil]
  all_goals omega
theorem okP_short {s : B} (h : s.length + 2 ≤ 140737488355328) : okP s := ⟨by simp only [Big]; omega, .inl h⟩
theorem okP_text {k : Int} {a t l : B} (h : right k a t l = true) : okP (textS k a t l) := okP_short (by have := textS_le h; omega)
theorem run_esc {a : B} (h : allI textI a = true) (q : B) : run (esc a ++ 34 :: q) = (esc a).length := by
  have h1 := scan_esc a h q
  have h2 := loopL_scan (esc a ++ 34 :: q) 0
  rw [h1] at h2
  have := h2.2.2.2.2
  rw [← this]; simp
theorem okP_goes {k : Int} {a t l : B} (h : right k a t l = true) (hk : k ≠ 0) {rest : B} (hr : rest.length ≤ 140737488351232) : okP (textS k a t l ++ 32 :: rest) := by
  have hl := textS_le h
  refine ⟨by simp [Big]; omega, .inr fun hh => ?_⟩
  unfold right at h
  rw [if_neg hk] at h
  by_cases h1 : k = 1
  · subst h1; simp [textS] at hh
  rw [if_neg h1] at h
  by_cases h3 : k = 3 ∨ k = 4
  · rcases h3 with rfl | rfl <;> simp [textS] at hh
  rw [if_neg h3] at h
  by_cases h2 : k = 2
  · subst h2
    rw [if_pos rfl] at h
    simp [isText] at h
    have e : textS 2 a t l ++ 32 :: rest = 34 :: (esc a ++ 34 :: (((if t.isEmpty then [] else [94, 94, 60] ++ t ++ [62]) ++ (if l.isEmpty then [] else 64 :: l)) ++ 32 :: rest)) := by simp [textS, quotedS]
    rw [e]
    rw [show List.drop 1 (34 :: (esc a ++ 34 :: (((if t.isEmpty then [] else [94, 94, 60] ++ t ++ [62]) ++ (if l.isEmpty then [] else 64 :: l)) ++ 32 :: rest))) = esc a ++ 34 :: (((if t.isEmpty then [] else [94, 94, 60] ++ t ++ [62]) ++ (if l.isEmpty then [] else 64 :: l)) ++ 32 :: rest) from rfl, run_esc h.1.1.2]
    have he := esc_le a
    refine ⟨by omega, fun hq => ?_⟩
    have d2 : ∀ q : B, (34 :: (esc a ++ 34 :: q)).drop ((esc a).length + 2) = q := by
      intro q
      rw [show (esc a).length + 2 = ((esc a).length + 1) + 1 by omega, List.drop_succ_cons, List.drop_append]
      simp
    have d4 : ∀ q : B, (34 :: (esc a ++ 34 :: q)).drop ((esc a).length + 4) = q.drop 2 := by
      intro q
      rw [← d2 q, List.drop_drop, d2 q]
    rw [d2] at hq
    rw [d4]
    by_cases ht : t = []
    · subst ht
      by_cases hl : l = []
      · subst hl; simp at hq
      · have : l.isEmpty = false := by cases l <;> simp_all
        simp [this] at hq
    · have : t.isEmpty = false := by cases t <;> simp_all
      simp [this]
  · rw [if_neg h2] at h; cases h
end Go.Proofs.Ytgcjhcefpkbheaa.Sp
end
