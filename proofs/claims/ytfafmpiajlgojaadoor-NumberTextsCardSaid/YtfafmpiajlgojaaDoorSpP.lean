/- Part of a proof of the seat's statements: no statement by itself. -/
import Derived.Test.YtfafmpiajlgojaaDoorSpO
import Derived.Test.YtfafmpiajlgojaaDoorSpL
import Derived.Lib.ItoaLen
set_option maxRecDepth 100000
namespace Go.Proofs.YtfafmpiajlgojaaDoor.Sp
open Go.Proofs.YtfafmpiajlgojaaDoor.Lg Go
open Go.Lib
/- Chapter 2: numbers. -/
abbrev N3 := Int × Int × Bool × Unit
def n0 : N3 := (0, 0, false, ())
def rightN (n : N3) : Bool := decide (-999999999 ≤ n.1) && decide (n.1 ≤ 999999999) && decide (0 ≤ n.2.1) && decide (n.2.1 ≤ 4) && (decide (n.2.1 = 0) || (n.2.2.1 && !decide (n.1.tmod 10 = 0)))
/-- a value and a scale, cut down -/
def cutF : Nat → Int → Int × Nat
  | 0, v => (v, 0)
  | s + 1, v => if 4 < s + 1 ∨ v.tmod 10 = 0 then cutF s (v.tdiv 10) else (v, s + 1)
theorem rightN_iff (n : N3) : rightN n = true ↔ (-999999999 ≤ n.1 ∧ n.1 ≤ 999999999 ∧ 0 ≤ n.2.1 ∧ n.2.1 ≤ 4 ∧ (n.2.1 = 0 ∨ (n.2.2.1 = true ∧ ¬ n.1.tmod 10 = 0))) := by
  simp [rightN, and_assoc]
theorem rightN_not (n : N3) (h : ¬ (-999999999 ≤ n.1 ∧ n.1 ≤ 999999999 ∧ 0 ≤ n.2.1 ∧ n.2.1 ≤ 4 ∧ (n.2.1 = 0 ∨ (n.2.2.1 = true ∧ ¬ n.1.tmod 10 = 0)))) : rightN n = false := by
  rw [← rightN_iff] at h
  simpa using h
def downF : Nat → Int → Int × Nat
  | 0, v => (v, 0)
  | s + 1, v => if 4 < s + 1 then downF s (v.tdiv 10) else (v, s + 1)
def downV (v s : Int) : Int := (downF s.toNat v).1
def downS (v s : Int) : Int := ((downF s.toNat v).2 : Nat)
def cutV (v s : Int) : Int := (cutF s.toNat v).1
def cutS (v s : Int) : Int := ((cutF s.toNat v).2 : Nat)
def cutOK (v s : Int) : Bool := decide (-999999999 ≤ cutV v s) && decide (cutV v s ≤ 999999999)
theorem cutV_succ (v : Int) (s : Nat) : cutV v ((s : Int) + 1) = if 4 < s + 1 ∨ v.tmod 10 = 0 then cutV (v.tdiv 10) s else v := by
  unfold cutV
  rw [toNat_add1, Int.toNat_natCast]
  simp only [cutF]
  split <;> rfl
theorem cutS_succ (v : Int) (s : Nat) : cutS v ((s : Int) + 1) = if 4 < s + 1 ∨ v.tmod 10 = 0 then cutS (v.tdiv 10) s else (s : Int) + 1 := by
  unfold cutS
  rw [toNat_add1, Int.toNat_natCast]
  simp only [cutF]
  split <;> simp
theorem downV_succ (v : Int) (s : Nat) : downV v ((s : Int) + 1) = if 4 < s + 1 then downV (v.tdiv 10) s else v := by
  unfold downV
  rw [toNat_add1, Int.toNat_natCast]
  simp only [downF]
  split <;> rfl
theorem downS_succ (v : Int) (s : Nat) : downS v ((s : Int) + 1) = if 4 < s + 1 then downS (v.tdiv 10) s else (s : Int) + 1 := by
  unfold downS
  rw [toNat_add1, Int.toNat_natCast]
  simp only [downF]
  split <;> simp
theorem down_le : ∀ (s : Nat) (v : Int), (downF s v).2 ≤ 4
  | 0, v => by simp [downF]
  | s + 1, v => by
    simp only [downF]
    split
    · exact down_le s _
    · simp; omega
theorem cut_down : ∀ (s : Nat) (v : Int), cutF (downF s v).2 (downF s v).1 = cutF s v
  | 0, v => rfl
  | s + 1, v => by
    simp only [downF]
    split
    · rename_i h
      rw [cut_down s, cutF, if_pos (.inl h)]
    · rfl
theorem downS_le (v s : Int) : 0 ≤ downS v s ∧ downS v s ≤ 4 := by
  have := down_le s.toNat v
  unfold downS; omega
theorem cutV_down (v s : Int) : cutV (downV v s) (downS v s) = cutV v s := by
  unfold cutV downV downS; rw [Int.toNat_natCast, cut_down]
theorem cutS_down (v s : Int) : cutS (downV v s) (downS v s) = cutS v s := by
  unfold cutS downV downS; rw [Int.toNat_natCast, cut_down]
theorem tdiv10 (v : Int) : v.tdiv 10 = if 0 ≤ v then v / 10 else -((-v) / 10) := by
  split
  · rename_i h; exact Int.tdiv_eq_ediv_of_nonneg h
  · rename_i h
    have : v = -(-v) := by omega
    rw [this, Int.neg_tdiv, Int.tdiv_eq_ediv_of_nonneg (by omega)]
    simp
theorem tmod10 (v : Int) : v.tmod 10 = if 0 ≤ v then v % 10 else -((-v) % 10) := by
  split
  · rename_i h; exact Int.tmod_eq_emod_of_nonneg h
  · rename_i h
    have : v = -(-v) := by omega
    rw [this, Int.neg_tmod, Int.tmod_eq_emod_of_nonneg (by omega)]
    simp
def i64 (v : Int) : Prop := -9223372036854775808 ≤ v ∧ v ≤ 9223372036854775807
theorem i64_tdiv {v : Int} (h : i64 v) : i64 (v.tdiv 10) := by
  unfold i64 at *
  rw [tdiv10]; split <;> omega
theorem wrapI {v : Int} (h : i64 v) : IntKind.i64.wrap v = v := wrap64 h.1 h.2
theorem down_i64 : ∀ (s : Nat) (v : Int), i64 v → i64 (downF s v).1
  | 0, v, h => h
  | s + 1, v, h => by
    simp only [downF]
    split
    · exact down_i64 s _ (i64_tdiv h)
    · exact h
theorem downV_i64 {v : Int} (s : Int) (h : i64 v) : i64 (downV v s) := down_i64 _ v h
theorem cutV_zero (v : Int) : cutV v 0 = v := rfl
theorem cutS_zero (v : Int) : cutS v 0 = 0 := rfl
def tenN (k : Int) : Int := ((10 ^ k.toNat : Nat) : Int)
theorem ten_cases {k : Int} (h0 : 0 ≤ k) (h1 : k ≤ 8) : k = 0 ∨ k = 1 ∨ k = 2 ∨ k = 3 ∨ k = 4 ∨ k = 5 ∨ k = 6 ∨ k = 7 ∨ k = 8 := by omega
theorem tenN_le {k : Int} (h0 : 0 ≤ k) (h1 : k ≤ 8) : 1 ≤ tenN k ∧ tenN k ≤ 100000000 := by
  rcases ten_cases h0 h1 with rfl | rfl | rfl | rfl | rfl | rfl | rfl | rfl | rfl <;> decide
theorem tenN_4 {k : Int} (h0 : 0 ≤ k) (h1 : k ≤ 4) : 1 ≤ tenN k ∧ tenN k ≤ 10000 := by
  rcases (by omega : k = 0 ∨ k = 1 ∨ k = 2 ∨ k = 3 ∨ k = 4) with rfl | rfl | rfl | rfl | rfl <;> decide
theorem tenN_next {k : Int} (h0 : 0 ≤ k) (h1 : k < 8) : tenN k * 10 = tenN (k + 1) := by
  rcases (by omega : k = 0 ∨ k = 1 ∨ k = 2 ∨ k = 3 ∨ k = 4 ∨ k = 5 ∨ k = 6 ∨ k = 7) with rfl | rfl | rfl | rfl | rfl | rfl | rfl | rfl <;> decide
theorem mul_bound {a b A B : Int} (h1 : -A ≤ a) (h2 : a ≤ A) (h3 : -B ≤ b) (h4 : b ≤ B) : -(A * B) ≤ a * b ∧ a * b ≤ A * B := by
  have e : (a * b).natAbs ≤ (A * B).natAbs := by
    rw [Int.natAbs_mul, Int.natAbs_mul]
    exact Nat.mul_le_mul (by omega) (by omega)
  have hp : 0 ≤ A * B := Int.mul_nonneg (by omega) (by omega)
  omega
def amtN (n : N3) : Int := n.1 * tenN (4 - n.2.1)
theorem amt_le {n : N3} (h : rightN n = true) : -9999999990000 ≤ amtN n ∧ amtN n ≤ 9999999990000 := by
  rw [rightN_iff] at h
  have := tenN_4 (k := 4 - n.2.1) (by omega) (by omega)
  have := mul_bound (a := n.1) (b := tenN (4 - n.2.1)) (A := 999999999) (B := 10000) (by omega) (by omega) (by omega) (by omega)
  unfold amtN; omega
/-- digits' value -/
def valF (n : Int) (s : B) : Int := s.foldl (fun v b => 10 * v + (u b - 48)) n
def valN (s : B) : Int := valF 0 s
theorem valF_cons (n : Int) (b : UInt8) (s : B) : valF n (b :: s) = valF (10 * n + (u b - 48)) s := rfl
def digR (n : Nat) : Nat → B
  | 0 => if n = 0 then [] else decDigits n
  | l + 1 => digR (n / 10) l ++ [UInt8.ofNat (48 + n % 10)]
theorem dec_lt {n : Nat} (h : n < 10) : decDigits n = [UInt8.ofNat (48 + n)] := by rw [decDigits, dif_pos h]
theorem dec_ge {n : Nat} (h : ¬ n < 10) : decDigits n = decDigits (n / 10) ++ [UInt8.ofNat (48 + n % 10)] := by rw [decDigits, dif_neg h]
theorem digR_step {n l : Nat} (h : 0 < n ∨ 0 < l) : digR n l = digR (n / 10) (l - 1) ++ [UInt8.ofNat (48 + n % 10)] := by
  cases l with
  | succ l => rfl
  | zero =>
    have hn : 0 < n := h.elim id (fun q => absurd q (by omega))
    simp only [digR]
    rw [if_neg (by omega)]
    by_cases q : n < 10
    · show _ = (if n / 10 = 0 then [] else decDigits (n / 10)) ++ _
      rw [dec_lt q, if_pos (by omega), Nat.mod_eq_of_lt q]; rfl
    · show _ = (if n / 10 = 0 then [] else decDigits (n / 10)) ++ _
      rw [dec_ge q, if_neg (by omega)]
def padT (d : B) (l : Nat) : B := List.replicate (l - d.length) 48 ++ d
theorem padT_snoc (d : B) (l : Nat) (x : UInt8) : padT d l ++ [x] = padT (d ++ [x]) (l + 1) := by simp [padT]
theorem digR_pad : ∀ (l n : Nat), digR n l = if n = 0 then List.replicate l 48 else padT (decDigits n) l
  | 0, n => by simp [digR, padT]
  | l + 1, n => by
    simp only [digR]
    rw [digR_pad l (n / 10)]
    by_cases q : n < 10
    · rw [if_pos (by omega), dec_lt q, Nat.mod_eq_of_lt q]
      by_cases z : n = 0
      · subst z; rw [if_pos rfl]; exact List.replicate_succ'.symm
      · rw [if_neg z]; simp [padT]
    · rw [if_neg (by omega), if_neg (by omega), padT_snoc, ← dec_ge q]
theorem digR_pos {l : Nat} (h : 0 < l) (n : Nat) : digR n l = padT (decDigits n) l := by
  rw [digR_pad]
  by_cases z : n = 0
  · subst z
    rw [if_pos rfl, dec_lt (by decide)]
    obtain ⟨k, rfl⟩ : ∃ k, l = k + 1 := ⟨l - 1, by omega⟩
    simp only [padT, List.length_cons, List.length_nil]
    exact List.replicate_succ'
  · rw [if_neg z]
def signN (v : Int) : B := if v < 0 then [45] else []
def bodyN (n : N3) : B := if n.2.2.1 then (padT (decDigits n.1.natAbs) (n.2.1.toNat + 1)).take ((padT (decDigits n.1.natAbs) (n.2.1.toNat + 1)).length - n.2.1.toNat) ++ [46] ++ (if n.2.1 = 0 then [48] else (padT (decDigits n.1.natAbs) (n.2.1.toNat + 1)).drop ((padT (decDigits n.1.natAbs) (n.2.1.toNat + 1)).length - n.2.1.toNat)) else decDigits n.1.natAbs
def textN (n : N3) : B := signN n.1 ++ bodyN n
theorem digit_byte {n : Int} (h0 : 0 ≤ n) (h1 : n ≤ 9223372036854775807) : bytesStr [(IntKind.u8.wrap (IntKind.i64.wrap (48 + n.tmod 10)), ())] = [UInt8.ofNat (48 + n.toNat % 10)] := by
  rw [tmod10, if_pos h0, wrap64 (by omega) (by omega)]
  have e : IntKind.u8.wrap (48 + n % 10) = 48 + n % 10 := by
    have h2 : 0 ≤ n % 10 := by omega
    have h3 : n % 10 < 10 := by omega
    generalize n % 10 = m at *
    rcases (by omega : m = 0 ∨ m = 1 ∨ m = 2 ∨ m = 3 ∨ m = 4 ∨ m = 5 ∨ m = 6 ∨ m = 7 ∨ m = 8 ∨ m = 9) with rfl | rfl | rfl | rfl | rfl | rfl | rfl | rfl | rfl | rfl <;> rfl
  rw [e]
  show [UInt8.ofNat (48 + n % 10).toNat] = _
  congr 2
  omega
theorem padT_len (d : B) (l : Nat) : (padT d l).length = max l d.length := by simp [padT]; omega
theorem nDigits_le : ∀ (k n : Nat), n < 10 ^ (k + 1) → nDigits n ≤ k + 1
  | 0, n, h => by rw [nDigits_small (by simpa using h)]; exact Nat.le_refl _
  | k + 1, n, h => by
    by_cases q : n < 10
    · rw [nDigits_small q]; omega
    · rw [nDigits_big q]
      have := nDigits_le k (n / 10) (by rw [Nat.pow_succ] at h; omega)
      omega
theorem dec_len {n : Nat} (k : Nat) (h : n < 10 ^ (k + 1)) : (decDigits n).length ≤ k + 1 := by
  rw [decDigits_length]; exact nDigits_le k n h
theorem dec_pos (n : Nat) : 1 ≤ (decDigits n).length := by rw [decDigits_length]; exact nDigits_pos n
theorem padT_zero (d : B) (l : Nat) (h : ¬ d.length < l) : padT d l = d := by simp [padT, show l - d.length = 0 by omega]
theorem padT_step (d : B) (l : Nat) (h : d.length < l) : padT (48 :: d) l = padT d l := by
  obtain ⟨k, e⟩ : ∃ k, l - d.length = k + 1 := ⟨l - d.length - 1, by omega⟩
  simp only [padT, List.length_cons, e, show l - (d.length + 1) = k by omega]
  rw [List.replicate_succ']; simp
theorem pow13 {m : Nat} (h : m ≤ 13) : (10 : Nat) ^ m ≤ 10000000000000 := Nat.pow_le_pow_right (by decide) h
/-! What is read. -/
def trimP (s p : B) : B := if s.take p.length = p then s.drop p.length else s
def splitD : B → Option (B × B)
  | [] => none
  | c :: s => if c = 46 then some ([], s) else (splitD s).map fun p => (c :: p.1, p.2)
def hasD (s : B) : Bool := (splitD s).isSome
def headD (s : B) : B := match splitD s with | some p => p.1 | none => s
def tailD (s : B) : B := match splitD s with | some p => p.2 | none => []
theorem splitD_some : ∀ (s : B) (p : B × B), splitD s = some p → s = p.1 ++ 46 :: p.2 ∧ indexByte s 46 = p.1.length
  | [], p, h => by simp [splitD] at h
  | c :: s, p, h => by
    simp only [splitD] at h
    by_cases q : c = 46
    · rw [if_pos q] at h
      simp at h; subst h; subst q
      exact ⟨rfl, by have := indexByte_append (s := []) (c := 46) s (by simp); simpa using this⟩
    · rw [if_neg q] at h
      cases e : splitD s with
      | none => rw [e] at h; simp at h
      | some p' =>
        rw [e] at h
        simp at h; subst h
        obtain ⟨h1, h2⟩ := splitD_some s p' e
        refine ⟨by simp; exact h1, ?_⟩
        rw [indexByte_skip q, h2, if_neg (by omega)]
        simp
theorem splitD_none : ∀ (s : B), splitD s = none → indexByte s 46 < 0
  | [], _ => by simp [indexByte]
  | c :: s, h => by
    simp only [splitD] at h
    by_cases q : c = 46
    · rw [if_pos q] at h; cases h
    · rw [if_neg q] at h
      cases e : splitD s with
      | none =>
        have := splitD_none s e
        rcases indexByte_le s 46 with h1 | h1
        · rw [indexByte_skip q]; split <;> omega
        · rw [indexByte_skip q, if_pos h1]; omega
      | some p' => rw [e] at h; simp at h
theorem cutD (s : B) : (hasD s = true ∧ 0 ≤ indexByte s 46 ∧ (indexByte s 46).toNat < s.length ∧ headD s = s.take (indexByte s 46).toNat ∧ tailD s = s.drop ((indexByte s 46).toNat + 1)) ∨ (hasD s = false ∧ indexByte s 46 < 0 ∧ headD s = s ∧ tailD s = []) := by
  unfold hasD headD tailD
  cases e : splitD s with
  | none => exact .inr ⟨rfl, splitD_none s e, rfl, rfl⟩
  | some p =>
    obtain ⟨h1, h2⟩ := splitD_some s p e
    refine .inl ⟨rfl, by omega, ?_, ?_, ?_⟩
    · rw [h2, h1]; simp
    · rw [h2]; conv => rhs; rw [h1]
      simp
    · rw [h2]; conv => rhs; rw [h1]
      simp
def bodyR (s : B) : B := if trimP s [45] = s then trimP s [43] else trimP s [45]
def negR (s : B) : Bool := decide (s.head? = some 45)
def digsR (s : B) : B := headD (bodyR s) ++ tailD (bodyR s)
def valR (s : B) : Int := if negR s = true then -valN (digsR s) else valN (digsR s)
def scR (s : B) : Int := (tailD (bodyR s)).length
def formR (s : B) (dec : Bool) : Bool := (hasD (bodyR s) == dec) && decide (1 ≤ (digsR s).length) && decide ((digsR s).length ≤ 13) && (!dec || (!(tailD (bodyR s)).isEmpty && decide ((tailD (bodyR s)).length ≤ 4))) && allI digitI (digsR s)
def okR (s : B) (dec : Bool) : Bool := formR s dec && cutOK (valR s) (scR s)
def numR (s : B) (dec : Bool) : N3 := (cutV (valR s) (scR s), cutS (valR s) (scR s), dec, ())
theorem valF_bound : ∀ (s : B) (k : Nat) (v : Int), allI digitI s = true → 0 ≤ v → v < ((10 ^ k : Nat) : Int) → 0 ≤ valF v s ∧ valF v s < ((10 ^ (k + s.length) : Nat) : Int)
  | [], k, v, _, h0, h1 => ⟨h0, h1⟩
  | b :: s, k, v, h, h0, h1 => by
    simp only [allI, List.all_cons, Bool.and_eq_true] at h
    have hd : 48 ≤ u b ∧ u b ≤ 57 := by simpa [digitI] using h.1
    have hp : (10 : Nat) ^ (k + 1) = 10 ^ k * 10 := Nat.pow_succ ..
    have := valF_bound s (k + 1) (10 * v + (u b - 48)) h.2 (by omega) (by rw [hp]; omega)
    rw [valF_cons, List.length_cons, show k + (s.length + 1) = k + 1 + s.length by omega]
    exact this
theorem valN_bound {s : B} (h : allI digitI s = true) (hl : s.length ≤ 13) : 0 ≤ valN s ∧ valN s < 10000000000000 := by
  have := valF_bound s 0 0 h (by decide) (by decide)
  have hp := pow13 (m := 0 + s.length) (by omega)
  unfold valN; omega
theorem trim1 (s : B) (c : UInt8) : trimP s [c] = if s.head? = some c then s.drop 1 else s := by
  cases s with
  | nil => simp [trimP]
  | cons b s => simp [trimP]
theorem trim_ne {s : B} {c : UInt8} (h : s.head? = some c) : trimP s [c] ≠ s := by
  rw [trim1, if_pos h]
  cases s with
  | nil => simp at h
  | cons b s => intro e; have := congrArg List.length e; simp at this
theorem bodyR_eq (s : B) : bodyR s = if s.head? = some 45 ∨ s.head? = some 43 then s.drop 1 else s := by
  unfold bodyR
  by_cases h : s.head? = some 45
  · rw [if_neg (trim_ne h), trim1, if_pos h, if_pos (.inl h)]
  · rw [if_pos (by rw [trim1, if_neg h]), trim1]
    by_cases k : s.head? = some 43
    · rw [if_pos k, if_pos (.inr k)]
    · rw [if_neg k, if_neg (fun q => q.elim h k)]
def scanT (dec : Bool) : B → Int → Int → Int → Bool × Int × Int × Int
  | [], n, b, v => (true, n, b, v)
  | c :: s, n, b, v => if u c = 46 ∧ b < 0 ∧ dec = true then scanT dec s n 0 v else if u c < 48 ∨ 57 < u c ∨ n = 13 then (false, 0, 0, 0) else scanT dec s (n + 1) (if 0 ≤ b then b + 1 else b) (10 * v + (u c - 48))
theorem digit_iff (c : UInt8) : digitI (u c) = true ↔ ¬ (u c < 48 ∨ 57 < u c) := by simp [digitI]
/-- behind the point, or where none may be: digits alone -/
theorem scan_digits (dec : Bool) : ∀ (s : B) (n b v : Int), (0 ≤ b ∨ dec = false ∧ b = -1) → 0 ≤ n → n ≤ 13 → scanT dec s n b v = if allI digitI s = true ∧ n + s.length ≤ 13 then (true, n + s.length, (if 0 ≤ b then b + s.length else b), valF v s) else (false, 0, 0, 0)
  | [], n, b, v, _, _, h => by
    rw [if_pos ⟨rfl, by simpa using h⟩]
    simp only [scanT, List.length_nil, valF, List.foldl_nil]
    refine congrArg (Prod.mk true) ?_
    refine Prod.ext ?_ (Prod.ext ?_ rfl)
    · simp
    · split <;> simp
  | c :: s, n, b, v, hb, h0, h1 => by
    simp only [scanT]
    rw [if_neg (by rintro ⟨_, q1, q2⟩; rcases hb with hb | ⟨hb, _⟩; omega; rw [hb] at q2; cases q2)]
    have hall : allI digitI (c :: s) = (digitI (u c) && allI digitI s) := rfl
    by_cases q : u c < 48 ∨ 57 < u c ∨ n = 13
    · rw [if_pos q, if_neg]
      rintro ⟨e, el⟩
      rw [hall, Bool.and_eq_true, digit_iff] at e
      rw [List.length_cons] at el
      rcases q with q | q | q
      · exact e.1 (.inl q)
      · exact e.1 (.inr q)
      · omega
    · rw [if_neg q]
      have hd : digitI (u c) = true := by rw [digit_iff]; omega
      rw [scan_digits dec s (n + 1) _ _ (by
        rcases hb with hb | ⟨hb, e⟩
        · left; rw [if_pos hb]; omega
        · right; exact ⟨hb, by rw [e]; rfl⟩) (by omega) (by omega)]
      rw [hall, hd, Bool.true_and, List.length_cons, valF_cons]
      by_cases q2 : allI digitI s = true ∧ n + 1 + (s.length : Int) ≤ 13
      · rw [if_pos q2, if_pos (show allI digitI s = true ∧ n + ((s.length + 1 : Nat) : Int) ≤ 13 from ⟨q2.1, by omega⟩)]
        refine congrArg (Prod.mk true) (Prod.ext ?_ (Prod.ext ?_ rfl))
        · show n + 1 + (s.length : Int) = n + ((s.length + 1 : Nat) : Int); omega
        · show (if 0 ≤ (if 0 ≤ b then b + 1 else b) then (if 0 ≤ b then b + 1 else b) + (s.length : Int) else (if 0 ≤ b then b + 1 else b)) = if 0 ≤ b then b + ((s.length + 1 : Nat) : Int) else b
          by_cases z : 0 ≤ b
          · rw [if_pos z, if_pos (by omega), if_pos z]; omega
          · rw [if_neg z, if_neg z, if_neg z]
      · rw [if_neg q2, if_neg]
        rintro ⟨e1, e2⟩
        exact q2 ⟨e1, by omega⟩
theorem valF_app (v : Int) (a b : B) : valF v (a ++ b) = valF (valF v a) b := by simp [valF]
theorem allI_app (p : Int → Bool) (a b : B) : allI p (a ++ b) = (allI p a && allI p b) := by simp [allI]
theorem scan_dec : ∀ (s : B) (n v : Int), 0 ≤ n → n ≤ 13 → scanT true s n (-1) v = if allI digitI (headD s ++ tailD s) = true ∧ n + (headD s ++ tailD s).length ≤ 13 then (true, n + (headD s ++ tailD s).length, (if hasD s = true then ((tailD s).length : Int) else -1), valF v (headD s ++ tailD s)) else (false, 0, 0, 0)
  | [], n, v, _, h => by
    show (true, n, -1, v) = _
    rw [if_pos ⟨rfl, by simpa [headD, tailD, splitD] using h⟩]
    simp [headD, tailD, splitD, hasD, valF]
  | c :: s, n, v, h0, h1 => by
    simp only [scanT]
    by_cases q : c = 46
    · subst q
      rw [if_pos ⟨rfl, by decide, trivial⟩, scan_digits true s n 0 v (.inl (by decide)) h0 h1]
      have e1 : headD (46 :: s) = [] := rfl
      have e2 : tailD (46 :: s) = s := rfl
      have e3 : hasD (46 :: s) = true := rfl
      rw [e1, e2, e3, List.nil_append, if_pos rfl, if_pos (by decide : (0 : Int) ≤ 0)]
      simp
    · have hu : ¬ (u c = 46 ∧ (-1 : Int) < 0 ∧ True) := fun z => q (u_inj (by rw [z.1]; rfl))
      rw [if_neg hu]
      have e1 : headD (c :: s) = c :: headD s := by
        unfold headD; simp only [splitD, if_neg q]
        cases splitD s <;> rfl
      have e2 : tailD (c :: s) = tailD s := by
        unfold tailD; simp only [splitD, if_neg q]
        cases splitD s <;> rfl
      have e3 : hasD (c :: s) = hasD s := by
        unfold hasD; simp only [splitD, if_neg q]
        cases splitD s <;> rfl
      rw [e1, e2, e3, List.cons_append]
      have hall : allI digitI (c :: (headD s ++ tailD s)) = (digitI (u c) && allI digitI (headD s ++ tailD s)) := rfl
      by_cases q1 : u c < 48 ∨ 57 < u c ∨ n = 13
      · rw [if_pos q1, if_neg]
        rintro ⟨e, el⟩
        rw [hall, Bool.and_eq_true, digit_iff] at e
        rw [List.length_cons] at el
        rcases q1 with q1 | q1 | q1
        · exact e.1 (.inl q1)
        · exact e.1 (.inr q1)
        · omega
      · have hd : digitI (u c) = true := by rw [digit_iff]; omega
        rw [if_neg q1, if_neg (by decide : ¬ (0 : Int) ≤ -1), scan_dec s (n + 1) _ (by omega) (by omega), hall, hd, Bool.true_and, List.length_cons, valF_cons]
        by_cases q2 : allI digitI (headD s ++ tailD s) = true ∧ n + 1 + ((headD s ++ tailD s).length : Int) ≤ 13
        · rw [if_pos q2, if_pos (show allI digitI (headD s ++ tailD s) = true ∧ n + (((headD s ++ tailD s).length + 1 : Nat) : Int) ≤ 13 from ⟨q2.1, by omega⟩)]
          refine congrArg (Prod.mk true) (Prod.ext ?_ rfl)
          show n + 1 + ((headD s ++ tailD s).length : Int) = n + (((headD s ++ tailD s).length + 1 : Nat) : Int); omega
        · rw [if_neg q2, if_neg]
          rintro ⟨x1, x2⟩
          exact q2 ⟨x1, by omega⟩
theorem no46 : ∀ {s : B}, allI digitI s = true → hasD s = false
  | [], _ => rfl
  | c :: s, h => by
    simp only [allI, List.all_cons, Bool.and_eq_true] at h
    have q : ¬ c = 46 := by
      rintro rfl
      have := h.1
      revert this; decide
    have := no46 (s := s) h.2
    unfold hasD at *
    simp only [splitD, if_neg q]
    cases e : splitD s with
    | none => rfl
    | some p => rw [e] at this; cases this
/-- what the document's reading comes to -/
def scanB (s : B) (dec : Bool) : Bool × Int × Int × Int := scanT dec (bodyR s) 0 (-1) 0
def formB (s : B) (dec : Bool) : Bool := (scanB s dec).1 && !decide ((scanB s dec).2.1 = 0) && (!dec || (decide (1 ≤ (scanB s dec).2.2.1) && decide ((scanB s dec).2.2.1 ≤ 4)))
theorem head_all {s : B} (h : hasD s = false) : headD s = s ∧ tailD s = [] := by
  unfold hasD at h
  unfold headD tailD
  cases e : splitD s with
  | none => exact ⟨rfl, rfl⟩
  | some p => rw [e] at h; cases h
theorem formB_eq (s : B) (dec : Bool) : formB s dec = formR s dec ∧ (formR s dec = true → (scanB s dec).2.2.2 = valN (digsR s) ∧ max2I (scanB s dec).2.2.1 0 = scR s) := by
  unfold formB formR scanB digsR scR
  generalize bodyR s = t
  cases dec with
  | false =>
    have e := scan_digits false t 0 (-1) 0 (.inr ⟨rfl, rfl⟩) (by decide) (by decide)
    rw [if_neg (by decide : ¬ (0 : Int) ≤ -1)] at e
    rw [e]
    by_cases hD : hasD t = true
    · have na : ¬ allI digitI t = true := fun z => by rw [no46 z] at hD; cases hD
      rw [if_neg (fun z => na z.1), hD]
      exact ⟨rfl, fun z => by cases z⟩
    · have hD : hasD t = false := by simpa using hD
      obtain ⟨h1, h2⟩ := head_all hD
      rw [h1, h2, List.append_nil, hD]
      by_cases q : allI digitI t = true ∧ (0 : Int) + t.length ≤ 13
      · rw [if_pos q]
        refine ⟨?_, fun _ => ⟨rfl, rfl⟩⟩
        rw [q.1]
        simp only [Bool.true_and, Bool.not_false, Bool.true_or, Bool.and_true, beq_self_eq_true]
        by_cases z : t.length = 0
        · rw [decide_eq_true (by omega : (0 : Int) + t.length = 0), decide_eq_false (by omega : ¬ 1 ≤ t.length)]; rfl
        · rw [decide_eq_false (by omega : ¬ (0 : Int) + t.length = 0), decide_eq_true (by omega : 1 ≤ t.length), decide_eq_true (by omega : t.length ≤ 13)]; rfl
      · rw [if_neg q]
        have : (decide (t.length ≤ 13) && allI digitI t) = false := by
          rw [Bool.and_eq_false_iff]
          by_cases z : t.length ≤ 13
          · right
            cases hh : allI digitI t with
            | false => rfl
            | true => exact absurd ⟨hh, by omega⟩ q
          · left; exact decide_eq_false z
        refine ⟨?_, fun z => ?_⟩
        · simp only [Bool.false_and, Bool.not_false, Bool.true_or, Bool.and_true, beq_self_eq_true, Bool.true_and, Bool.and_assoc, this, Bool.and_false]
        · simp only [Bool.not_false, Bool.true_or, Bool.and_true, beq_self_eq_true, Bool.true_and, Bool.and_assoc, this, Bool.and_false] at z
          cases z
  | true =>
    rw [scan_dec t 0 0 (by decide) (by decide)]
    generalize hl : headD t ++ tailD t = w
    have hw : (tailD t).length ≤ w.length := by rw [← hl]; simp
    by_cases q : allI digitI w = true ∧ (0 : Int) + w.length ≤ 13
    · rw [if_pos q]
      by_cases hD : hasD t = true
      · rw [hD, if_pos rfl, q.1]
        refine ⟨?_, fun _ => ⟨rfl, ?_⟩⟩
        · simp only [Bool.true_and, Bool.not_true, Bool.false_or, Bool.and_true, beq_self_eq_true]
          by_cases z : (tailD t).length = 0
          · have ez : tailD t = [] := List.length_eq_zero_iff.1 z
            rw [ez]; simp
          · have e1 : (tailD t).isEmpty = false := by cases ht : tailD t with | nil => rw [ht] at z; exact absurd rfl z | cons _ _ => rfl
            rw [e1, decide_eq_false (by omega : ¬ (0 : Int) + w.length = 0), decide_eq_true (by omega : (1 : Int) ≤ (tailD t).length), decide_eq_true (by omega : 1 ≤ w.length), decide_eq_true (by omega : w.length ≤ 13)]
            simp; omega
        · show max2I ((tailD t).length : Int) 0 = (tailD t).length
          unfold max2I; rw [if_neg (by omega)]
      · have hD : hasD t = false := by simpa using hD
        rw [hD, if_neg (by decide)]
        exact ⟨by simp, fun z => by simp at z⟩
    · rw [if_neg q]
      have : (decide (w.length ≤ 13) && allI digitI w) = false := by
        rw [Bool.and_eq_false_iff]
        by_cases z : w.length ≤ 13
        · right
          cases hh : allI digitI w with
          | false => rfl
          | true => exact absurd ⟨hh, by omega⟩ q
        · left; exact decide_eq_false z
      have e : ∀ a b c : Bool, (a && b && decide (w.length ≤ 13) && c && allI digitI w) = false := by
        intro a b c
        have h2 : (a && b && decide (w.length ≤ 13) && c && allI digitI w) = (a && b && c && (decide (w.length ≤ 13) && allI digitI w)) := by
          cases a <;> cases b <;> cases c <;> simp
        rw [h2, this, Bool.and_false]
      rw [e]
      exact ⟨rfl, fun z => by cases z⟩
theorem formR_digits {s : B} {dec : Bool} (h : formR s dec = true) : allI digitI (digsR s) = true ∧ (digsR s).length ≤ 13 ∧ 1 ≤ (digsR s).length := by
  simp only [formR, Bool.and_eq_true, decide_eq_true_eq] at h
  exact ⟨h.2, h.1.1.2, h.1.1.1.2⟩
def eqN (a b : N3) : Bool := a.1 == b.1 && (a.2.1 == b.2.1 && a.2.2.1 == b.2.2.1)
theorem eqN_iff (a b : N3) : eqN a b = true ↔ a = b := by
  obtain ⟨a1, a2, a3, _⟩ := a
  obtain ⟨b1, b2, b3, _⟩ := b
  simp [eqN]
def cmpN (a b : N3) : Int := if amtN a < amtN b then -1 else if amtN a > amtN b then 1 else 0
theorem form_1 {s : B} {dec : Bool} (z : ¬ hasD (bodyR s) = dec) : formR s dec = false := by
  unfold formR
  have : (hasD (bodyR s) == dec) = false := by simpa using z
  rw [this]; simp
theorem form_2 {s : B} {dec : Bool} (z : ¬ (1 ≤ (digsR s).length ∧ (digsR s).length ≤ 13)) : formR s dec = false := by
  unfold formR
  by_cases a : 1 ≤ (digsR s).length
  · rw [decide_eq_false (fun q => z ⟨a, q⟩)]; simp
  · rw [decide_eq_false a]; simp
theorem form_3 {s : B} (z : tailD (bodyR s) = [] ∨ ¬ (tailD (bodyR s)).length ≤ 4) : formR s true = false := by
  unfold formR
  rcases z with z | z
  · rw [z]; simp
  · rw [decide_eq_false z]; simp
theorem form_4 {s : B} {dec : Bool} (z : allI digitI (digsR s) = false) : formR s dec = false := by
  unfold formR; rw [z]; simp
theorem form_t {s : B} {dec : Bool} (z1 : hasD (bodyR s) = dec) (z2 : 1 ≤ (digsR s).length) (z3 : (digsR s).length ≤ 13) (z4 : dec = true → tailD (bodyR s) ≠ [] ∧ (tailD (bodyR s)).length ≤ 4) (z5 : allI digitI (digsR s) = true) : formR s dec = true := by
  unfold formR
  have : (hasD (bodyR s) == dec) = true := by simpa using z1
  rw [this, decide_eq_true z2, decide_eq_true z3, z5]
  cases dec with
  | false => rfl
  | true =>
    obtain ⟨a, b⟩ := z4 rfl
    have : (tailD (bodyR s)).isEmpty = false := by cases ht : tailD (bodyR s) with | nil => exact absurd ht a | cons _ _ => rfl
    rw [this, decide_eq_true b]; rfl
theorem ok_form {s : B} {dec : Bool} (h : formR s dec = false) : okR s dec = false := by unfold okR; rw [h]; rfl
theorem ok_cut {s : B} {dec : Bool} (h : formR s dec = true) : okR s dec = cutOK (valR s) (scR s) := by unfold okR; rw [h]; rfl
theorem digs_ne {s : B} (h : 1 ≤ (digsR s).length) : ∃ b r, s = b :: r := by
  cases s with
  | nil => exact absurd h (by decide)
  | cons b r => exact ⟨b, r, rfl⟩
theorem form_B0 {s : B} {dec : Bool} (h : (scanB s dec).1 = false) : formR s dec = false := by
  rw [← (formB_eq s dec).1, formB, h]; rfl
theorem form_B1 {s : B} {dec : Bool} (h : (scanB s dec).2.1 = 0) : formR s dec = false := by
  rw [← (formB_eq s dec).1, formB, decide_eq_true h]; simp
theorem form_B2 {s : B} (h : ¬ (1 ≤ (scanB s true).2.2.1 ∧ (scanB s true).2.2.1 ≤ 4)) : formR s true = false := by
  rw [← (formB_eq s true).1, formB]
  by_cases a : 1 ≤ (scanB s true).2.2.1
  · rw [decide_eq_false (fun q => h ⟨a, q⟩)]; simp
  · rw [decide_eq_false a]; simp
theorem form_Bt {s : B} {dec : Bool} (h1 : (scanB s dec).1 = true) (h2 : ¬ (scanB s dec).2.1 = 0) (h3 : dec = true → 1 ≤ (scanB s dec).2.2.1 ∧ (scanB s dec).2.2.1 ≤ 4) : formR s dec = true := by
  rw [← (formB_eq s dec).1, formB, h1, decide_eq_false h2]
  cases dec with
  | false => rfl
  | true => obtain ⟨a, b⟩ := h3 rfl; rw [decide_eq_true a, decide_eq_true b]; rfl
theorem scR_le {s : B} {dec : Bool} (h : formR s dec = true) : 0 ≤ scR s ∧ scR s ≤ 13 := by
  have := (formR_digits h).2.1
  unfold digsR at this
  rw [List.length_append] at this
  unfold scR; omega
def recV (how : Int) (a b : N3) : Int := if how = 1 then amtN a + amtN b else if how = 2 then amtN a - amtN b else if how = 3 then a.1 * b.1 else (amtN a * 10000).tdiv (amtN b)
def recS (how : Int) (a b : N3) : Int := if how = 3 then a.2.1 + b.2.1 else 4
def recD (how : Int) (a b : N3) : Bool := if how = 1 ∨ how = 2 ∨ how = 3 then a.2.2.1 || b.2.2.1 else true
def recO (how : Int) (a b : N3) : Bool := (decide (how = 1 ∨ how = 2 ∨ how = 3) || !decide (b.1 = 0)) && cutOK (recV how a b) (recS how a b)
def recN (how : Int) (a b : N3) : N3 := (cutV (recV how a b) (recS how a b), cutS (recV how a b) (recS how a b), recD how a b, ())
theorem ten8 {k : Int} (h0 : 0 ≤ k) (h1 : k ≤ 4) : tenN (8 - k) = tenN (4 - k) * 10000 := by
  rcases (by omega : k = 0 ∨ k = 1 ∨ k = 2 ∨ k = 3 ∨ k = 4) with rfl | rfl | rfl | rfl | rfl <;> decide
theorem amt8 {n : N3} (h : rightN n = true) : n.1 * tenN (8 - n.2.1) = amtN n * 10000 := by
  obtain ⟨_, _, r3, r4, _⟩ := (rightN_iff n).1 h
  unfold amtN; rw [ten8 r3 r4, Int.mul_assoc]
theorem amt_zero {n : N3} (h : rightN n = true) : amtN n = 0 ↔ n.1 = 0 := by
  obtain ⟨_, _, r3, r4, _⟩ := (rightN_iff n).1 h
  have := tenN_4 (k := 4 - n.2.1) (by omega) (by omega)
  unfold amtN
  rw [Int.mul_eq_zero]
  constructor
  · rintro (q | q)
    · exact q
    · omega
  · exact fun q => .inl q
theorem i64_div {x y : Int} (h0 : -9000000000000000000 ≤ x) (h1 : x ≤ 9000000000000000000) : i64 (x.tdiv y) := by
  have e := Int.natAbs_tdiv x y
  have l : (x.tdiv y).natAbs ≤ x.natAbs := by rw [e]; exact Nat.div_le_self _ _
  clear e
  unfold i64; omega
theorem i64_mul {a b : N3} (ha : rightN a = true) (hb : rightN b = true) : i64 (a.1 * b.1) := by
  obtain ⟨a1, a2, _⟩ := (rightN_iff a).1 ha
  obtain ⟨b1, b2, _⟩ := (rightN_iff b).1 hb
  have := mul_bound (a := a.1) (b := b.1) (A := 999999999) (B := 999999999) (by omega) (by omega) (by omega) (by omega)
  unfold i64; omega
theorem recV_i64 {a b : N3} (how : Int) (ha : rightN a = true) (hb : rightN b = true) : i64 (recV how a b) := by
  have h1 := amt_le ha
  have h2 := amt_le hb
  unfold recV
  split
  · unfold i64; omega
  · split
    · unfold i64; omega
    · split
      · exact i64_mul ha hb
      · exact i64_div (by omega) (by omega)
def integerT : B := [104, 116, 116, 112, 58, 47, 47, 119, 119, 119, 46, 119, 51, 46, 111, 114, 103, 47, 50, 48, 48, 49, 47, 88, 77, 76, 83, 99, 104, 101, 109, 97, 35, 105, 110, 116, 101, 103, 101, 114]
def termN (n : N3) : TR := (2, textN n, if n.2.2.1 then decimalT else integerT, [], ())
theorem dec_digits (n : Nat) : allI digitI (decDigits n) = true := by
  induction n using Nat.strongRecOn with
  | _ n ih =>
    have one : ∀ m : Nat, m < 10 → allI digitI [UInt8.ofNat (48 + m)] = true := by decide
    by_cases q : n < 10
    · rw [dec_lt q]; exact one n q
    · rw [dec_ge q, allI_app, ih (n / 10) (by omega), one _ (Nat.mod_lt _ (by decide))]; rfl
theorem digit_text {s : B} (h : allI digitI s = true) : allI textI s = true := by
  simp only [allI, List.all_eq_true] at *
  intro b hb
  have := h b hb
  simp only [digitI, textI, Bool.and_eq_true, Bool.or_eq_true, decide_eq_true_eq] at *
  omega
theorem pad_digits {d : B} (h : allI digitI d = true) (l : Nat) : allI digitI (padT d l) = true := by
  unfold padT
  rw [allI_app, h, Bool.and_true]
  simp only [allI, List.all_eq_true, List.mem_replicate]
  rintro b ⟨_, rfl⟩
  decide
theorem allI_take {p : Int → Bool} {s : B} (n : Nat) (h : allI p s = true) : allI p (s.take n) = true := by
  simp only [allI, List.all_eq_true] at *
  exact fun b hb => h b (List.mem_of_mem_take hb)
theorem allI_drop {p : Int → Bool} {s : B} (n : Nat) (h : allI p s = true) : allI p (s.drop n) = true := by
  simp only [allI, List.all_eq_true] at *
  exact fun b hb => h b (List.mem_of_mem_drop hb)
theorem body_text (n : N3) : allI textI (bodyN n) = true := by
  unfold bodyN
  have hd := pad_digits (dec_digits n.1.natAbs) (n.2.1.toNat + 1)
  split
  · rw [allI_app, allI_app, digit_text (allI_take _ hd)]
    split
    · rfl
    · rw [digit_text (allI_drop _ hd)]; rfl
  · exact digit_text (dec_digits _)
theorem text_text (n : N3) : allI textI (textN n) = true := by
  unfold textN
  rw [allI_app, body_text]
  unfold signN
  split <;> rfl
theorem text_len {n : N3} (h : rightN n = true) : (textN n).length ≤ 30 := by
  obtain ⟨r1, r2, r3, r4, _⟩ := (rightN_iff n).1 h
  have dl := dec_len (n := n.1.natAbs) 8 (by have : (10 : Nat) ^ (8 + 1) = 1000000000 := rfl; omega)
  have lD := padT_len (decDigits n.1.natAbs) (n.2.1.toNat + 1)
  unfold textN
  rw [List.length_append]
  have h1 : (signN n.1).length ≤ 1 := by unfold signN; split <;> simp
  have h2 : (bodyN n).length ≤ 25 := by
    unfold bodyN
    split
    · rw [List.length_append, List.length_append, List.length_take]
      split
      · simp; omega
      · rw [List.length_drop]; simp; omega
    · omega
  omega
theorem term_right {n : N3} (h : rightN n = true) : rightT (termN n) = true := by
  have h1 : isText (textN n) = true := by
    unfold isText
    have := text_len h
    rw [text_text, decide_eq_true (by omega)]; rfl
  have h2 : isIri (if n.2.2.1 then decimalT else integerT) = true := by cases n.2.2.1 <;> decide
  unfold termN rightT right
  simp only
  rw [if_neg (by decide), if_neg (by decide), if_neg (by decide), if_pos trivial, h1, h2]
  simp
end Go.Proofs.YtfafmpiajlgojaaDoor.Sp
