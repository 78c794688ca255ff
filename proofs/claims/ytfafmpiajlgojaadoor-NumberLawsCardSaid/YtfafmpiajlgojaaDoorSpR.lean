/- Part of a proof of the seat's statements: no statement by itself. -/
import Derived.Test.YtfafmpiajlgojaaDoorSpP
set_option maxRecDepth 100000
namespace Go.Proofs.YtfafmpiajlgojaaDoor.Sp
open Go.Proofs.YtfafmpiajlgojaaDoor.Lg Go
open Go.Lib
/- Chapter 2: there and back. -/
theorem tdiv_mul10 (v : Int) : (v * 10).tdiv 10 = v := by rw [tdiv10]; split <;> omega
theorem tmod_mul10 (v : Int) : (v * 10).tmod 10 = 0 := by rw [tmod10]; split <;> omega
theorem tdiv_exact {v : Int} (h : v.tmod 10 = 0) : v.tdiv 10 * 10 = v := by
  rw [tmod10] at h
  rw [tdiv10]
  split <;> rename_i q
  · rw [if_pos q] at h; omega
  · rw [if_neg q] at h; omega
theorem cut_back : ∀ (s : Nat) (v : Int), s ≤ 4 → (cutF s v).2 ≤ s ∧ (cutF s v).1 * ((10 ^ (s - (cutF s v).2) : Nat) : Int) = v
  | 0, v, _ => by simp [cutF]
  | s + 1, v, h => by
    simp only [cutF]
    by_cases q : v.tmod 10 = 0
    · rw [if_pos (.inr q)]
      obtain ⟨h1, h2⟩ := cut_back s (v.tdiv 10) (by omega)
      refine ⟨by omega, ?_⟩
      rw [show s + 1 - (cutF s (v.tdiv 10)).2 = (s - (cutF s (v.tdiv 10)).2) + 1 by omega, Nat.pow_succ]
      have := tdiv_exact q
      rw [Int.natCast_mul, ← Int.mul_assoc, h2]
      exact this
    · rw [if_neg (fun z => z.elim (fun z => by omega) q)]
      exact ⟨Nat.le_refl _, by simp⟩
theorem cut_ends : ∀ (s : Nat) (v : Int), (cutF s v).2 ≤ 4 ∧ ((cutF s v).2 = 0 ∨ ¬ (cutF s v).1.tmod 10 = 0)
  | 0, v => by simp [cutF]
  | s + 1, v => by
    simp only [cutF]
    by_cases q : 4 < s + 1 ∨ v.tmod 10 = 0
    · rw [if_pos q]; exact cut_ends s _
    · rw [if_neg q]
      exact ⟨by show s + 1 ≤ 4; omega, .inr fun z => q (.inr z)⟩
theorem cut_less : ∀ (s : Nat) (v : Int), (cutF s v).1.natAbs ≤ v.natAbs ∧ (cutF s v).2 ≤ s ∧ (0 ≤ v → 0 ≤ (cutF s v).1)
  | 0, v => by simp [cutF]
  | s + 1, v => by
    simp only [cutF]
    split
    · obtain ⟨h1, h2, h3⟩ := cut_less s (v.tdiv 10)
      have hd : (v.tdiv 10).natAbs ≤ v.natAbs ∧ (0 ≤ v → 0 ≤ v.tdiv 10) := by rw [tdiv10]; split <;> omega
      exact ⟨by omega, by omega, fun q => h3 (hd.2 q)⟩
    · exact ⟨Nat.le_refl _, Nat.le_refl _, id⟩
theorem cut_one : ∀ (s t : Nat) (w : Int), t ≤ s → s ≤ 4 → (t = 0 ∨ ¬ w.tmod 10 = 0) → cutF s (w * ((10 ^ (s - t) : Nat) : Int)) = (w, t)
  | 0, t, w, h, _, _ => by
    obtain rfl : t = 0 := by omega
    simp [cutF]
  | s + 1, t, w, h, h4, k => by
    by_cases q : t = s + 1
    · subst q
      rw [Nat.sub_self]
      simp only [Nat.pow_zero]
      rw [show w * ((1 : Nat) : Int) = w by omega]
      simp only [cutF]
      rw [if_neg]
      rintro (z | z)
      · omega
      · exact k.elim (fun k => by omega) (fun k => k z)
    · have e : w * ((10 ^ (s + 1 - t) : Nat) : Int) = w * ((10 ^ (s - t) : Nat) : Int) * 10 := by
        rw [show s + 1 - t = (s - t) + 1 by omega, Nat.pow_succ, Int.natCast_mul, Int.mul_assoc]; rfl
      rw [e]
      simp only [cutF]
      rw [if_pos (.inr (tmod_mul10 _)), tdiv_mul10]
      exact cut_one s t w (by omega) (by omega) k
theorem tenN_nat (n : Nat) : tenN (n : Int) = ((10 ^ n : Nat) : Int) := by unfold tenN; rw [Int.toNat_natCast]
theorem cut_amt {n : N3} (h : rightN n = true) : cutV (amtN n) 4 = n.1 ∧ cutS (amtN n) 4 = n.2.1 := by
  obtain ⟨_, _, r3, r4, r5⟩ := (rightN_iff n).1 h
  have e : cutF 4 (amtN n) = (n.1, n.2.1.toNat) := by
    unfold amtN
    have := cut_one 4 n.2.1.toNat n.1 (by omega) (by omega) (r5.imp (fun q => by omega) (fun q => q.2))
    rw [show (4 : Int) - n.2.1 = ((4 - n.2.1.toNat : Nat) : Int) by omega, tenN_nat]
    exact this
  have e4 : (4 : Int).toNat = 4 := rfl
  unfold cutV cutS
  rw [e4, e]
  exact ⟨rfl, by show ((n.2.1.toNat : Nat) : Int) = n.2.1; omega⟩
theorem amt_cut (x : Int) : cutV x 4 * tenN (4 - cutS x 4) = x := by
  obtain ⟨h1, h2⟩ := cut_back 4 x (by omega)
  have e4 : (4 : Int).toNat = 4 := rfl
  unfold cutV cutS
  rw [e4, show (4 : Int) - (((cutF 4 x).2 : Nat) : Int) = ((4 - (cutF 4 x).2 : Nat) : Int) by omega, tenN_nat]
  exact h2
theorem cutOK_iff (v s : Int) : cutOK v s = true ↔ -999999999 ≤ cutV v s ∧ cutV v s ≤ 999999999 := by simp [cutOK]
theorem recO_comm1 (a b : N3) : recO 1 b a = recO 1 a b := by
  show (true && cutOK (amtN b + amtN a) 4) = (true && cutOK (amtN a + amtN b) 4)
  rw [Int.add_comm]
theorem recN_comm1 (a b : N3) : recN 1 b a = recN 1 a b := by
  show (cutV (amtN b + amtN a) 4, cutS (amtN b + amtN a) 4, (b.2.2.1 || a.2.2.1), ()) = (cutV (amtN a + amtN b) 4, cutS (amtN a + amtN b) 4, (a.2.2.1 || b.2.2.1), ())
  rw [Int.add_comm, Bool.or_comm]
theorem recO_comm3 (a b : N3) : recO 3 b a = recO 3 a b := by
  show (true && cutOK (b.1 * a.1) (b.2.1 + a.2.1)) = (true && cutOK (a.1 * b.1) (a.2.1 + b.2.1))
  rw [Int.mul_comm, Int.add_comm]
theorem recN_comm3 (a b : N3) : recN 3 b a = recN 3 a b := by
  show (cutV (b.1 * a.1) (b.2.1 + a.2.1), cutS (b.1 * a.1) (b.2.1 + a.2.1), (b.2.2.1 || a.2.2.1), ()) = (cutV (a.1 * b.1) (a.2.1 + b.2.1), cutS (a.1 * b.1) (a.2.1 + b.2.1), (a.2.2.1 || b.2.2.1), ())
  rw [Int.mul_comm, Int.add_comm, Bool.or_comm]
theorem cutS_range (x s : Int) : 0 ≤ cutS x s ∧ cutS x s ≤ 4 := by
  have := (cut_ends s.toNat x).1
  unfold cutS; omega
theorem cut_right {x s : Int} {d : Bool} (h : cutOK x s = true) (hd : d = false → cutS x s = 0) : rightN (cutV x s, cutS x s, d, ()) = true := by
  rw [rightN_iff]
  obtain ⟨h1, h2⟩ := (cutOK_iff x s).1 h
  obtain ⟨h3, h4⟩ := cutS_range x s
  refine ⟨h1, h2, h3, h4, ?_⟩
  rcases (cut_ends s.toNat x).2 with q | q
  · left; show (((cutF s.toNat x).2 : Nat) : Int) = 0; omega
  · cases d with
    | false => exact .inl (hd rfl)
    | true => exact .inr ⟨rfl, q⟩
theorem whole_cut (y : Int) : cutS (y * 10000) 4 = 0 := by
  have := cut_one 4 0 y (by omega) (by omega) (.inl rfl)
  unfold cutS
  rw [show (4 : Int).toNat = 4 from rfl, show y * 10000 = y * ((10 ^ (4 - 0) : Nat) : Int) from rfl, this]; rfl
theorem whole_amt {n : N3} (h : rightN n = true) (hd : n.2.2.1 = false) : amtN n = n.1 * 10000 := by
  obtain ⟨_, _, _, _, r5⟩ := (rightN_iff n).1 h
  rcases r5 with q | q
  · unfold amtN; rw [q]; rfl
  · rw [hd] at q; cases q.1
theorem sub_add {a b : N3} (ha : rightN a = true) (hb : rightN b = true) (h : recO 2 a b = true) : rightN (recN 2 a b) = true ∧ recO 1 (recN 2 a b) b = true ∧ recN 1 (recN 2 a b) b = (a.1, a.2.1, (a.2.2.1 || b.2.2.1), ()) := by
  have hk : cutOK (amtN a - amtN b) 4 = true := h
  have hr : rightN (recN 2 a b) = true := cut_right (x := amtN a - amtN b) (s := 4) (d := a.2.2.1 || b.2.2.1) hk fun q => by
    rw [Bool.or_eq_false_iff] at q
    rw [whole_amt ha q.1, whole_amt hb q.2, ← Int.sub_mul]
    exact whole_cut _
  have e : amtN (recN 2 a b) = amtN a - amtN b := amt_cut (amtN a - amtN b)
  have e2 : amtN (recN 2 a b) + amtN b = amtN a := by rw [e]; omega
  obtain ⟨c1, c2⟩ := cut_amt ha
  refine ⟨hr, ?_, ?_⟩
  · show (true && cutOK (amtN (recN 2 a b) + amtN b) 4) = true
    rw [e2, Bool.true_and, cutOK_iff, c1]
    obtain ⟨r1, r2, _⟩ := (rightN_iff a).1 ha
    exact ⟨r1, r2⟩
  · show (cutV (amtN (recN 2 a b) + amtN b) 4, cutS (amtN (recN 2 a b) + amtN b) 4, ((a.2.2.1 || b.2.2.1) || b.2.2.1), ()) = _
    rw [e2, c1, c2, Bool.or_assoc, Bool.or_self]
theorem cmp_self {a : N3} (d : Bool) : cmpN a (a.1, a.2.1, d, ()) = 0 := by
  have : amtN (a.1, a.2.1, d, ()) = amtN a := rfl
  unfold cmpN; rw [this, if_neg (by omega), if_neg (by omega)]
theorem right_dec {a : N3} (h : rightN a = true) : rightN (a.1, a.2.1, true, ()) = true := by
  rw [rightN_iff] at h ⊢
  obtain ⟨r1, r2, r3, r4, r5⟩ := h
  exact ⟨r1, r2, r3, r4, r5.imp id (fun q => ⟨rfl, q.2⟩)⟩
/-! texts read -/
theorem val_dec (n : Nat) : valN (decDigits n) = n := by
  induction n using Nat.strongRecOn with
  | _ n ih =>
    have one : ∀ m : Nat, m < 10 → u (UInt8.ofNat (48 + m)) - 48 = m := by decide
    by_cases q : n < 10
    · rw [dec_lt q]
      have := one n q
      unfold valN valF
      simp only [List.foldl_cons, List.foldl_nil]; omega
    · have h1 := ih (n / 10) (by omega)
      have h2 := one (n % 10) (Nat.mod_lt _ (by decide))
      unfold valN at *
      rw [dec_ge q, valF_app, h1]
      unfold valF
      simp only [List.foldl_cons, List.foldl_nil]
      omega
theorem val_pad (d : B) (l : Nat) : valN (padT d l) = valN d := by
  unfold padT valN
  rw [valF_app]
  congr 1
  generalize l - d.length = k
  induction k with
  | zero => rfl
  | succ k ih => rw [List.replicate_succ, valF_cons, show (10 : Int) * 0 + (u 48 - 48) = 0 from rfl, ih]
theorem splitD_at {a c : B} (h : allI digitI a = true) : splitD (a ++ 46 :: c) = some (a, c) := by
  induction a with
  | nil => rfl
  | cons b a ih =>
    simp only [allI, List.all_cons, Bool.and_eq_true] at h
    have q : ¬ b = 46 := by
      rintro rfl
      have := h.1
      revert this; decide
    simp only [List.cons_append, splitD, if_neg q]
    rw [ih h.2]; rfl
theorem head_digit {a : B} (h : allI digitI a = true) (hl : 1 ≤ a.length) (r : B) : (a ++ r).head? ≠ some 45 ∧ (a ++ r).head? ≠ some 43 := by
  cases a with
  | nil => simp at hl
  | cons b a =>
    simp only [allI, List.all_cons, Bool.and_eq_true] at h
    have := h.1
    simp only [List.cons_append, List.head?_cons, ne_eq, Option.some.injEq]
    constructor
    · rintro rfl; revert this; decide
    · rintro rfl; revert this; decide
theorem body_sign {v : Int} {b : B} (h : b.head? ≠ some 45 ∧ b.head? ≠ some 43) : bodyR (signN v ++ b) = b ∧ negR (signN v ++ b) = decide (v < 0) := by
  rw [bodyR_eq]
  unfold signN negR
  by_cases q : v < 0
  · rw [if_pos q, decide_eq_true q]
    simp
  · rw [if_neg q, decide_eq_false q, List.nil_append]
    refine ⟨if_neg (fun z => z.elim h.1 h.2), decide_eq_false h.1⟩
theorem num_of {s : B} {n : N3} (hf : formR s n.2.2.1 = true) (h : cutV (valR s) (scR s) = n.1 ∧ cutS (valR s) (scR s) = n.2.1) (hr : rightN n = true) : okR s n.2.2.1 = true ∧ numR s n.2.2.1 = n := by
  obtain ⟨r1, r2, _⟩ := (rightN_iff n).1 hr
  refine ⟨by rw [ok_cut hf, cutOK_iff, h.1]; exact ⟨r1, r2⟩, ?_⟩
  unfold numR; rw [h.1, h.2]
theorem read_text2 {n : N3} (h : rightN n = true) : okR (textN n) n.2.2.1 = true ∧ numR (textN n) n.2.2.1 = n := by
  obtain ⟨r1, r2, r3, r4, r5⟩ := (rightN_iff n).1 h
  have dl := dec_len (n := n.1.natAbs) 8 (by have : (10 : Nat) ^ (8 + 1) = 1000000000 := rfl; omega)
  have dp := dec_pos n.1.natAbs
  have dd := dec_digits n.1.natAbs
  have hD := pad_digits dd (n.2.1.toNat + 1)
  have lD := padT_len (decDigits n.1.natAbs) (n.2.1.toNat + 1)
  have vD := val_pad (decDigits n.1.natAbs) (n.2.1.toNat + 1)
  rw [val_dec] at vD
  have hb : bodyN n = if n.2.2.1 then (padT (decDigits n.1.natAbs) (n.2.1.toNat + 1)).take ((padT (decDigits n.1.natAbs) (n.2.1.toNat + 1)).length - n.2.1.toNat) ++ [46] ++ (if n.2.1 = 0 then [48] else (padT (decDigits n.1.natAbs) (n.2.1.toNat + 1)).drop ((padT (decDigits n.1.natAbs) (n.2.1.toNat + 1)).length - n.2.1.toNat)) else decDigits n.1.natAbs := rfl
  have ht : textN n = signN n.1 ++ bodyN n := rfl
  generalize padT (decDigits n.1.natAbs) (n.2.1.toNat + 1) = D at *
  -- the sign and the digits, as they are read
  have key : ∀ (A C : B), allI digitI A = true → 1 ≤ A.length → (∀ hd : Bool, (hd = true → bodyN n = A ++ 46 :: C) → (hd = false → bodyN n = A ∧ C = []) → hd = n.2.2.1 → allI digitI C = true → A.length + C.length ≤ 13 → (hd = true → C ≠ [] ∧ C.length ≤ 4) → ∀ m : Nat, valN (A ++ C) = m → formR (textN n) n.2.2.1 = true ∧ valR (textN n) = (if n.1 < 0 then -(m : Int) else m) ∧ scR (textN n) = C.length) := by
    intro A C hA lA hd h1 h2 hh hC hl h4 m hm
    have hh' : (bodyN n).head? ≠ some 45 ∧ (bodyN n).head? ≠ some 43 := by
      cases hd with
      | true => rw [h1 rfl]; exact head_digit hA lA _
      | false =>
        have := head_digit hA lA []
        rw [List.append_nil] at this
        rw [(h2 rfl).1]; exact this
    obtain ⟨b1, b2⟩ := body_sign (v := n.1) hh'
    rw [← ht] at b1 b2
    have hs : hasD (bodyN n) = hd ∧ headD (bodyN n) = A ∧ tailD (bodyN n) = C := by
      cases hd with
      | true => unfold hasD headD tailD; rw [h1 rfl, splitD_at hA]; exact ⟨rfl, rfl, rfl⟩
      | false =>
        obtain ⟨e1, e2⟩ := h2 rfl
        rw [e1, e2]
        have := no46 hA
        exact ⟨this, (head_all this).1, (head_all this).2⟩
    have hg : digsR (textN n) = A ++ C := by unfold digsR; rw [b1, hs.2.1, hs.2.2]
    refine ⟨form_t (by rw [b1, hs.1, hh]) (by rw [hg, List.length_append]; omega) (by rw [hg, List.length_append]; omega) (fun q => by rw [b1, hs.2.2]; exact h4 (hh.trans q)) (by rw [hg, allI_app, hA, hC]; rfl), ?_, ?_⟩
    · unfold valR
      rw [b2, hg, hm]
      by_cases q : n.1 < 0
      · rw [decide_eq_true q, if_pos rfl, if_pos q]
      · rw [decide_eq_false q, if_neg (by decide), if_neg q]
    · unfold scR; rw [b1, hs.2.2]
  have sgn : (if n.1 < 0 then -(n.1.natAbs : Int) else n.1.natAbs) = n.1 := by split <;> omega
  cases hdec : n.2.2.1 with
  | false =>
    rw [hdec] at hb r5
    have z : n.2.1 = 0 := r5.elim id (fun q => by cases q.1)
    obtain ⟨k1, k2, k3⟩ := key (decDigits n.1.natAbs) [] dd dp false (by simp) (fun _ => ⟨hb, rfl⟩) hdec.symm rfl (by simp; omega) (by simp) n.1.natAbs (by rw [List.append_nil, val_dec])
    rw [sgn] at k2
    rw [hdec] at k1
    have := num_of (s := textN n) (n := n) (by rw [hdec]; exact k1) (by rw [k2, k3]; exact ⟨rfl, z.symm⟩) h
    rw [hdec] at this; exact this
  | true =>
    rw [hdec, if_pos rfl] at hb
    by_cases z : n.2.1 = 0
    · rw [if_pos z, z] at hb
      have e : D.take (D.length - (0 : Int).toNat) = D := by simp
      rw [e] at hb
      obtain ⟨k1, k2, k3⟩ := key D [48] hD (by omega) true (fun _ => by rw [hb]; simp) (by simp) hdec.symm rfl (by simp; omega) (by simp) (10 * n.1.natAbs) (by
        unfold valN at vD ⊢
        rw [valF_app, vD]
        show 10 * (n.1.natAbs : Int) + (u 48 - 48) = _
        rw [show u 48 = 48 from rfl]; omega)
      have e2 : valR (textN n) = n.1 * 10 := by rw [k2]; split <;> omega
      rw [hdec] at k1
      have hc : cutV (valR (textN n)) (scR (textN n)) = n.1 ∧ cutS (valR (textN n)) (scR (textN n)) = n.2.1 := by
        rw [e2, k3]
        show cutV (n.1 * 10) ((0 : Nat) + 1) = _ ∧ cutS (n.1 * 10) ((0 : Nat) + 1) = _
        rw [cutV_succ, cutS_succ, if_pos (.inr (tmod_mul10 _)), if_pos (.inr (tmod_mul10 _)), tdiv_mul10]
        exact ⟨rfl, z.symm⟩
      have := num_of (s := textN n) (n := n) (by rw [hdec]; exact k1) hc h
      rw [hdec] at this; exact this
    · rw [if_neg z] at hb
      have lt := List.length_take (i := D.length - n.2.1.toNat) (l := D)
      have ld := List.length_drop (i := D.length - n.2.1.toNat) (l := D)
      obtain ⟨k1, k2, k3⟩ := key (D.take (D.length - n.2.1.toNat)) (D.drop (D.length - n.2.1.toNat)) (allI_take _ hD) (by omega) true (fun _ => by rw [hb]; simp) (by simp) hdec.symm (allI_drop _ hD) (by omega) (fun _ => ⟨fun e => by rw [e] at ld; simp at ld; omega, by omega⟩) n.1.natAbs (by rw [List.take_append_drop]; exact vD)
      rw [sgn] at k2
      rw [hdec] at k1
      have e3 : scR (textN n) = ((n.2.1.toNat : Nat) : Int) := by rw [k3]; omega
      have hc : cutV (valR (textN n)) (scR (textN n)) = n.1 ∧ cutS (valR (textN n)) (scR (textN n)) = n.2.1 := by
        have c1 := cut_one n.2.1.toNat n.2.1.toNat n.1 (Nat.le_refl _) (by omega) (r5.imp (fun q => by omega) (fun q => q.2))
        rw [Nat.sub_self] at c1
        simp only [Nat.pow_zero] at c1
        rw [show n.1 * ((1 : Nat) : Int) = n.1 by omega] at c1
        unfold cutV cutS
        rw [k2, e3, Int.toNat_natCast, c1]
        exact ⟨rfl, by show ((n.2.1.toNat : Nat) : Int) = n.2.1; omega⟩
      have := num_of (s := textN n) (n := n) (by rw [hdec]; exact k1) hc h
      rw [hdec] at this; exact this
theorem form_sc {s : B} (h : formR s false = true) : scR s = 0 := by
  simp only [formR, Bool.and_eq_true, beq_iff_eq] at h
  have := head_all h.1.1.1.1
  unfold scR; rw [this.2]; rfl
theorem okR_form {s : B} {dec : Bool} (h : okR s dec = true) : formR s dec = true ∧ cutOK (valR s) (scR s) = true := by
  unfold okR at h; simpa using h
theorem num_right {s : B} {dec : Bool} (h : okR s dec = true) : rightN (numR s dec) = true := by
  obtain ⟨h1, h2⟩ := okR_form h
  exact cut_right h2 fun q => by
    rw [q] at h1
    rw [form_sc h1]; rfl
theorem num_len {s : B} {dec : Bool} (h : okR s dec = true) : (textN (numR s dec)).length ≤ s.length + 2 := by
  obtain ⟨h1, h2⟩ := okR_form h
  obtain ⟨d1, d2, d3⟩ := formR_digits h1
  obtain ⟨l1, l2, l3⟩ := cut_less (scR s).toNat (valR s)
  have vb := valF_bound (digsR s) 0 0 d1 (by decide) (by decide)
  rw [Nat.zero_add] at vb
  have hv : (valR s).natAbs < 10 ^ (digsR s).length := by
    unfold valR valN; split <;> omega
  have hn : (numR s dec).1.natAbs < 10 ^ ((digsR s).length - 1 + 1) := by
    rw [show (digsR s).length - 1 + 1 = (digsR s).length by omega]
    exact Nat.lt_of_le_of_lt l1 hv
  have dl := dec_len ((digsR s).length - 1) hn
  have dp := dec_pos (numR s dec).1.natAbs
  have lD := padT_len (decDigits (numR s dec).1.natAbs) ((numR s dec).2.1.toNat + 1)
  have hs0 := scR_le h1
  have hsc : (numR s dec).2.1.toNat ≤ (scR s).toNat := by show (cutS (valR s) (scR s)).toNat ≤ _; unfold cutS; omega
  have htl : (scR s).toNat ≤ (digsR s).length := by unfold scR digsR; rw [List.length_append]; omega
  have hbody : (bodyR s).length + (if negR s = true then 1 else 0) ≤ s.length := by
    rw [bodyR_eq]
    unfold negR
    by_cases q : s.head? = some 45
    · rw [if_pos (.inl q), decide_eq_true q, if_pos rfl]
      cases s with
      | nil => simp at q
      | cons b r => simp
    · rw [decide_eq_false q]
      simp only [Bool.false_eq_true, if_false, Nat.add_zero]
      split
      · rw [List.length_drop]; omega
      · exact Nat.le_refl _
  have hdg : (digsR s).length + (if dec = true then 1 else 0) ≤ (bodyR s).length := by
    simp only [formR, Bool.and_eq_true, beq_iff_eq] at h1
    have hh := h1.1.1.1.1
    unfold digsR
    rw [List.length_append]
    rcases cutD (bodyR s) with ⟨c1, c2, c3, c4, c5⟩ | ⟨c1, c2, c4, c5⟩
    · rw [c4, c5, List.length_take, List.length_drop]; split <;> omega
    · rw [c1] at hh
      rw [c4, c5, ← hh]; simp
  have hsg : (signN (numR s dec).1).length ≤ if negR s = true then 1 else 0 := by
    unfold signN
    split
    · rename_i q
      have : negR s = true := by
        by_cases z : negR s = true
        · exact z
        · exfalso
          have hv0 : 0 ≤ valR s := by unfold valR; rw [if_neg z]; exact vb.1
          have := l3 hv0
          have q : cutV (valR s) (scR s) < 0 := q
          unfold cutV at q; omega
      rw [this]; simp
    · simp
  have htx : (bodyN (numR s dec)).length ≤ (digsR s).length + (if dec = true then 2 else 0) := by
    have hb : bodyN (numR s dec) = if dec then (padT (decDigits (numR s dec).1.natAbs) ((numR s dec).2.1.toNat + 1)).take ((padT (decDigits (numR s dec).1.natAbs) ((numR s dec).2.1.toNat + 1)).length - (numR s dec).2.1.toNat) ++ [46] ++ (if (numR s dec).2.1 = 0 then [48] else (padT (decDigits (numR s dec).1.natAbs) ((numR s dec).2.1.toNat + 1)).drop ((padT (decDigits (numR s dec).1.natAbs) ((numR s dec).2.1.toNat + 1)).length - (numR s dec).2.1.toNat)) else decDigits (numR s dec).1.natAbs := rfl
    rw [hb]
    cases dec with
    | false => simp; omega
    | true =>
      rw [if_pos rfl, if_pos rfl]
      generalize padT (decDigits (numR s true).1.natAbs) ((numR s true).2.1.toNat + 1) = D at *
      rw [List.length_append, List.length_append, List.length_take]
      split
      · rename_i z
        rw [z] at lD
        simp at lD ⊢; omega
      · rw [List.length_drop]; simp; omega
  unfold textN
  rw [List.length_append]
  split at hsg <;> rename_i q
  · rw [if_pos q] at hbody
    cases dec <;> simp at htx hdg <;> omega
  · rw [if_neg q] at hbody
    cases dec <;> simp at htx hdg <;> omega
end Go.Proofs.YtfafmpiajlgojaaDoor.Sp
