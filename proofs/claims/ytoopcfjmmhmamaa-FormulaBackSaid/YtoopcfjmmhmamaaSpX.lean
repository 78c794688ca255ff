/- Chapter 6: what is parsed of a formula's words is the formula. -/
import Derived.Test.YtoopcfjmmhmamaaSpN
section
namespace Go.Proofs.Ytoopcfjmmhmamaa.Sp
open Go.Proofs.Ytoopcfjmmhmamaa.Lg
def eqw (t e : Tok) : Prop := t.1 = e.1 ∧ t.2.1 = e.2.1 ∧ t.2.2.1 = e.2.2.1 ∧ t.2.2.2.1 = e.2.2.2.1 ∧ t.2.2.2.2.1 = e.2.2.2.2.1 ∧ t.2.2.2.2.2.1 = e.2.2.2.2.2.1
/-- Some words stand at a place. -/
def AtW (L : List Tok) : Nat → List Tok → Prop
  | a, [] => a ≤ L.length
  | a, e :: E => a < L.length ∧ eqw (getR tkS L (a : Int)) e ∧ AtW L (a + 1) E
theorem AtW_append {L : List Tok} : ∀ (E F : List Tok) (a : Nat), AtW L a (E ++ F) → AtW L a E ∧ AtW L (a + E.length) F
  | [], F, a, h => by
    refine ⟨?_, h⟩
    cases F with
    | nil => exact h
    | cons _ _ => exact Nat.le_of_lt h.1
  | e :: E, F, a, h => by
    obtain ⟨h1, h2, h3⟩ := h
    obtain ⟨q1, q2⟩ := AtW_append E F (a + 1) h3
    refine ⟨⟨h1, h2, q1⟩, ?_⟩
    rw [List.length_cons, show a + (E.length + 1) = a + 1 + E.length by omega]; exact q2
theorem AtW_le {L : List Tok} : ∀ (E : List Tok) (a : Nat), AtW L a E → a + E.length ≤ L.length
  | [], a, h => h
  | e :: E, a, h => by have := AtW_le E (a + 1) h.2.2; simp only [List.length_cons]; omega
def st (L : List Tok) (a : Nat) (out : List Pt) : PSt := (L, (a : Int), out, false, ())
theorem st_in {L : List Tok} {a : Nat} {out : List Pt} (h : a ≤ L.length) : inP (st L a out) := ⟨Int.natCast_nonneg a, by show (a : Int) ≤ (L.length : Int); omega⟩
theorem st_adv (L : List Tok) (a : Nat) (out : List Pt) : adv (st L a out) = st L (a + 1) out := rfl
theorem st_add (L : List Tok) (a : Nat) (out : List Pt) (x : Pt) : addP (st L a out) x = st L a (out ++ [x]) := rfl
theorem isP_at {L : List Tok} {a : Nat} {out : List Pt} {e : Tok} {E : List Tok} (h : AtW L a (e :: E)) (k : Int) (t : B) : isP (st L a out) k t = (decide (e.1 = k) && decide (e.2.1 = t)) := by
  obtain ⟨h1, h2, _⟩ := h
  have q1 : (tokI (st L a out)).1 = e.1 := h2.1
  have q2 : (tokI (st L a out)).2.1 = e.2.1 := h2.2.1
  have q0 : (st L a out).2.1 < ((st L a out).1.length : Int) := by show (a : Int) < (L.length : Int); omega
  simp only [isP, q0, q1, q2, decide_true, Bool.true_and]
theorem isP_end {L : List Tok} {out : List Pt} (k : Int) (t : B) : isP (st L L.length out) k t = false := isP_0 (by show ¬ (L.length : Int) < (L.length : Int); omega)
def sg (s : B) : Tok := (5, s, 0, [], [], [], 0, ())
def wd (s : B) : Tok := (1, s, 0, [], [], [], 0, ())
def vr (s : B) : Tok := (2, s, 0, [], [], [], 0, ())
def tm (k : Int) (a t l : B) : Tok := (3, [], k, a, t, l, 0, ())
/-! ### The parser's equations -/
theorem pf_big {n : Int} {p q : PSt} {N : Nat} (h0 : 0 ≤ n) (h6 : n ≤ 6) (hp : inP q) (e : q.1 = p.1) (hN : fuelP p ≤ N) : pf N n q = some (pfW n q) := by
  have : fuelP q = fuelP p := by simp only [fuelP, e]
  exact pf_mono (by rw [this]; exact hN) n _ _ (pfW_some h0 h6 hp)
theorem pfW_5 {p : PSt} (hp : inP p) : pfW 5 p = pfW 6 p := by
  have h := pf_big (n := 5) (p := p) (by decide) (by decide) hp rfl (Nat.le_succ (fuelP p))
  rw [pf, if_neg (by decide), if_pos rfl, pf_big (n := 6) (p := p) (by decide) (by decide) hp rfl (Nat.le_refl _)] at h
  exact (Option.some.inj h).symm
theorem pfW_chain {n : Int} {p : PSt} (h0 : 0 ≤ n) (h4 : n ≤ 4) (hp : inP p) : chainP (pf (fuelP p) (n + 1)) n (pfW (n + 1) p) = some (pfW n p) := by
  have h := pf_big (n := n) (p := p) h0 (by omega) hp rfl (Nat.le_succ (fuelP p))
  rw [pf, if_neg (by omega), if_neg (by omega), pf_big (n := n + 1) (p := p) (by omega) (by omega) hp rfl (Nat.le_refl _)] at h
  exact h
theorem lev_stop {n : Int} {p q : PSt} (h0 : 0 ≤ n) (h4 : n ≤ 4) (hp : inP p) (e : pfW (n + 1) p = q) (hq : inP q) (hb : q.2.2.2.1 = false) (hf : findK q (signL n) = 0) : pfW n p = q := by
  have h := pfW_chain h0 h4 hp
  rw [e, chainP_step (pf_stp _ _) n hq, if_neg (by simp [hb]), if_pos hf] at h
  exact (Option.some.inj h).symm
theorem lev_take {n k : Int} {p q r : PSt} (h0 : 0 ≤ n) (h4 : n ≤ 4) (hp : inP p) (e : pfW (n + 1) p = q) (hq : inP q) (hq1 : q.1 = p.1) (hb : q.2.2.2.1 = false) (hf : findK q (signL n) = k) (hk : k ≠ 0)
    (e2 : pfW (n + 1) (adv q) = r) (hr : inP r) (hb2 : r.2.2.2.1 = false) (hs : findK (addP r (kindP k)) (signL n) = 0) : pfW n p = addP r (kindP k) := by
  have h := pfW_chain h0 h4 hp
  have lt := findK_ne (p := q) (l := signL n) (by rw [hf]; exact hk)
  have ha := stp_in (stp_adv hq lt)
  rw [e, chainP_step (pf_stp _ _) n hq, if_neg (by simp [hb]), if_neg (by rw [hf]; exact hk), pf_big (n := n + 1) (p := p) (by omega) (by omega) ha hq1 (Nat.le_refl _), e2, Option.bind_some, hf] at h
  split at h
  · exact (Option.some.inj h).symm
  · have hi : inP (addP r (kindP k)) := stp_in (stp_add _ hr)
    rw [chainP_step (pf_stp _ _) n hi, if_neg (by show ¬ r.2.2.2.1 = true; simp [hb2]), if_pos hs] at h
    exact (Option.some.inj h).symm
theorem pfW_not {p : PSt} (hp : inP p) (w : isP p 5 [33] = true) : pfW 6 p = addP (pfW 6 (adv p)) (kindP 4) := by
  have h := pf_big (n := 6) (p := p) (by decide) (by decide) hp rfl (Nat.le_succ (fuelP p))
  rw [pf, if_pos rfl, if_pos w, pf_big (n := 6) (p := p) (q := adv p) (by decide) (by decide) (stp_in (stp_adv hp (isP_lt w))) rfl (Nat.le_refl _)] at h
  exact (Option.some.inj h).symm
theorem pfW_neg {p : PSt} (hp : inP p) (w0 : isP p 5 [33] = false) (w : isP p 5 [45] = true) : pfW 6 p = addP (pfW 6 (adv p)) (kindP 5) := by
  have h := pf_big (n := 6) (p := p) (by decide) (by decide) hp rfl (Nat.le_succ (fuelP p))
  rw [pf, if_pos rfl, if_neg (by simp [w0]), if_pos w, pf_big (n := 6) (p := p) (q := adv p) (by decide) (by decide) (stp_in (stp_adv hp (isP_lt w))) rfl (Nat.le_refl _)] at h
  exact (Option.some.inj h).symm
theorem pfW_simple {p : PSt} (hp : inP p) (w0 : isP p 5 [33] = false) (w : isP p 5 [45] = false) : simpleP (pf (fuelP p) 0) p = some (pfW 6 p) := by
  have h := pf_big (n := 6) (p := p) (by decide) (by decide) hp rfl (Nat.le_succ (fuelP p))
  rw [pf, if_pos rfl, if_neg (by simp [w0]), if_neg (by simp [w])] at h
  exact h
/-- What is read as one operand, whatever stands behind it. -/
def Prim (E : List Tok) (P : List Pt) : Prop := ∀ (L : List Tok) (a : Nat) (out : List Pt), AtW L a E → pfW 6 (st L a out) = st L (a + E.length) (out ++ P)
def noOp (L : List Tok) (b : Nat) : Prop := ∀ (out : List Pt) (n : Int), findK (st L b out) (signL n) = 0
theorem findK_all {p : PSt} {l : List Int} (h : ∀ k ∈ l, isP p 5 (signT k) = false) : findK p l = 0 := by
  have : (l.find? fun k => isP p 5 (signT k)) = none := by
    rw [List.find?_eq_none]
    intro k hk; simp [h k hk]
  simp [findK, this]
theorem noOp_end (L : List Tok) : noOp L L.length := fun _ _ => findK_all fun k _ => isP_end 5 (signT k)
theorem sign_ne {k : Int} (h : 6 ≤ k ∧ k ≤ 17) : ¬ [41] = signT k ∧ ¬ [44] = signT k ∧ ¬ [40] = signT k := by
  obtain ⟨n, rfl⟩ := Int.eq_ofNat_of_zero_le (show 0 ≤ k by omega)
  have key : ∀ n : Fin 18, 6 ≤ n.1 → ¬ ([41] : B) = signT (n.1 : Int) ∧ ¬ ([44] : B) = signT (n.1 : Int) ∧ ¬ ([40] : B) = signT (n.1 : Int) := by decide +kernel
  exact key ⟨n, by omega⟩ (by show 6 ≤ n; omega)
theorem noOp_sg {L : List Tok} {b : Nat} {s : B} {E : List Tok} (h : AtW L b (sg s :: E)) (hs : s = [41] ∨ s = [44]) : noOp L b := by
  intro out n
  refine findK_all fun k hk => ?_
  have hk := kindIn hk
  rw [isP_at h]
  have e : ¬ s = signT k := by
    rcases hs with rfl | rfl
    · exact (sign_ne hk).1
    · exact (sign_ne hk).2.1
  simp [sg, e]
theorem lev_prim {E : List Tok} {P : List Pt} (h : Prim E P) {L : List Tok} {a : Nat} (out : List Pt) (ha : AtW L a E) (hn : noOp L (a + E.length)) : ∀ (d : Nat) (n : Int), n + d = 5 → 0 ≤ n → pfW n (st L a out) = st L (a + E.length) (out ++ P)
  | 0, n, e, _ => by
    have hle := AtW_le E a ha
    have e : n = 5 := by omega
    subst e
    rw [pfW_5 (st_in (by omega))]; exact h L a out ha
  | d + 1, n, e, h0 => by
    have hle := AtW_le E a ha
    exact lev_stop h0 (by omega) (st_in (by omega)) (lev_prim h out ha hn d (n + 1) (by omega) (by omega)) (st_in hle) rfl (hn _ n)
end Go.Proofs.Ytoopcfjmmhmamaa.Sp
end

section
namespace Go.Proofs.Ytoopcfjmmhmamaa.Sp
open Go.Proofs.Ytoopcfjmmhmamaa.Lg
theorem st_simple {L : List Tok} {a : Nat} {out : List Pt} {e : Tok} {E : List Tok} (h : AtW L a (e :: E)) (w0 : (decide (e.1 = 5) && decide (e.2.1 = [33])) = false) (w : (decide (e.1 = 5) && decide (e.2.1 = [45])) = false) :
    simpleP (pf (fuelP (st L a out)) 0) (st L a out) = some (pfW 6 (st L a out)) :=
  pfW_simple (st_in (Nat.le_of_lt h.1)) (by rw [isP_at h]; exact w0) (by rw [isP_at h]; exact w)
theorem st_ok {L : List Tok} {a : Nat} {out : List Pt} {e : Tok} {E : List Tok} (h : AtW L a (e :: E)) : ¬ ((st L a out).2.2.2.1 = true ∨ (st L a out).2.1 = ((st L a out).1.length : Int)) := by
  have := h.1
  rintro (z | z)
  · cases z
  · have z : (a : Int) = (L.length : Int) := z
    omega
theorem st_lev {L : List Tok} {a b : Nat} {out out' : List Pt} (hb : b ≤ L.length) : pf (fuelP (st L a out)) 0 (st L b out') = some (pfW 0 (st L b out')) :=
  pf_big (p := st L a out) (by decide) (by decide) (st_in hb) rfl (Nat.le_refl _)
theorem must_at {L : List Tok} {a : Nat} {out : List Pt} {s : B} {E : List Tok} (h : AtW L a (sg s :: E)) : mustP (st L a out) s = st L (a + 1) out := by
  have w : isP (st L a out) 5 s = true := by rw [isP_at h]; simp [sg]
  rw [mustP_t rfl w]; rfl
theorem prim_term (k : Int) (a t l : B) : Prim [tm k a t l] [(1, k, a, t, l, [], 0, ())] := by
  intro L i out h
  have hs := st_simple (out := out) h (by simp [tm]) (by simp [tm])
  obtain ⟨q1, q2, q3, q4, q5, q6⟩ := h.2.1
  have e1 : (tokI (st L i out)).1 = 3 := q1
  have e3 : (tokI (st L i out)).2.2.1 = k := q3
  have e4 : (tokI (st L i out)).2.2.2.1 = a := q4
  have e5 : (tokI (st L i out)).2.2.2.2.1 = t := q5
  have e6 : (tokI (st L i out)).2.2.2.2.2.1 = l := q6
  rw [simpleP, if_neg (st_ok h), if_neg (by rw [e1]; rintro ⟨z, _⟩; cases z), if_neg (by rw [e1]; decide), if_pos e1, e3, e4, e5, e6] at hs
  exact (Option.some.inj hs).symm
theorem prim_var (s : B) : Prim [vr s] [(2, 0, [], [], [], s, 0, ())] := by
  intro L i out h
  have hs := st_simple (out := out) h (by simp [vr]) (by simp [vr])
  obtain ⟨q1, q2, _⟩ := h.2.1
  have e1 : (tokI (st L i out)).1 = 2 := q1
  have e2 : (tokI (st L i out)).2.1 = s := q2
  rw [simpleP, if_neg (st_ok h), if_neg (by rw [e1]; rintro ⟨z, _⟩; cases z), if_pos e1, e2] at hs
  exact (Option.some.inj hs).symm
theorem st_word {L : List Tok} {a : Nat} {out : List Pt} {s : B} {E : List Tok} (h : AtW L a (wd s :: E)) : wordP (pf (fuelP (st L a out)) 0) s (st L (a + 1) out) = some (pfW 6 (st L a out)) := by
  have hs := st_simple (out := out) h (by simp [wd]) (by simp [wd])
  obtain ⟨q1, q2, _⟩ := h.2.1
  have e1 : (tokI (st L a out)).1 = 1 := q1
  have e2 : (tokI (st L a out)).2.1 = s := q2
  rw [simpleP, if_neg (st_ok h), if_neg (by rw [e1]; rintro ⟨z, _⟩; cases z), if_neg (by rw [e1]; decide), if_neg (by rw [e1]; decide), if_neg (by rw [e1]; decide), if_pos e1, e2] at hs
  exact hs
def boundW : B := [66, 79, 85, 78, 68]
theorem prim_bound (s : B) : Prim [wd boundW, sg [40], vr s, sg [41]] [(3, 0, [], [], [], s, 0, ())] := by
  intro L i out h
  have hs := st_word (out := out) h
  rw [wordP, if_neg (by decide), if_neg (by decide), if_pos (show boundW = [66, 79, 85, 78, 68] from rfl)] at hs
  rw [← Option.some.inj hs]
  have h1 := h.2.2
  have h2 := h1.2.2
  have h3 := h2.2.2
  have m1 : mustP (st L (i + 1) out) [40] = st L (i + 1 + 1) out := must_at h1
  obtain ⟨q1, q2, _⟩ := h2.2.1
  have e1 : (tokI (st L (i + 1 + 1) out)).1 = 2 := q1
  have e2 : (tokI (st L (i + 1 + 1) out)).2.1 = s := q2
  have lt : (st L (i + 1 + 1) out).2.1 < ((st L (i + 1 + 1) out).1.length : Int) := by have := h2.1; show ((i + 1 + 1 : Nat) : Int) < (L.length : Int); omega
  rw [boundP, m1, if_pos ⟨lt, e1⟩, e2]
  exact must_at h3
theorem prim_not {k : Int} (hk : k = 4 ∨ k = 5) {E : List Tok} {P : List Pt} (h : Prim E P) : Prim (sg (signT k) :: E) (P ++ [kindP k]) := by
  intro L i out ha
  have hin := st_in (out := out) (Nat.le_of_lt ha.1)
  have e : pfW 6 (st L i out) = addP (pfW 6 (st L (i + 1) out)) (kindP k) := by
    rcases hk with rfl | rfl
    · exact pfW_not hin (by rw [isP_at ha]; rfl)
    · exact pfW_neg hin (by rw [isP_at ha]; rfl) (by rw [isP_at ha]; rfl)
  rw [e, h L (i + 1) out ha.2.2, st_add, List.append_assoc, List.length_cons, show i + (E.length + 1) = i + 1 + E.length by omega]
/-- How close a sign binds. -/
def lvK (k : Int) : Int := if k = 7 then 0 else if k = 6 then 1 else if k ≤ 13 then 2 else if k ≤ 15 then 3 else 4
def fk (n k : Int) : Int := ((signL n).find? fun j => decide (signT k = signT j)).getD 0
theorem fk_all : ∀ (n : Fin 5) (k : Fin 18), 6 ≤ k.1 → fk (n.1 : Int) (k.1 : Int) = if (n.1 : Int) = lvK (k.1 : Int) then (k.1 : Int) else 0 := by decide +kernel
theorem fk_eq {n k : Int} (h0 : 0 ≤ n) (h4 : n ≤ 4) (hk : 6 ≤ k ∧ k ≤ 17) : fk n k = if n = lvK k then k else 0 := by
  obtain ⟨m, rfl⟩ := Int.eq_ofNat_of_zero_le h0
  obtain ⟨j, rfl⟩ := Int.eq_ofNat_of_zero_le (show 0 ≤ k by omega)
  exact fk_all ⟨m, by omega⟩ ⟨j, by omega⟩ (by show 6 ≤ j; omega)
theorem findK_op {L : List Tok} {c : Nat} {out : List Pt} {k n : Int} {E : List Tok} (h : AtW L c (sg (signT k) :: E)) : findK (st L c out) (signL n) = fk n k := by
  have : (fun j => isP (st L c out) 5 (signT j)) = fun j => decide (signT k = signT j) := by
    funext j
    rw [isP_at h, Bool.eq_iff_iff]
    simp only [sg, decide_true, Bool.true_and]
    exact ⟨fun z => decide_eq_true (of_decide_eq_true z), fun z => decide_eq_true (of_decide_eq_true z)⟩
  simp only [findK, fk, this]
theorem lvK_in {k : Int} : 0 ≤ lvK k ∧ lvK k ≤ 4 := by
  unfold lvK; repeat' split
  all_goals omega
section
variable {A C : List Tok} {P Q : List Pt} {k : Int} {L : List Tok} {a : Nat} {out : List Pt}
theorem bin_hi (hA : Prim A P) (hk : 6 ≤ k ∧ k ≤ 17) (h : AtW L a (A ++ sg (signT k) :: (C ++ [sg [41]]))) : ∀ (d : Nat) (n : Int), n + d = 5 → lvK k < n → pfW n (st L a out) = st L (a + A.length) (out ++ P)
  | 0, n, e, _ => by
    obtain ⟨h1, h2⟩ := AtW_append _ _ _ h
    have hle := AtW_le A a h1
    have e : n = 5 := by omega
    subst e
    rw [pfW_5 (st_in (by omega))]; exact hA L a out h1
  | d + 1, n, e, hl => by
    obtain ⟨h1, h2⟩ := AtW_append _ _ _ h
    have hle := AtW_le A a h1
    have h0 := (lvK_in (k := k)).1
    refine lev_stop (by omega) (by omega) (st_in (by omega)) (bin_hi hA hk h d (n + 1) (by omega) (by omega)) (st_in hle) rfl ?_
    rw [findK_op h2, fk_eq (by omega) (by omega) hk, if_neg (by omega)]
theorem bin_lo (hA : Prim A P) (hC : Prim C Q) (hk : 6 ≤ k ∧ k ≤ 17) (h : AtW L a (A ++ sg (signT k) :: (C ++ [sg [41]]))) : ∀ (d : Nat) (n : Int), n + d = lvK k → 0 ≤ n → pfW n (st L a out) = st L (a + A.length + 1 + C.length) (out ++ P ++ Q ++ [kindP k])
  | 0, n, e, h0 => by
    have e : n = lvK k := by omega
    obtain ⟨h1, h2⟩ := AtW_append _ _ _ h
    obtain ⟨h3, h4⟩ := AtW_append _ _ _ h2.2.2
    have hle := AtW_le A a h1
    have hle2 := AtW_le C _ h3
    have h5 := (lvK_in (k := k)).2
    have hhi := bin_hi (out := out) hA hk h (4 - n).toNat (n + 1) (by omega) (by omega)
    have hno : noOp L (a + A.length + 1 + C.length) := noOp_sg h4 (.inl rfl)
    have hb := lev_prim hC (out ++ P) h3 hno (4 - n).toNat (n + 1) (by omega) (by omega)
    have := lev_take (n := n) (k := k) (p := st L a out) (q := st L (a + A.length) (out ++ P)) (r := st L (a + A.length + 1 + C.length) (out ++ P ++ Q)) h0 (by omega) (st_in (by omega)) hhi (st_in hle) rfl rfl
      (by rw [findK_op h2, fk_eq h0 (by omega) hk, if_pos e]) (by omega) hb (st_in hle2) rfl (hno _ n)
    exact this
  | d + 1, n, e, h0 => by
    obtain ⟨h1, h2⟩ := AtW_append _ _ _ h
    obtain ⟨h3, h4⟩ := AtW_append _ _ _ h2.2.2
    have hle := AtW_le A a h1
    have hle2 := AtW_le C _ h3
    have h5 := (lvK_in (k := k)).2
    have hno : noOp L (a + A.length + 1 + C.length) := noOp_sg h4 (.inl rfl)
    exact lev_stop h0 (by omega) (st_in (by omega)) (bin_lo hA hC hk h d (n + 1) (by omega) (by omega)) (st_in hle2) rfl (hno _ n)
end
theorem prim_bin {A C : List Tok} {P Q : List Pt} {k : Int} (hA : Prim A P) (hC : Prim C Q) (hk : 6 ≤ k ∧ k ≤ 17) : Prim (sg [40] :: (A ++ sg (signT k) :: (C ++ [sg [41]]))) (P ++ Q ++ [kindP k]) := by
  intro L i out h
  have hs := st_simple (out := out) h (by simp [sg]) (by simp [sg])
  obtain ⟨q1, q2, _⟩ := h.2.1
  have e1 : (tokI (st L i out)).1 = 5 := q1
  have e2 : (tokI (st L i out)).2.1 = [40] := q2
  rw [simpleP, if_neg (st_ok h), if_pos ⟨e1, e2⟩, st_adv, st_lev h.1] at hs
  obtain ⟨h1, h2⟩ := AtW_append _ _ _ h.2.2
  obtain ⟨h3, h4⟩ := AtW_append _ _ _ h2.2.2
  have h0 := lvK_in (k := k)
  rw [bin_lo (out := out) hA hC hk h.2.2 (lvK k).toNat 0 (by omega) (by decide), Option.map_some] at hs
  rw [← Option.some.inj hs]
  have := must_at (out := out ++ P ++ Q ++ [kindP k]) h4
  rw [this]
  simp only [List.length_cons, List.length_append, List.length_nil, List.append_assoc]
  congr 1
  omega
/-! ### Functions -/
abbrev El := List Tok × List Pt
def moreW : List El → List Tok
  | [] => []
  | e :: es => sg [44] :: (e.1 ++ moreW es)
def argsW : List El → List Tok
  | [] => []
  | e :: es => e.1 ++ moreW es
def allP : List El → List Pt
  | [] => []
  | e :: es => e.2 ++ allP es
theorem lev0 {E : List Tok} {P : List Pt} (h : Prim E P) {L : List Tok} {a : Nat} (out : List Pt) (ha : AtW L a E) (hn : noOp L (a + E.length)) : pfW 0 (st L a out) = st L (a + E.length) (out ++ P) := lev_prim h out ha hn 5 0 (by decide) (by decide)
theorem next_noOp {L : List Tok} {b : Nat} {es : List El} (h : AtW L b (moreW es ++ [sg [41]])) : noOp L b := by
  cases es with
  | nil => exact noOp_sg h (.inl rfl)
  | cons e es => exact noOp_sg h (.inr rfl)
theorem args_more {L : List Tok} {lev : PSt → Option PSt} (hl : levOK lev) (he : ∀ b out, b ≤ L.length → lev (st L b out) = some (pfW 0 (st L b out))) : ∀ (es : List El) (n : Int) (a : Nat) (out : List Pt), (∀ e ∈ es, Prim e.1 e.2) → 1 ≤ n → AtW L a (moreW es ++ [sg [41]]) →
    argsP lev n (st L a out) = some (n + es.length, st L (a + (moreW es).length) (out ++ allP es))
  | [], n, a, out, _, hn, h => by
    have h : AtW L a [sg [41]] := h
    rw [argsP_step hl (by omega) (st_in (Nat.le_of_lt h.1)), if_neg (by show ¬ false = true; decide), if_neg (by omega), if_neg (by rw [isP_at h]; decide)]
    simp [moreW, allP]
  | e :: es, n, a, out, hp, hn, h => by
    have h : AtW L a (sg [44] :: (e.1 ++ moreW es ++ [sg [41]])) := h
    have w : isP (st L a out) 5 [44] = true := by rw [isP_at h]; rfl
    rw [argsP_step hl (by omega) (st_in (Nat.le_of_lt h.1)), if_neg (by show ¬ false = true; decide), if_neg (by omega), if_pos w, st_adv, he _ _ h.1]
    have h1 := h.2.2
    rw [List.append_assoc] at h1
    obtain ⟨h2, h3⟩ := AtW_append _ _ _ h1
    rw [lev0 (hp e List.mem_cons_self) out h2 (next_noOp h3), Option.bind_some, args_more hl he es (n + 1) _ _ (fun x hx => hp x (List.mem_cons_of_mem _ hx)) (by omega) h3]
    simp only [moreW, allP, List.length_cons, List.length_append, List.append_assoc]
    congr 2
    · omega
    · congr 1; omega
theorem wordK_sign : ∀ k : Fin 27, 18 ≤ k.1 → wordK (signT (k.1 : Int)) = (k.1 : Int) ∧ ¬ signT (k.1 : Int) = [84, 82, 85, 69] ∧ ¬ signT (k.1 : Int) = [70, 65, 76, 83, 69] ∧ ¬ signT (k.1 : Int) = [66, 79, 85, 78, 68] := by decide +kernel
theorem prim_call {k : Int} (hk : 18 ≤ k ∧ k ≤ 26) {e : El} {es : List El} (hp : ∀ x ∈ e :: es, Prim x.1 x.2) (hn : needsS (callX k (es.length + 1)) = es.length + 1) : Prim (wd (signT k) :: sg [40] :: (argsW (e :: es) ++ [sg [41]])) (allP (e :: es) ++ [callX k (es.length + 1)]) := by
  intro L i out h
  have hs := st_word (out := out) h
  obtain ⟨m, rfl⟩ := Int.eq_ofNat_of_zero_le (show 0 ≤ k by omega)
  obtain ⟨w1, w2, w3, w4⟩ := wordK_sign ⟨m, by omega⟩ (by show 18 ≤ m; omega)
  simp only at w1 w2 w3 w4
  rw [wordP, if_neg w2, if_neg w3, if_neg w4, w1, if_neg (by omega), callP] at hs
  have h1 := h.2.2
  have h2 := h1.2.2
  have m1 : mustP (st L (i + 1) out) [40] = st L (i + 1 + 1) out := must_at h1
  simp only [argsW, List.append_assoc] at h2
  obtain ⟨h3, h4⟩ := AtW_append _ _ _ h2
  have hl := pf_stp (fuelP (st L i out)) 0
  have he : ∀ b out', b ≤ L.length → pf (fuelP (st L i out)) 0 (st L b out') = some (pfW 0 (st L b out')) := fun b out' hb => st_lev hb
  have hle := AtW_le _ _ h3
  obtain ⟨h5, h6⟩ := AtW_append _ _ _ h4
  rw [m1, argsP_step hl (Int.le_refl 0) (st_in (by omega)), if_neg (by show ¬ false = true; decide), if_pos rfl, he _ _ (by omega), lev0 (hp e List.mem_cons_self) out h3 (next_noOp h4), Option.bind_some,
    args_more hl he es (0 + 1) _ _ (fun x hx => hp x (List.mem_cons_of_mem _ hx)) (by decide) h4, Option.map_some] at hs
  have en : (0 : Int) + 1 + (es.length : Int) = (es.length : Int) + 1 := by omega
  simp only [en] at hs
  rw [must_at h6, hn] at hs
  rw [← Option.some.inj hs]
  have eb : badIf (decide ((es.length : Int) + 1 ≠ (es.length : Int) + 1)) (st L (i + 1 + 1 + e.1.length + (moreW es).length + 1) (out ++ e.2 ++ allP es)) = st L (i + 1 + 1 + e.1.length + (moreW es).length + 1) (out ++ e.2 ++ allP es) := by
    simp [badIf, st]
  rw [eb, st_add]
  simp only [argsW, allP, List.length_cons, List.length_append, List.length_nil, List.append_assoc]
  congr 1
  omega
end Go.Proofs.Ytoopcfjmmhmamaa.Sp
end

section
namespace Go.Proofs.Ytoopcfjmmhmamaa.Sp
open Go.Proofs.Ytoopcfjmmhmamaa.Lg
theorem joinF_app : ∀ a b : List Tok, joinF (a ++ b) = joinF a ++ joinF b
  | [], b => rfl
  | t :: a, b => by simp [joinF, joinF_app a b]
theorem joinF_S {l : List Tok} (h : l ≠ []) : joinF l = 32 :: joinS l := by
  cases l with
  | nil => exact absurd rfl h
  | cons t l => rfl
theorem joinS_cons (t : Tok) (l : List Tok) : joinS (t :: l) = wtext t ++ joinF l := rfl
theorem joinF_cons' (t : Tok) (l : List Tok) : joinF (t :: l) = 32 :: (wtext t ++ joinF l) := rfl
theorem joinS_app {a : List Tok} (b : List Tok) (h : a ≠ []) : joinS (a ++ b) = joinS a ++ joinF b := by
  cases a with
  | nil => exact absurd rfl h
  | cons t a => simp [joinS, joinF_app]
theorem wtext_sg (s : B) : wtext (sg s) = s := rfl
theorem wtext_wd (s : B) : wtext (wd s) = s := rfl
theorem wtext_vr (s : B) : wtext (vr s) = 63 :: s := rfl
def Good (e : El) : Prop := Prim e.1 e.2 ∧ e.1 ≠ [] ∧ ∀ t ∈ e.1, goodW t
def txE (e : El) : RowE [.str] := (joinS e.1, ())
def nthE (es : List El) (n : Nat) : El := (es[n]?).getD ([], [])
def tokS (p : Pt) (es : List El) : List Tok :=
  if p.1 = 1 then [tm p.2.1 p.2.2.1 p.2.2.2.1 p.2.2.2.2.1]
  else if p.1 = 2 then [vr p.2.2.2.2.2.1]
  else if p.1 = 3 then [wd boundW, sg [40], vr p.2.2.2.2.2.1, sg [41]]
  else if p.1 = 4 ∨ p.1 = 5 then sg (signT p.1) :: (nthE es 0).1
  else if p.1 ≤ 17 then sg [40] :: ((nthE es 0).1 ++ sg (signT p.1) :: ((nthE es 1).1 ++ [sg [41]]))
  else wd (signT p.1) :: sg [40] :: (argsW es ++ [sg [41]])
def elS (p : Pt) (es : List El) : El := (tokS p es, allP es ++ [p])
def sgB (a : B) : Bool := (two a && Nat.beq a.length 2) || (match a with | [b] => sign1 b | _ => false)
theorem good_sg {a : B} (h : sgB a = true) : goodW (sg a) := by
  refine goodW_sign ?_
  simp only [sgB, Bool.or_eq_true, Bool.and_eq_true] at h
  rcases h with ⟨h1, h2⟩ | h
  · exact .inl ⟨h1, Nat.eq_of_beq_eq_true h2⟩
  · split at h
    · rename_i b; exact .inr ⟨b, rfl, h⟩
    · cases h
theorem signs_good : ∀ k : Fin 18, 4 ≤ k.1 → sgB (signT (k.1 : Int)) = true := by decide +kernel
theorem words_good : ∀ k : Fin 27, 18 ≤ k.1 → many letterI (signT (k.1 : Int)) = (signT (k.1 : Int)).length ∧ 0 < (signT (k.1 : Int)).length ∧ (signT (k.1 : Int)).length ≤ 4096 := by decide +kernel
theorem good_sign {k : Int} (h : 4 ≤ k ∧ k ≤ 17) : goodW (sg (signT k)) := by
  obtain ⟨n, rfl⟩ := Int.eq_ofNat_of_zero_le (show 0 ≤ k by omega)
  exact good_sg (signs_good ⟨n, by omega⟩ (by show 4 ≤ n; omega))
theorem good_wd {k : Int} (h : 18 ≤ k ∧ k ≤ 26) : goodW (wd (signT k)) := by
  obtain ⟨n, rfl⟩ := Int.eq_ofNat_of_zero_le (show 0 ≤ k by omega)
  obtain ⟨h1, h2, h3⟩ := words_good ⟨n, by omega⟩ (by show 18 ≤ n; omega)
  exact goodW_letters h1 h2 h3
theorem good_po : goodW (sg [40]) := good_sg (by decide +kernel)
theorem good_pc : goodW (sg [41]) := good_sg (by decide +kernel)
theorem good_cm : goodW (sg [44]) := good_sg (by decide +kernel)
theorem good_bound : goodW (wd boundW) := goodW_letters (by decide +kernel) (by decide) (by decide)
theorem moreW_text : ∀ es : List El, (∀ e ∈ es, Good e) → joinF (moreW es) = joinC (es.map txE)
  | [], _ => rfl
  | e :: es, h => by
    have h1 := (h e List.mem_cons_self).2.1
    have ih := moreW_text es fun x hx => h x (List.mem_cons_of_mem _ hx)
    simp only [moreW, joinF_cons', wtext_sg, joinF_app, joinF_S h1, ih, List.map_cons, joinC, txE]
    simp
theorem argsW_text {es : List El} (h : ∀ e ∈ es, Good e) (hne : es ≠ []) : joinF (argsW es) = 32 :: argsT (es.map txE) := by
  cases es with
  | nil => exact absurd rfl hne
  | cons e es =>
    have h1 := (h e List.mem_cons_self).2.1
    have ih := moreW_text es fun x hx => h x (List.mem_cons_of_mem _ hx)
    simp only [argsW, joinF_app, joinF_S h1, ih, List.map_cons, argsT, txE]
    simp
theorem moreW_good : ∀ es : List El, (∀ e ∈ es, Good e) → ∀ t ∈ moreW es, goodW t
  | [], _, t, ht => by simp [moreW] at ht
  | e :: es, h, t, ht => by
    simp only [moreW, List.mem_cons, List.mem_append] at ht
    rcases ht with rfl | ht | ht
    · exact good_cm
    · exact (h e List.mem_cons_self).2.2 t ht
    · exact moreW_good es (fun x hx => h x (List.mem_cons_of_mem _ hx)) t ht
theorem argsW_good {es : List El} (h : ∀ e ∈ es, Good e) : ∀ t ∈ argsW es, goodW t := by
  cases es with
  | nil => intro t ht; simp [argsW] at ht
  | cons e es =>
    intro t ht
    simp only [argsW, List.mem_append] at ht
    rcases ht with ht | ht
    · exact (h e List.mem_cons_self).2.2 t ht
    · exact moreW_good es (fun x hx => h x (List.mem_cons_of_mem _ hx)) t ht
theorem noTm_eq {p : Pt} (h : noTm p = true) : p.2.1 = 0 ∧ p.2.2.1 = [] ∧ p.2.2.2.1 = [] ∧ p.2.2.2.2.1 = [] := by
  simp only [noTm, Bool.and_eq_true, decide_eq_true_eq] at h
  exact h
theorem right_low {p : Pt} (hp : rightP p = true) (k1 : ¬ p.1 = 1) (k2 : ¬ p.1 = 2) (k3 : ¬ p.1 = 3) : p = (p.1, 0, [], [], [], [], p.2.2.2.2.2.2.1, ()) ∧ (p.1 = 26 ∨ p.2.2.2.2.2.2.1 = 0) := by
  rw [rightP, if_neg k1, if_neg (fun z => z.elim k2 k3)] at hp
  simp only [Bool.and_eq_true, decide_eq_true_eq] at hp
  obtain ⟨_, h1, h2, h3⟩ := hp
  obtain ⟨q1, q2, q3, q4⟩ := noTm_eq h1
  obtain ⟨k, tk, a, t, l, nm, n, u⟩ := p
  simp only at q1 q2 q3 q4 h2 h3 ⊢
  subst q1 q2 q3 q4 h2
  exact ⟨rfl, h3⟩
theorem good_el {p : Pt} {es : List El} (hp : rightP p = true) (hl : (es.length : Int) = needsS p) (h : ∀ e ∈ es, Good e) : Good (elS p es) ∧ txtS p (es.map txE) = joinS (tokS p es) := by
  have hll : ((es.map txE).length : Int) = needsS p := by rw [List.length_map]; exact hl
  by_cases k1 : p.1 = 1
  · have hr := hp
    rw [rightP, if_pos k1] at hr
    simp only [Bool.and_eq_true, decide_eq_true_eq] at hr
    obtain ⟨r1, r2, r3, r4⟩ := hr
    have he : es = [] := by rw [needsS, if_pos (by omega)] at hl; exact List.eq_nil_of_length_eq_zero (by omega)
    subst he
    have ep : p = (1, p.2.1, p.2.2.1, p.2.2.2.1, p.2.2.2.2.1, [], 0, ()) := by
      obtain ⟨k, tk, a, t, l, nm, n, u⟩ := p
      simp only at k1 r3 r4 ⊢
      subst k1 r3 r4; rfl
    have hg := goodW_term r1 (by omega) (by omega)
    refine ⟨⟨?_, ?_, ?_⟩, ?_⟩
    · have := prim_term p.2.1 p.2.2.1 p.2.2.2.1 p.2.2.2.2.1
      rw [← ep] at this
      simp only [elS, tokS, if_pos k1, allP]; exact this
    · simp [elS, tokS, k1]
    · intro t ht
      simp only [elS, tokS, if_pos k1, List.mem_singleton] at ht
      subst ht; exact hg
    · rw [txt_1 k1, tokS, if_pos k1]
      simp [joinS, joinF, wtext, tm, r1]
  by_cases k2 : p.1 = 2
  · have hr := hp
    rw [rightP, if_neg k1, if_pos (.inl k2)] at hr
    simp only [Bool.and_eq_true, decide_eq_true_eq] at hr
    obtain ⟨r1, r2, r3⟩ := hr
    have he : es = [] := by rw [needsS, if_pos (by omega)] at hl; exact List.eq_nil_of_length_eq_zero (by omega)
    subst he
    obtain ⟨q1, q2, q3, q4⟩ := noTm_eq r2
    have ep : p = (2, 0, [], [], [], p.2.2.2.2.2.1, 0, ()) := by
      obtain ⟨k, tk, a, t, l, nm, n, u⟩ := p
      simp only at k2 r3 q1 q2 q3 q4 ⊢
      subst k2 r3 q1 q2 q3 q4; rfl
    refine ⟨⟨?_, ?_, ?_⟩, ?_⟩
    · have := prim_var p.2.2.2.2.2.1
      rw [← ep] at this
      simp only [elS, tokS, if_neg k1, if_pos k2, allP]; exact this
    · simp [elS, tokS, k2]
    · intro t ht
      simp only [elS, tokS, if_neg k1, if_pos k2, List.mem_singleton] at ht
      subst ht; exact goodW_var r1
    · rw [txt_2 k2, tokS, if_neg k1, if_pos k2]
      simp [joinS, joinF, wtext_vr]
  by_cases k3 : p.1 = 3
  · have hr := hp
    rw [rightP, if_neg k1, if_pos (.inr k3)] at hr
    simp only [Bool.and_eq_true, decide_eq_true_eq] at hr
    obtain ⟨r1, r2, r3⟩ := hr
    have he : es = [] := by rw [needsS, if_pos (by omega)] at hl; exact List.eq_nil_of_length_eq_zero (by omega)
    subst he
    obtain ⟨q1, q2, q3, q4⟩ := noTm_eq r2
    have ep : p = (3, 0, [], [], [], p.2.2.2.2.2.1, 0, ()) := by
      obtain ⟨k, tk, a, t, l, nm, n, u⟩ := p
      simp only at k3 r3 q1 q2 q3 q4 ⊢
      subst k3 r3 q1 q2 q3 q4; rfl
    refine ⟨⟨?_, ?_, ?_⟩, ?_⟩
    · have := prim_bound p.2.2.2.2.2.1
      rw [← ep] at this
      simp only [elS, tokS, if_neg k1, if_neg k2, if_pos k3, allP]; exact this
    · simp [elS, tokS, k3]
    · intro t ht
      simp only [elS, tokS, if_neg k1, if_neg k2, if_pos k3, List.mem_cons, List.not_mem_nil, or_false] at ht
      rcases ht with rfl | rfl | rfl | rfl
      · exact good_bound
      · exact good_po
      · exact goodW_var r1
      · exact good_pc
    · rw [txt_3 k3, tokS, if_neg k1, if_neg k2, if_pos k3]
      simp [joinS, joinF, wtext_vr, wtext_sg, wtext_wd, boundT, boundW]
  obtain ⟨ep, hN⟩ := right_low hp k1 k2 k3
  have kk := part_kinds hp k1 k2 k3
  by_cases k45 : p.1 = 4 ∨ p.1 = 5
  · have h1 : es.length = 1 := by rw [needsS, if_neg (by omega), if_pos (by omega)] at hl; omega
    obtain ⟨e, rfl⟩ := List.length_eq_one_iff.1 h1
    have he := h e List.mem_cons_self
    have hN : p.2.2.2.2.2.2.1 = 0 := hN.resolve_left (by omega)
    have epk : p = kindP p.1 := by rw [hN] at ep; exact ep
    have et : tokS p [e] = sg (signT p.1) :: e.1 := by rw [tokS, if_neg k1, if_neg k2, if_neg k3, if_pos k45]; rfl
    refine ⟨⟨?_, ?_, ?_⟩, ?_⟩
    · have := prim_not k45 he.1
      rw [← epk] at this
      simp only [elS, et, allP, List.append_nil]; exact this
    · simp [elS, et]
    · intro t ht
      simp only [elS, et, List.mem_cons] at ht
      rcases ht with rfl | ht
      · exact good_sign (by omega)
      · exact he.2.2 t ht
    · rw [txt_4 k45, et, joinS_cons, wtext_sg, joinF_S he.2.1]
      simp [nthT, getR, txE]
  have k6 := kind6 kk (fun z => k45 (.inl z)) (fun z => k45 (.inr z))
  by_cases k17 : p.1 ≤ 17
  · have h1 : es.length = 2 := by rw [needsS, if_neg (by omega), if_neg (by omega), if_pos (by omega)] at hl; omega
    match es, h1, h with
    | [e, e'], _, h =>
    have he := h e List.mem_cons_self
    have he' := h e' (List.mem_cons_of_mem _ List.mem_cons_self)
    have hN : p.2.2.2.2.2.2.1 = 0 := hN.resolve_left (by omega)
    have epk : p = kindP p.1 := by rw [hN] at ep; exact ep
    have et : tokS p [e, e'] = sg [40] :: (e.1 ++ sg (signT p.1) :: (e'.1 ++ [sg [41]])) := by rw [tokS, if_neg k1, if_neg k2, if_neg k3, if_neg k45, if_pos k17]; rfl
    refine ⟨⟨?_, ?_, ?_⟩, ?_⟩
    · have := prim_bin he.1 he'.1 (k := p.1) ⟨k6, k17⟩
      rw [← epk] at this
      simp only [elS, et, allP, List.append_nil]; exact this
    · simp [elS, et]
    · intro t ht
      simp only [elS, et, List.mem_cons, List.mem_append, List.not_mem_nil, or_false] at ht
      rcases ht with rfl | ht | rfl | ht | rfl
      · exact good_po
      · exact he.2.2 t ht
      · exact good_sign (by omega)
      · exact he'.2.2 t ht
      · exact good_pc
    · rw [txt_6 k6 k17, et, joinS_cons, wtext_sg, joinF_app, joinF_S he.2.1, joinF_cons', wtext_sg, joinF_app, joinF_S he'.2.1]
      simp [nthT, getR, txE, joinF, wtext_sg]
  · have k18 := kind18 k17
    have hpos := part_some hp hll k18
    match es, h, hl, hll, hpos with
    | e :: es, h, hl, hll, _ =>
    have et : tokS p (e :: es) = wd (signT p.1) :: sg [40] :: (argsW (e :: es) ++ [sg [41]]) := by rw [tokS, if_neg k1, if_neg k2, if_neg k3, if_neg k45, if_neg k17]
    have hlen : ((e :: es).length : Int) = es.length + 1 := by simp
    have epk : p = callX p.1 (es.length + 1) := by
      by_cases q : p.1 = 26
      · have hn : p.2.2.2.2.2.2.1 = (es.length : Int) + 1 := by
          rw [needsS, if_neg (by omega), if_neg (by omega), if_neg (by omega), if_neg (by omega)] at hl
          split at hl
          · omega
          · omega
        rw [hn] at ep
        rw [callX, if_pos q]; exact ep
      · have hN := hN.resolve_left q
        rw [hN] at ep
        rw [callX, if_neg q]; exact ep
    have hn : needsS (callX p.1 (es.length + 1)) = es.length + 1 := by rw [← epk, ← hl, hlen]
    refine ⟨⟨?_, ?_, ?_⟩, ?_⟩
    · have := prim_call (k := p.1) ⟨k18, kk.2⟩ (e := e) (es := es) (fun x hx => (h x hx).1) hn
      rw [← epk] at this
      simp only [elS, et]; exact this
    · simp [elS, et]
    · intro t ht
      simp only [elS, et, List.mem_cons, List.mem_append, List.not_mem_nil, or_false] at ht
      rcases ht with rfl | rfl | ht | rfl
      · exact good_wd ⟨k18, kk.2⟩
      · exact good_po
      · exact argsW_good h t ht
      · exact good_pc
    · rw [txt_18 k18, et, joinS_cons, wtext_wd, joinF_cons', wtext_sg, joinF_app, argsW_text h (by simp)]
      simp [joinF, wtext_sg]
end Go.Proofs.Ytoopcfjmmhmamaa.Sp
end

section
namespace Go.Proofs.Ytoopcfjmmhmamaa.Sp
open Go.Proofs.Ytoopcfjmmhmamaa.Lg
def elF : List Pt → List El → List El
  | [], l => l
  | p :: f, l => elF f (l.take (l.length - (needsS p).toNat) ++ [elS p (l.drop (l.length - (needsS p).toNat))])
theorem allP_app : ∀ a b : List El, allP (a ++ b) = allP a ++ allP b
  | [], b => rfl
  | e :: a, b => by simp [allP, allP_app a b]
theorem elF_ok : ∀ (f : List Pt) (l : List El), chkN f l.length ≠ -1 → (∀ e ∈ l, Good e) → texF f (l.map txE) = (elF f l).map txE ∧ (∀ e ∈ elF f l, Good e) ∧ allP (elF f l) = allP l ++ f ∧ ((elF f l).length : Int) = chkN f l.length
  | [], l, _, h => ⟨rfl, h, by simp [elF], rfl⟩
  | p :: f, l, hc, h => by
    rw [chkN] at hc ⊢
    by_cases c : rightP p = false ∨ (l.length : Int) < needsS p
    · rw [if_pos c] at hc; exact absurd rfl hc
    · rw [if_neg c] at hc ⊢
      have hr : rightP p = true := by
        cases q : rightP p
        · exact absurd (.inl q) c
        · rfl
      have h0 := rightP_needs hr
      have h1 : ¬ (l.length : Int) < needsS p := fun z => c (.inr z)
      have hd : ((l.drop (l.length - (needsS p).toNat)).length : Int) = needsS p := by rw [List.length_drop]; omega
      obtain ⟨g1, g2⟩ := good_el hr hd fun e he => h e (List.mem_of_mem_drop he)
      have e : ((l.take (l.length - (needsS p).toNat) ++ [elS p (l.drop (l.length - (needsS p).toNat))]).length : Int) = (l.length : Int) + (1 - needsS p) := by
        simp only [List.length_append, List.length_take, List.length_cons, List.length_nil]; omega
      rw [← e] at hc ⊢
      obtain ⟨r1, r2, r3, r4⟩ := elF_ok f (l.take (l.length - (needsS p).toNat) ++ [elS p (l.drop (l.length - (needsS p).toNat))]) hc fun x hx => by
        rcases List.mem_append.1 hx with hx | hx
        · exact h x (List.mem_of_mem_take hx)
        · simp only [List.mem_singleton] at hx; subst hx; exact g1
      refine ⟨?_, r2, ?_, r4⟩
      · rw [texF, elF, ← r1, List.map_append, List.map_take, List.length_map, ← List.map_drop, g2]
        rfl
      · rw [elF, r3, allP_app]
        simp only [allP, elS, List.append_nil]
        rw [← List.append_assoc, ← allP_app, List.take_append_drop]
        simp
theorem sameW_eq {a b : Tok} (h : sameW a b false = true) : eqw b a := by
  simp only [sameW, Bool.and_eq_true, decide_eq_true_eq] at h
  obtain ⟨⟨⟨⟨⟨⟨h1, h2⟩, h3⟩, h4⟩, h5⟩, h6⟩, _⟩ := h
  exact ⟨h1.symm, h2.symm, h3.symm, h4.symm, h5.symm, h6.symm⟩
theorem tok_at {L : List Tok} {i : Nat} (h : i < L.length) : L.drop i = getR tkS L (i : Int) :: L.drop (i + 1) := by
  rw [List.drop_eq_getElem_cons h]
  simp [getR, List.getElem?_eq_getElem h]
theorem AtW_same : ∀ (E L : List Tok) (a : Nat), a + E.length = L.length → sameL false E (L.drop a) = true → AtW L a E
  | [], L, a, h, _ => by simp at h; exact Nat.le_of_eq h
  | e :: E, L, a, h, hs => by
    have lt : a < L.length := by simp only [List.length_cons] at h; omega
    rw [tok_at lt] at hs
    simp only [sameL, Bool.and_eq_true] at hs
    exact ⟨lt, sameW_eq hs.1, AtW_same E L (a + 1) (by simp only [List.length_cons] at h; omega) hs.2⟩
theorem el_one {f : List Pt} (hc : checkS f = 0) : ∃ E : List Tok, Good (E, f) ∧ textF f = joinS E := by
  have h1 := chk_one hc
  have hne : chkN f (([] : List El).length : Int) ≠ -1 := by show chkN f 0 ≠ -1; rw [h1]; decide
  obtain ⟨r1, r2, r3, r4⟩ := elF_ok f [] hne (by simp)
  have hl : (elF f []).length = 1 := by
    have : chkN f (([] : List El).length : Int) = 1 := h1
    rw [this] at r4; omega
  obtain ⟨e, he⟩ := List.length_eq_one_iff.1 hl
  rw [he] at r1 r2 r3
  have hg := r2 e List.mem_cons_self
  have hf : e.2 = f := by simpa [allP] using r3
  refine ⟨e.1, ?_, ?_⟩
  · rw [← hf]; exact hg
  · have : texF f [] = [txE e] := r1
    simp [textF, this, nthT, getR, txE]
theorem parse_back {f : List Pt} (hc : checkS f = 0) {L : List Tok} {E : List Tok} (hg : Good (E, f)) (hs : sameS E L false = true) :
    (pfW 0 (L, 0, [], false, ())).2.2.1 = f ∧ parseS L 0 = (f, (L.length : Int), 0) := by
  simp only [sameS, Bool.and_eq_true, decide_eq_true_eq] at hs
  have ha := AtW_same E L 0 (by omega) (by rw [List.drop_zero]; exact hs.2)
  have hn : noOp L (0 + E.length) := by rw [Nat.zero_add, hs.1]; exact noOp_end L
  have h := lev0 hg.1 [] ha hn
  have h : pfW 0 (L, 0, [], false, ()) = st L (0 + E.length) ([] ++ f) := h
  rw [Nat.zero_add, hs.1, List.nil_append] at h
  refine ⟨by rw [h]; rfl, ?_⟩
  rw [parseS, if_neg (by omega), h, if_neg (by show ¬ false = true; decide), if_pos (by show checkS f = 0; exact hc)]
  rfl
/-- The words of a formula's text are parsed as the formula. -/
theorem back_ok {f : List Pt} (hc : checkS f = 0) (hl : (lexS (textF f)).2.2 = 0) : (pfW 0 ((lexS (textF f)).1, 0, [], false, ())).2.2.1 = f ∧ parseS (lexS (textF f)).1 0 = (f, ((lexS (textF f)).1.length : Int), 0) := by
  obtain ⟨E, hg, ht⟩ := el_one hc
  obtain ⟨h1, h2, h3⟩ := lexS_ok hl
  rw [h2]
  refine parse_back hc hg ?_
  rw [ht]
  exact (lexR_joinS E hg.2.2).2
theorem back_long {f : List Pt} (hc : checkS f = 0) (hl : ¬ (lexS (textF f)).2.2 = 0) : 4096 < (textF f).length := by
  obtain ⟨E, hg, ht⟩ := el_one hc
  by_cases q : (textF f).length ≤ 4096
  · exfalso
    apply hl
    rw [lexS_eq _ q, ht, (lexR_joinS E hg.2.2).1]
  · omega
theorem text_len {f : List Pt} (hc : checkS f = 0) : (textF f).length ≤ 5000000 := by
  have key : ∀ (k i : Nat) (l : Tx), i + k = f.length → chkN (f.drop i) l.length = 1 → lenT l ≤ 17000 * i → lenT (texF (f.drop i) l) ≤ 17000 * f.length := by
    intro k
    induction k with
    | zero =>
      intro i l h _ hb
      rw [List.drop_of_length_le (by omega), texF]
      have : i = f.length := by omega
      rw [← this]; exact hb
    | succ k ih =>
      intro i l h hc' hb
      obtain ⟨_, _, _, _, _, _, g7, g8, g9⟩ := tex_step (by omega) hc' hb (checkS_len hc)
      rw [g9]
      exact ih (i + 1) _ (by omega) g7 g8
  have h1 := key f.length 0 [] (by omega) (by rw [List.drop_zero]; exact chk_one hc) (by simp [lenT])
  rw [List.drop_zero] at h1
  have h2 := checkS_len hc
  have h3 := nth_len (texF f []) 0
  have e0 : ((0 : Nat) : Int) = 0 := rfl
  rw [e0] at h3
  show (nthT (texF f []) 0).length ≤ _
  omega
end Go.Proofs.Ytoopcfjmmhmamaa.Sp
end
