/- Chapter 6: the parser ends; more fuel changes nothing. -/
import Derived.Test.YtfpojhphmgnfhaaSpM
section
namespace Go.Proofs.Ytfpojhphmgnfhaa.Sp
open Go.Proofs.Ytfpojhphmgnfhaa.Lg
def Les (lev lev' : PSt → Option PSt) : Prop := ∀ p q, lev p = some q → lev' p = some q
theorem chainF_les {lev lev' : PSt → Option PSt} (h : Les lev lev') (n : Int) : ∀ (m : Nat) (p q : PSt), chainF lev n m p = some q → chainF lev' n m p = some q
  | 0, _, _, e => by simp [chainF] at e
  | m + 1, p, q, e => by
    simp only [chainF] at e ⊢
    split
    · rename_i w; rw [if_pos w] at e; exact e
    · rename_i w; rw [if_neg w] at e
      split
      · rename_i w; rw [if_pos w] at e; exact e
      · rename_i w; rw [if_neg w] at e
        cases e1 : lev (adv p) with
        | none => rw [e1] at e; simp at e
        | some r =>
          rw [e1] at e
          rw [h _ _ e1]
          simp only [Option.bind_some] at e ⊢
          split
          · rename_i w; rw [if_pos w] at e; exact e
          · rename_i w; rw [if_neg w] at e; exact chainF_les h n m _ _ e
theorem argsF_les {lev lev' : PSt → Option PSt} (h : Les lev lev') : ∀ (m : Nat) (n : Int) (p : PSt) (q : Int × PSt), argsF lev m n p = some q → argsF lev' m n p = some q
  | 0, _, _, _, e => by simp [argsF] at e
  | m + 1, n, p, q, e => by
    simp only [argsF] at e ⊢
    split
    · rename_i w; rw [if_pos w] at e; exact e
    · rename_i w; rw [if_neg w] at e
      split
      · rename_i w; rw [if_pos w] at e
        cases e1 : lev p with
        | none => rw [e1] at e; simp at e
        | some r =>
          rw [e1] at e
          rw [h _ _ e1]
          exact argsF_les h m _ _ _ e
      · rename_i w; rw [if_neg w] at e
        split
        · rename_i w; rw [if_pos w] at e
          cases e1 : lev (adv p) with
          | none => rw [e1] at e; simp at e
          | some r =>
            rw [e1] at e
            rw [h _ _ e1]
            exact argsF_les h m _ _ _ e
        · rename_i w; rw [if_neg w] at e; exact e
theorem callP_les {lev lev' : PSt → Option PSt} (h : Les lev lev') (k : Int) : Les (callP lev k) (callP lev' k) := by
  intro p q e
  unfold callP at e ⊢
  cases e1 : argsP lev 0 (mustP p [40]) with
  | none => rw [e1] at e; simp at e
  | some r =>
    rw [e1] at e
    rw [show argsP lev' 0 (mustP p [40]) = some r from argsF_les h _ _ _ _ e1]
    exact e
theorem wordP_les {lev lev' : PSt → Option PSt} (h : Les lev lev') (s : B) : Les (wordP lev s) (wordP lev' s) := by
  intro p q e
  unfold wordP at e ⊢
  split
  · rename_i w; rw [if_pos w] at e; exact e
  · rename_i w; rw [if_neg w] at e
    split
    · rename_i w; rw [if_pos w] at e; exact e
    · rename_i w; rw [if_neg w] at e
      split
      · rename_i w; rw [if_pos w] at e; exact e
      · rename_i w; rw [if_neg w] at e
        split
        · rename_i w; rw [if_pos w] at e; exact e
        · rename_i w; rw [if_neg w] at e; exact callP_les h _ _ _ e
theorem simpleP_les {lev lev' : PSt → Option PSt} (h : Les lev lev') : Les (simpleP lev) (simpleP lev') := by
  intro p q e
  unfold simpleP at e ⊢
  split
  · rename_i w; rw [if_pos w] at e; exact e
  · rename_i w; rw [if_neg w] at e
    split
    · rename_i w; rw [if_pos w] at e
      cases e1 : lev (adv p) with
      | none => rw [e1] at e; simp at e
      | some r => rw [e1] at e; rw [h _ _ e1]; exact e
    · rename_i w; rw [if_neg w] at e
      split
      · rename_i w; rw [if_pos w] at e; exact e
      · rename_i w; rw [if_neg w] at e
        split
        · rename_i w; rw [if_pos w] at e; exact e
        · rename_i w; rw [if_neg w] at e
          split
          · rename_i w; rw [if_pos w] at e; exact e
          · rename_i w; rw [if_neg w] at e
            split
            · rename_i w; rw [if_pos w] at e; exact wordP_les h _ _ _ e
            · rename_i w; rw [if_neg w] at e; exact e
theorem pf_succ : ∀ (N : Nat) (n : Int), Les (pf N n) (pf (N + 1) n)
  | 0, _ => fun _ _ e => by simp [pf] at e
  | N + 1, n => fun p q e => by
    have ih := pf_succ N
    rw [pf]
    simp only [pf] at e
    split
    · rename_i w; rw [if_pos w] at e
      split
      · rename_i w; rw [if_pos w] at e
        cases e1 : pf N 6 (adv p) with
        | none => rw [e1] at e; simp at e
        | some r => rw [e1] at e; rw [ih 6 _ _ e1]; exact e
      · rename_i w; rw [if_neg w] at e
        split
        · rename_i w; rw [if_pos w] at e
          cases e1 : pf N 6 (adv p) with
          | none => rw [e1] at e; simp at e
          | some r => rw [e1] at e; rw [ih 6 _ _ e1]; exact e
        · rename_i w; rw [if_neg w] at e; exact simpleP_les (ih 0) _ _ e
    · rename_i w; rw [if_neg w] at e
      split
      · rename_i w; rw [if_pos w] at e; exact ih 6 _ _ e
      · rename_i w; rw [if_neg w] at e
        cases e1 : pf N (n + 1) p with
        | none => rw [e1] at e; simp at e
        | some r => rw [e1] at e; rw [ih (n + 1) _ _ e1]; exact chainF_les (ih (n + 1)) n _ _ _ e
theorem pf_mono {N M : Nat} (h : N ≤ M) (n : Int) : Les (pf N n) (pf M n) := by
  induction h with
  | refl => exact fun _ _ e => e
  | step _ ih => exact fun p q e => pf_succ _ n p q (ih p q e)
/-- With enough fuel the parser ends. -/
def endsL (lev : PSt → Option PSt) (L : Nat) : Prop := ∀ p, inP p → leftP p ≤ L → (lev p).isSome = true
theorem left_le {k : Int} {p q : PSt} (h : stp k p q) : leftP q ≤ leftP p := by
  obtain ⟨h1, h2, h3, h4, _⟩ := h
  simp only [leftP, h1]; omega
theorem adv_left {p : PSt} (hp : inP p) (w : p.2.1 < (p.1.length : Int)) : leftP (adv p) + 1 = leftP p := by
  obtain ⟨h1, h2⟩ := hp
  simp only [leftP, adv]; omega
theorem chain_ends {lev : PSt → Option PSt} (hl : levOK lev) (n : Int) {L : Nat} (he : ∀ L', L' < L → endsL lev L') : ∀ (m : Nat) (p : PSt), inP p → leftP p ≤ L → leftP p < m → (chainF lev n m p).isSome = true
  | 0, _, _, _, h => by omega
  | m + 1, p, hp, hL, h => by
    simp only [chainF]
    split
    · rfl
    · split
      · rfl
      · rename_i w
        have w := findK_ne w
        have ha := adv_left hp w
        have h1 := stp_adv hp w
        obtain ⟨q, hq⟩ := is_some (he (leftP (adv p)) (by omega) _ (stp_in h1) (Nat.le_refl _))
        rw [hq, Option.bind_some]
        split
        · rfl
        · have h2 := hl _ _ (stp_in h1) hq
          have := left_lt hp h2 w (r := addP q (kindP (findK p (signL n)))) rfl rfl
          exact chain_ends hl n he m _ (stp_in (stp_add _ (stp_in h2))) (by omega) (by omega)
theorem args_ends {lev : PSt → Option PSt} (hl : levOK lev) {L : Nat} (he : endsL lev L) : ∀ (m : Nat) (n : Int) (p : PSt), 0 ≤ n → inP p → leftP p ≤ L → leftP p + (if n = 0 then 2 else 1) ≤ m → (argsF lev m n p).isSome = true
  | 0, _, _, _, _, _, h => by split at h <;> omega
  | m + 1, n, p, hn, hp, hL, h => by
    simp only [argsF]
    split
    · rfl
    · split
      · rename_i w
        rw [if_pos w] at h
        obtain ⟨q, hq⟩ := is_some (he _ hp hL)
        rw [hq, Option.bind_some]
        have h2 := hl _ _ hp hq
        have := left_le h2
        exact args_ends hl he m _ _ (by omega) (stp_in h2) (by omega) (by rw [if_neg (by omega)]; omega)
      · rename_i wn
        rw [if_neg wn] at h
        split
        · rename_i w
          have w := isP_lt w
          have ha := adv_left hp w
          have h1 := stp_adv hp w
          obtain ⟨q, hq⟩ := is_some (he _ (stp_in h1) (by omega))
          rw [hq, Option.bind_some]
          have h2 := hl _ _ (stp_in h1) hq
          have := left_le h2
          exact args_ends hl he m _ _ (by omega) (stp_in h2) (by omega) (by rw [if_neg (by omega)]; omega)
        · rfl
theorem word_ends {lev : PSt → Option PSt} (hl : levOK lev) {L : Nat} (he : endsL lev L) (s : B) {p : PSt} (hp : inP p) (hL : leftP p ≤ L) : (wordP lev s p).isSome = true := by
  unfold wordP
  split
  · rfl
  · split
    · rfl
    · split
      · rfl
      · split
        · rfl
        · unfold callP argsP
          have h1 := stp_must [40] hp
          have := left_le h1
          obtain ⟨q, hq⟩ := is_some (args_ends hl he _ 0 _ (Int.le_refl 0) (stp_in h1) (by omega) (Nat.le_refl _))
          rw [hq]; rfl
theorem simple_ends {lev : PSt → Option PSt} (hl : levOK lev) {p : PSt} (hp : inP p) (he : ∀ L, L < leftP p → endsL lev L) : (simpleP lev p).isSome = true := by
  unfold simpleP
  split
  · rfl
  · rename_i w
    have w : p.2.1 < (p.1.length : Int) := by
      have : ¬ p.2.1 = (p.1.length : Int) := fun e => w (.inr e)
      have := hp.2
      omega
    have ha := adv_left hp w
    have h1 := stp_adv hp w
    split
    · obtain ⟨q, hq⟩ := is_some (he (leftP (adv p)) (by omega) _ (stp_in h1) (Nat.le_refl _))
      rw [hq]; rfl
    · split
      · rfl
      · split
        · rfl
        · split
          · rfl
          · split
            · exact word_ends hl (he (leftP (adv p)) (by omega)) _ (stp_in h1) (Nat.le_refl _)
            · rfl
theorem pf_ends : ∀ (N : Nat) (n : Int) (p : PSt), 0 ≤ n → n ≤ 6 → inP p → 8 * leftP p + (7 - n).toNat ≤ N → (pf N n p).isSome = true
  | 0, n, p, h0, h6, _, h => by
    have h6 : n = 7 := by omega
    omega
  | N + 1, n, p, h0, h6, hp, h => by
    simp only [pf]
    split
    · rename_i e; subst e
      split
      · rename_i w
        have ha := adv_left hp (isP_lt w)
        obtain ⟨q, hq⟩ := is_some (pf_ends N 6 (adv p) (by omega) (by omega) (stp_in (stp_adv hp (isP_lt w))) (by omega))
        rw [hq]; rfl
      · split
        · rename_i w
          have ha := adv_left hp (isP_lt w)
          obtain ⟨q, hq⟩ := is_some (pf_ends N 6 (adv p) (by omega) (by omega) (stp_in (stp_adv hp (isP_lt w))) (by omega))
          rw [hq]; rfl
        · exact simple_ends (pf_stp N 0) hp (fun L hL q hq hle => pf_ends N 0 q (by omega) (by omega) hq (by omega))
    · split
      · rename_i e; subst e
        exact pf_ends N 6 p (by omega) (by omega) hp (by omega)
      · obtain ⟨q, hq⟩ := is_some (pf_ends N (n + 1) p (by omega) (by omega) hp (by omega))
        rw [hq, Option.bind_some]
        have h2 := pf_stp N (n + 1) _ _ hp hq
        have := left_le h2
        exact chain_ends (pf_stp N (n + 1)) n (L := leftP p) (fun L hL r hr hle => pf_ends N (n + 1) r (by omega) (by omega) hr (by omega)) _ _ (stp_in h2) (by omega) (Nat.lt_succ_self _)
def fuelP (p : PSt) : Nat := 8 * p.1.length + 8
/-- What the parser does at a level. -/
def pfW (n : Int) (p : PSt) : PSt := (pf (fuelP p) n p).getD p
theorem pfW_some {n : Int} {p : PSt} (h0 : 0 ≤ n) (h6 : n ≤ 6) (hp : inP p) : pf (fuelP p) n p = some (pfW n p) := by
  have hl : leftP p ≤ p.1.length := by simp only [leftP]; omega
  obtain ⟨q, hq⟩ := is_some (pf_ends (fuelP p) n p h0 h6 hp (by simp only [fuelP]; omega))
  simp [pfW, hq]
theorem pfW_e {N : Nat} {n : Int} {p q : PSt} (h0 : 0 ≤ n) (h6 : n ≤ 6) (hp : inP p) (h : pf N n p = some q) : pfW n p = q := by
  have h1 := pf_mono (Nat.le_max_left N (fuelP p)) n _ _ h
  have h2 := pf_mono (Nat.le_max_right N (fuelP p)) n _ _ (pfW_some h0 h6 hp)
  rw [h1] at h2
  exact (Option.some.inj h2).symm
theorem pfW_stp {n : Int} {p : PSt} (h0 : 0 ≤ n) (h6 : n ≤ 6) (hp : inP p) : stp 0 p (pfW n p) := pf_stp _ _ _ _ hp (pfW_some h0 h6 hp)
end Go.Proofs.Ytfpojhphmgnfhaa.Sp
end

section
namespace Go.Proofs.Ytfpojhphmgnfhaa.Sp
open Go.Proofs.Ytfpojhphmgnfhaa.Lg
def noTm (p : Pt) : Bool := decide (p.2.1 = 0) && (decide (p.2.2.1 = []) && (decide (p.2.2.2.1 = []) && decide (p.2.2.2.2.1 = [])))
def rightP (p : Pt) : Bool :=
  if p.1 = 1 then right p.2.1 p.2.2.1 p.2.2.2.1 p.2.2.2.2.1 && (decide (p.2.1 = 1 ∨ p.2.1 = 2) && (decide (p.2.2.2.2.2.1 = []) && decide (p.2.2.2.2.2.2.1 = 0)))
  else if p.1 = 2 ∨ p.1 = 3 then isName p.2.2.2.2.2.1 && (noTm p && decide (p.2.2.2.2.2.2.1 = 0))
  else decide (0 ≤ needsS p) && (noTm p && (decide (p.2.2.2.2.2.1 = []) && decide (p.1 = 26 ∨ p.2.2.2.2.2.2.1 = 0)))
def szPt (p : Pt) : Prop := p.2.2.1.length ≤ 140737488355328 ∧ p.2.2.2.1.length ≤ 140737488355328 ∧ p.2.2.2.2.1.length ≤ 140737488355328 ∧ p.2.2.2.2.2.1.length ≤ 140737488355328
def allPt (l : List Pt) : Prop := ∀ p ∈ l, szPt p
/-- How many results are there behind some parts; -1: they are no formula's. -/
def chkN : List Pt → Int → Int
  | [], n => n
  | p :: l, n => if rightP p = false ∨ n < needsS p then -1 else chkN l (n + (1 - needsS p))
def checkS (f : List Pt) : Int := if 256 < f.length then 3 else if chkN f 0 = 1 then 0 else 2
theorem needs_le (p : Pt) : needsS p ≤ 16 := by
  unfold needsS; repeat' split
  all_goals omega
theorem needs_ge (p : Pt) : -1 ≤ needsS p := by
  unfold needsS; repeat' split
  all_goals omega
theorem rightP_needs {p : Pt} (h : rightP p = true) : 0 ≤ needsS p := by
  unfold rightP at h
  split at h
  · rename_i w; rw [needsS, if_pos (by omega)]; omega
  · split at h
    · rename_i w; rw [needsS, if_pos (by omega)]; omega
    · simp only [Bool.and_eq_true, decide_eq_true_eq] at h; exact h.1
def parseS (l : List Tok) (a : Int) : List Pt × Int × Int :=
  if a < 0 ∨ (l.length : Int) < a then ([], 0, 1)
  else if (pfW 0 (l, a, [], false, ())).2.2.2.1 = true then ([], 0, 2)
  else if checkS (pfW 0 (l, a, [], false, ())).2.2.1 = 0 then ((pfW 0 (l, a, [], false, ())).2.2.1, (pfW 0 (l, a, [], false, ())).2.1, 0)
  else ([], 0, checkS (pfW 0 (l, a, [], false, ())).2.2.1)
/-- Where the parts begin whose result a part makes; -1: nowhere. -/
def fromN (f : List Pt) : Nat → Int → Int
  | 0, k => if k + (needsS (getR ptS f 0) - 1) = 0 then 0 else -1
  | i + 1, k => if k + (needsS (getR ptS f (i + 1 : Nat)) - 1) = 0 then ((i + 1 : Nat) : Int) else fromN f i (k + (needsS (getR ptS f (i + 1 : Nat)) - 1))
def fromS (f : List Pt) (i : Int) : Int × Int := if checkS f = 0 then (if i < 0 ∨ (f.length : Int) ≤ i then (0, 1) else (fromN f i.toNat 1, 0)) else (0, checkS f)
theorem checkS_cases (f : List Pt) : checkS f = 0 ∨ checkS f = 2 ∨ checkS f = 3 := by
  unfold checkS; repeat' split
  all_goals simp
theorem part_at {f : List Pt} {i : Nat} (h : i < f.length) : f.drop i = getR ptS f (i : Int) :: f.drop (i + 1) := by
  rw [List.drop_eq_getElem_cons h]
  simp [getR, List.getElem?_eq_getElem h]
theorem part_mem {f : List Pt} {i : Nat} (h : i < f.length) : getR ptS f (i : Int) ∈ f := by
  have : getR ptS f (i : Int) = f[i] := by simp [getR, List.getElem?_eq_getElem h]
  rw [this]; exact List.getElem_mem h
theorem checkS_len {f : List Pt} (h : checkS f = 0) : f.length ≤ 256 := by
  unfold checkS at h
  split at h
  · cases h
  · omega
def wordT (k : Int) : B := if k < 18 then [] else signT k
theorem signT_no {k : Int} (h : k < 4 ∨ 26 < k) : signT k = [] := by
  unfold signT
  repeat (rw [if_neg (by omega)])
theorem signT_word {k : Int} (h : k < 4 ∨ 17 < k) : wordT k = signT k := by
  unfold wordT
  split
  · rw [signT_no (by omega)]
  · rfl
/-- The document's: the last place from which on the parts up to i are a formula; -1: none. -/
def findAt (f : List Pt) (i : Nat) : Nat → Int
  | 0 => if checkS ((f.take (i + 1)).drop 0) = 0 then 0 else -1
  | a + 1 => if checkS ((f.take (i + 1)).drop (a + 1)) = 0 then ((a + 1 : Nat) : Int) else findAt f i a
def fromR (f : List Pt) (i : Int) : Int := if findAt f i.toNat i.toNat < 0 then 0 else findAt f i.toNat i.toNat
theorem allPt_sub {f : List Pt} (h : allPt f) (a b : Nat) : allPt ((f.take b).drop a) := fun p hp => h p (List.mem_of_mem_take (List.mem_of_mem_drop hp))
end Go.Proofs.Ytfpojhphmgnfhaa.Sp
end
