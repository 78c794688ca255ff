/- Part of a proof of the seat's statements: no statement by itself. -/
import Derived.Test.YtoopcfjmmhmamaaT6C
import Derived.Test.YtoopcfjmmhmamaaSpS
set_option maxRecDepth 100000
open Go.Proofs.Ytoopcfjmmhmamaa.Lg Go Go.Proofs.Ytoopcfjmmhmamaa.Sp
open Go.Proofs
namespace Go.Proofs.Ytoopcfjmmhmamaa.T6


/-! ### legation/formula.right -/
def Lf_right : Ls := []
def Sf_right := mkS [(true, ptS)] fun ⟨(p : RowE ptS), _⟩ => .chk (szPt p) (.leaf (.val (.d (.bool (rightP p)))))
theorem tf_right (p : RowE ptS) : evF T (En (EW)) (Ln (Lf_right)) Try.f38 [.agg (rowD ptS p)] =
    br (p.fst == (1 : Int)) (chk (List.length p.snd.snd.fst ≤ Big ∧ List.length p.snd.snd.snd.fst ≤ Big ∧ List.length p.snd.snd.snd.snd.fst ≤ Big) (br ((if right p.snd.fst p.snd.snd.fst p.snd.snd.snd.fst p.snd.snd.snd.snd.fst = true then (0 : Int) else (2 : Int)) != (0 : Int)) (some (SV.val (AV.d (D.bool false)))) (br (p.snd.fst != (1 : Int)) (br (p.snd.fst != (2 : Int)) (some (SV.val (AV.d (D.bool false)))) (br (decide (needsS p ≥ (0 : Int))) (some (SV.val (AV.d (D.bool (p.fst == p.fst && (CE.dflt (Sh.int IntKind.i64) == CE.dflt (Sh.int IntKind.i64) && (CE.dflt Sh.str == CE.dflt Sh.str && (CE.dflt Sh.str == CE.dflt Sh.str && (CE.dflt Sh.str == CE.dflt Sh.str && (p.snd.snd.snd.snd.snd.fst == CE.dflt Sh.str && p.snd.snd.snd.snd.snd.snd.fst == CE.dflt (Sh.int IntKind.i64))))))))))) (some (SV.val (AV.d (D.bool false)))))) (br (decide (needsS p ≥ (0 : Int))) (some (SV.val (AV.d (D.bool (p.fst == p.fst && (CE.dflt (Sh.int IntKind.i64) == CE.dflt (Sh.int IntKind.i64) && (CE.dflt Sh.str == CE.dflt Sh.str && (CE.dflt Sh.str == CE.dflt Sh.str && (CE.dflt Sh.str == CE.dflt Sh.str && (p.snd.snd.snd.snd.snd.fst == CE.dflt Sh.str && p.snd.snd.snd.snd.snd.snd.fst == CE.dflt (Sh.int IntKind.i64))))))))))) (some (SV.val (AV.d (D.bool false)))))))) (br (p.fst == (2 : Int)) (chk (List.length p.snd.snd.snd.snd.snd.fst ≤ Big) (br (!isName p.snd.snd.snd.snd.snd.fst) (some (SV.val (AV.d (D.bool false)))) (br (decide (needsS p ≥ (0 : Int))) (some (SV.val (AV.d (D.bool (p.fst == p.fst && (p.snd.fst == CE.dflt (Sh.int IntKind.i64) && (p.snd.snd.fst == CE.dflt Sh.str && (p.snd.snd.snd.fst == CE.dflt Sh.str && (p.snd.snd.snd.snd.fst == CE.dflt Sh.str && ([] == CE.dflt Sh.str && p.snd.snd.snd.snd.snd.snd.fst == CE.dflt (Sh.int IntKind.i64))))))))))) (some (SV.val (AV.d (D.bool false))))))) (br (p.fst == (3 : Int)) (chk (List.length p.snd.snd.snd.snd.snd.fst ≤ Big) (br (!isName p.snd.snd.snd.snd.snd.fst) (some (SV.val (AV.d (D.bool false)))) (br (decide (needsS p ≥ (0 : Int))) (some (SV.val (AV.d (D.bool (p.fst == p.fst && (p.snd.fst == CE.dflt (Sh.int IntKind.i64) && (p.snd.snd.fst == CE.dflt Sh.str && (p.snd.snd.snd.fst == CE.dflt Sh.str && (p.snd.snd.snd.snd.fst == CE.dflt Sh.str && ([] == CE.dflt Sh.str && p.snd.snd.snd.snd.snd.snd.fst == CE.dflt (Sh.int IntKind.i64))))))))))) (some (SV.val (AV.d (D.bool false))))))) (br (p.fst == (26 : Int)) (br (decide (needsS p ≥ (0 : Int))) (some (SV.val (AV.d (D.bool (p.fst == p.fst && (p.snd.fst == CE.dflt (Sh.int IntKind.i64) && (p.snd.snd.fst == CE.dflt Sh.str && (p.snd.snd.snd.fst == CE.dflt Sh.str && (p.snd.snd.snd.snd.fst == CE.dflt Sh.str && (p.snd.snd.snd.snd.snd.fst == CE.dflt Sh.str && (0 : Int) == CE.dflt (Sh.int IntKind.i64))))))))))) (some (SV.val (AV.d (D.bool false))))) (br (decide (needsS p ≥ (0 : Int))) (some (SV.val (AV.d (D.bool (p.fst == p.fst && (p.snd.fst == CE.dflt (Sh.int IntKind.i64) && (p.snd.snd.fst == CE.dflt Sh.str && (p.snd.snd.snd.fst == CE.dflt Sh.str && (p.snd.snd.snd.snd.fst == CE.dflt Sh.str && (p.snd.snd.snd.snd.snd.fst == CE.dflt Sh.str && p.snd.snd.snd.snd.snd.snd.fst == CE.dflt (Sh.int IntKind.i64))))))))))) (some (SV.val (AV.d (D.bool false)))))))) := by kernel_rfl
theorem satf_right : Sat P 38 (Sf_right) := by
  refine sat_mk (LT := Ln (Lf_right)) hC okW mixed Try.func38 (by kernel_rfl) (c := bodyOf Try.f38) (by kernel_rfl) (by kernel_rfl) ?_ (loops0 (by kernel_rfl))
  rintro ⟨(p : RowE ptS), _⟩ sv h
  refine Leads.eq (Leads.of_eq (tf_right p) ?_)
  obtain ⟨⟨s1, s2, s3, s4⟩, h⟩ := h
  have h := Out_leaf h
  subst h
  obtain ⟨(k : Int), (tk : Int), (a : List UInt8), (t : List UInt8), (l : List UInt8), (nm : List UInt8), (n : Int), _⟩ := p
  dsimp only at s1 s2 s3 s4 ⊢
  have hB := Big_eq
  have h0 : ∀ z : Int, (z = 1 ∨ z = 2 ∨ z = 3) → ∀ b, needsS (z, b) = 0 := fun z hz b => by rw [needsS, if_pos (by show 1 ≤ z ∧ z ≤ 3; omega)]
  have d1 : CE.dflt Sh.str = ([] : List UInt8) := rfl
  have d2 : CE.dflt (Sh.int .i64) = (0 : Int) := rfl
  refine Leads.brE (fun q => ?_) fun q1 => Leads.brE (fun q => ?_) fun q2 => Leads.brE (fun q => ?_) fun q3 => Leads.brE (fun q => ?_) fun q26 => ?_
  · have q : k = 1 := q
    subst q
    rw [h0 1 (.inl rfl), d1, d2]
    repeat' (first | refine Leads.brD (fun _ => ?_) (fun _ => ?_) | refine Leads.brE (fun _ => ?_) (fun _ => ?_) | refine Leads.brN (fun _ => ?_) (fun _ => ?_) | refine Leads.brM (fun _ => ?_) (fun _ => ?_) | refine Leads.brG (fun _ => ?_) (fun _ => ?_) | refine Leads.br (fun _ => ?_) (fun _ => ?_) | refine Leads.chk ?_ (fun _ => ?_) | refine Leads.one ?_ | refine Leads.brP (fun _ => ?_) (fun _ => ?_))
    all_goals first | omega | skip
    all_goals (refine congrArg (fun z => SV.val (.d (.bool z))) ?_; rw [Bool.eq_iff_iff])
    all_goals simp_all [rightP]
  · have q : k = 2 := q
    subst q
    rw [h0 2 (.inr (.inl rfl)), d1, d2]
    repeat' (first | refine Leads.brD (fun _ => ?_) (fun _ => ?_) | refine Leads.brE (fun _ => ?_) (fun _ => ?_) | refine Leads.brN (fun _ => ?_) (fun _ => ?_) | refine Leads.brM (fun _ => ?_) (fun _ => ?_) | refine Leads.brG (fun _ => ?_) (fun _ => ?_) | refine Leads.br (fun _ => ?_) (fun _ => ?_) | refine Leads.chk ?_ (fun _ => ?_) | refine Leads.one ?_ | refine Leads.brP (fun _ => ?_) (fun _ => ?_))
    all_goals first | omega | skip
    all_goals (refine congrArg (fun z => SV.val (.d (.bool z))) ?_; rw [Bool.eq_iff_iff])
    all_goals simp_all [rightP, noTm, and_assoc]
  · have q : k = 3 := q
    subst q
    rw [h0 3 (.inr (.inr rfl)), d1, d2]
    repeat' (first | refine Leads.brD (fun _ => ?_) (fun _ => ?_) | refine Leads.brE (fun _ => ?_) (fun _ => ?_) | refine Leads.brN (fun _ => ?_) (fun _ => ?_) | refine Leads.brM (fun _ => ?_) (fun _ => ?_) | refine Leads.brG (fun _ => ?_) (fun _ => ?_) | refine Leads.br (fun _ => ?_) (fun _ => ?_) | refine Leads.chk ?_ (fun _ => ?_) | refine Leads.one ?_ | refine Leads.brP (fun _ => ?_) (fun _ => ?_))
    all_goals first | omega | skip
    all_goals (refine congrArg (fun z => SV.val (.d (.bool z))) ?_; rw [Bool.eq_iff_iff])
    all_goals simp_all [rightP, noTm, and_assoc]
  · have q : k = 26 := q
    subst q
    rw [d1, d2]
    refine Leads.brD (fun w => Leads.one ?_) (fun w => Leads.one ?_)
    all_goals (refine congrArg (fun z => SV.val (.d (.bool z))) ?_; rw [Bool.eq_iff_iff])
    · have w : 0 ≤ needsS (26, tk, a, t, l, nm, n, ()) := w
      simp [rightP, noTm, w, and_assoc]
    · have w : ¬ 0 ≤ needsS (26, tk, a, t, l, nm, n, ()) := w
      simp [rightP, w]
  · have q1 : ¬ k = 1 := q1
    have q2 : ¬ k = 2 := q2
    have q3 : ¬ k = 3 := q3
    have q26 : ¬ k = 26 := q26
    rw [d1, d2]
    refine Leads.brD (fun w => Leads.one ?_) (fun w => Leads.one ?_)
    all_goals (refine congrArg (fun z => SV.val (.d (.bool z))) ?_; rw [Bool.eq_iff_iff])
    · have w : 0 ≤ needsS (k, tk, a, t, l, nm, n, ()) := w
      simp [rightP, noTm, w, q1, q2, q3, q26, and_assoc]
    · have w : ¬ 0 ≤ needsS (k, tk, a, t, l, nm, n, ()) := w
      simp [rightP, w, q1, q2, q3]
def Ef_right : Es := (38, (Sf_right)) :: EW
theorem okf_right : SatE P (En (Ef_right)) := SatE.cons (satf_right) okW
/-! ### legation/formula.Check -/
def lkf_Check_0 : St [.v false [.int .i64], .v false [.sl [.int .i64, .int .i64, .str, .str, .str, .str, .int .i64]], .v false [.int .i64], .v false [.int .i64]] → Prop := fun ⟨⟨(n : Int), _⟩, ⟨(x9 : List (RowE [.int .i64, .int .i64, .str, .str, .str, .str, .int .i64])), _⟩, ⟨(x10 : Int), _⟩, ⟨(x11 : Int), _⟩, _⟩ => x10 = (x9.length : Int) ∧ 0 ≤ x11 ∧ x11 ≤ x10 ∧ x9.length ≤ 256 ∧ 0 ≤ n ∧ n ≤ x11 ∧ allPt x9
def lgf_Check_0 : St [.v false [.int .i64], .v false [.sl [.int .i64, .int .i64, .str, .str, .str, .str, .int .i64]], .v false [.int .i64], .v false [.int .i64]] → Tr (Ex × List SV) := fun ⟨⟨(n : Int), _⟩, ⟨(x9 : List (RowE [.int .i64, .int .i64, .str, .str, .str, .str, .int .i64])), _⟩, ⟨(x10 : Int), _⟩, ⟨(x11 : Int), _⟩, _⟩ => .brP (chkN (x9.drop x11.toNat) n < 0) (.leaf (.ret, [.val (.d (.int .i64 (2)))])) (.leaf (.exit 0, [.val (.d (.int .i64 (chkN (x9.drop x11.toNat) n)))]))
def lmf_Check_0 : St [.v false [.int .i64], .v false [.sl [.int .i64, .int .i64, .str, .str, .str, .str, .int .i64]], .v false [.int .i64], .v false [.int .i64]] → Nat := fun ⟨⟨(n : Int), _⟩, ⟨(x9 : List (RowE [.int .i64, .int .i64, .str, .str, .str, .str, .int .i64])), _⟩, ⟨(x10 : Int), _⟩, ⟨(x11 : Int), _⟩, _⟩ => x9.length - x11.toNat
def lsf_Check_0 : LoopS := mkR [3, 9, 10, 11] [3] [2] [.v false [.int .i64], .v false [.sl [.int .i64, .int .i64, .str, .str, .str, .str, .int .i64]], .v false [.int .i64], .v false [.int .i64]] (fun r => .chk (lkf_Check_0 r) (lgf_Check_0 r))
def Lf_Check : Ls := [(5, lsf_Check_0)]
def Sf_Check := mkS [(false, [.sl [.int .i64, .int .i64, .str, .str, .str, .str, .int .i64]])] fun ⟨⟨(f : List (RowE [.int .i64, .int .i64, .str, .str, .str, .str, .int .i64])), _⟩, _⟩ => .chk (allPt f) (.leaf (.val (.d (.int .i64 (checkS f)))))
theorem ltf_Check_0 (n : Int) (x9 : List (RowE [.int .i64, .int .i64, .str, .str, .str, .str, .int .i64])) (x10 : Int) (x11 : Int) : evRound T (En (Ef_right)) (Ln (Lf_Check)) (loopAt 0 (loops (bodyOf Try.f23))) (lsf_Check_0) [.val (.d (.int .i64 n)), .val (.d (.sl [.int .i64, .int .i64, .str, .str, .str, .str, .int .i64] x9)), .val (.d (.int .i64 x10)), .val (.d (.int .i64 x11))] =
    br (decide (x11 < x10)) (chk ((0 : Int) ≤ x11 ∧ x11 < (↑x9.length : Int)) (chk (szPt (getR ptS x9 x11)) (br (!rightP (getR ptS x9 x11)) (some (Rnd.out Ex.ret [SV.val (AV.d (D.int IntKind.i64 (2 : Int)))])) (br (decide (needsS (getR ptS x9 x11) > n)) (some (Rnd.out Ex.ret [SV.val (AV.d (D.int IntKind.i64 (2 : Int)))])) (some (Rnd.again [SV.val (AV.d (D.int IntKind.i64 (IntKind.i64.wrap (n + IntKind.i64.wrap ((1 : Int) - needsS (getR ptS x9 x11)))))), SV.val (AV.d (D.sl ptS x9)), SV.val (AV.d (D.int IntKind.i64 x10)), SV.val (AV.d (D.int IntKind.i64 (IntKind.i64.wrap (x11 + (1 : Int)))))])))))) (some (Rnd.out (Ex.exit (0 : Nat)) [SV.val (AV.d (D.int IntKind.i64 n))])) := by kernel_rfl
theorem lokf_Check_0 : LoopOK T (En (Ef_right)) (Ln (Lf_Check)) (loopAt 0 (loops (bodyOf Try.f23))) := by
  refine loop_ok (live := [3, 9, 10, 11]) (outs := [3]) (rets := [2]) (ks := [.v false [.int .i64], .v false [.sl [.int .i64, .int .i64, .str, .str, .str, .str, .int .i64]], .v false [.int .i64], .v false [.int .i64]]) (G := lgf_Check_0) (lkf_Check_0) (lmf_Check_0) (by kernel_rfl) ?_
  rintro ⟨⟨(n : Int), _⟩, ⟨(x9 : List (RowE [.int .i64, .int .i64, .str, .str, .str, .str, .int .i64])), _⟩, ⟨(x10 : Int), _⟩, ⟨(x11 : Int), _⟩, _⟩ x hok hx
  refine Leads.of_eq (ltf_Check_0 n x9 x10 x11) ?_
  obtain ⟨e10, h0, h1, hl, hn0, hn1, ha⟩ := hok
  have e10 : x10 = (x9.length : Int) := e10
  subst e10
  obtain ⟨i, rfl⟩ := Int.eq_ofNat_of_zero_le h0
  simp only [lgf_Check_0, Int.toNat_natCast] at hx
  refine Leads.brD (fun lt => Leads.chk ⟨h0, lt⟩ fun _ => ?_) (fun ge => Leads.one (Goes.out ?_))
  · have lt : i < x9.length := by omega
    rw [part_at lt, chkN] at hx
    refine Leads.chk (ha _ (part_mem lt)) fun _ => Leads.brG (fun w => Leads.brD (fun w2 => Leads.one (Goes.out ?_)) (fun w2 => Leads.one ?_)) (fun w => Leads.one (Goes.out ?_))
    · rw [if_pos (Or.inr w2)] at hx
      rw [Out_leaf (Out_pos (by decide) hx)]
    · have w : rightP (getR ptS x9 (i : Int)) = true := w
      rw [if_neg (by rw [w]; intro z; rcases z with z | z; cases z; omega)] at hx
      have b1 := needs_le (getR ptS x9 (i : Int))
      have b2 := rightP_needs w
      rw [wrap64 (x := 1 - needsS (getR ptS x9 (i : Int))) (by omega) (by omega), wrap64 (by omega) (by omega), wrap64 (by omega) (by omega)]
      refine Goes.again (ks := [.v false [.int .i64], .v false [.sl [.int .i64, .int .i64, .str, .str, .str, .str, .int .i64]], .v false [.int .i64], .v false [.int .i64]]) ((n + (1 - needsS (getR ptS x9 (i : Int))), ()), (x9, ()), ((x9.length : Int), ()), ((i : Int) + 1, ()), ()) rfl ?_ ?_ ?_
      · exact ⟨rfl, (by omega : 0 ≤ (i : Int) + 1), (by omega : (i : Int) + 1 ≤ (x9.length : Int)), hl, (by omega : 0 ≤ n + (1 - needsS (getR ptS x9 (i : Int)))), (by omega : n + (1 - needsS (getR ptS x9 (i : Int))) ≤ (i : Int) + 1), ha⟩
      · show x9.length - ((i : Int) + 1).toNat < x9.length - (i : Int).toNat
        simp only [toNat_add1, Int.toNat_natCast]; omega
      · simp only [lgf_Check_0, toNat_add1]; exact hx
    · have w : rightP (getR ptS x9 (i : Int)) = false := w
      rw [if_pos (Or.inl w)] at hx
      rw [Out_leaf (Out_pos (by decide) hx)]
  · rw [List.drop_of_length_le (by omega), chkN] at hx
    rw [Out_leaf (Out_neg (by omega) hx)]
theorem tf_Check (f : List (RowE [.int .i64, .int .i64, .str, .str, .str, .str, .int .i64])) : evF T (En (Ef_right)) (Ln (Lf_Check)) Try.f23 [.d (.sl [.int .i64, .int .i64, .str, .str, .str, .str, .int .i64] f)] =
    br (decide ((↑f.length : Int) > (256 : Int))) (some (SV.val (AV.d (D.int IntKind.i64 (3 : Int))))) (chk (lkf_Check_0 (((0 : Int), ()), (f, ()), ((↑f.length : Int), ()), ((0 : Int), ()), ())) (brP (chkN (List.drop (Int.toNat (0 : Int)) f) (0 : Int) < (0 : Int)) (some (SV.val (AV.d (D.int IntKind.i64 (2 : Int))))) (br (chkN (List.drop (Int.toNat (0 : Int)) f) (0 : Int) != (1 : Int)) (some (SV.val (AV.d (D.int IntKind.i64 (2 : Int))))) (some (SV.val (AV.d (D.int IntKind.i64 (0 : Int)))))))) := by kernel_rfl
theorem satf_Check : Sat P 23 (Sf_Check) := by
  refine sat_mk (LT := Ln (Lf_Check)) hC okf_right mixed Try.func23 (by kernel_rfl) (c := bodyOf Try.f23) (by kernel_rfl) (by kernel_rfl) ?_ (loops1 (by kernel_rfl) (lokf_Check_0))
  rintro ⟨⟨(f : List (RowE [.int .i64, .int .i64, .str, .str, .str, .str, .int .i64])), _⟩, _⟩ sv h
  refine Leads.eq (Leads.of_eq (tf_Check f) ?_)
  obtain ⟨ha, h⟩ := h
  have h := Out_leaf h
  subst h
  refine Leads.brD (fun q => Leads.one ?_) (fun q => Leads.chk ⟨rfl, by decide, by omega, by omega, by decide, by decide, ha⟩ fun _ => Leads.brP (fun w => Leads.one ?_) (fun w => Leads.brN (fun z => Leads.one ?_) (fun z => Leads.one ?_)))
  · rw [checkS, if_pos (by omega)]
  · have w : chkN f 0 < 0 := w
    rw [checkS, if_neg (by omega), if_neg (by omega)]
  · have z : chkN f 0 = 1 := z
    rw [checkS, if_neg (by omega), if_pos z]
  · have z : ¬ chkN f 0 = 1 := z
    rw [checkS, if_neg (by omega), if_neg z]
def Ef_Check : Es := (23, (Sf_Check)) :: Ef_right
theorem okf_Check : SatE P (En (Ef_Check)) := SatE.cons (satf_Check) okf_right
/-! ### legation/formula.Parse -/
def Lf_Parse : Ls := []
def Sf_Parse := mkS [(false, [.sl [.int .i64, .str, .int .i64, .str, .str, .str, .int .i64]]), (false, [.int .i64])] fun ⟨⟨(l : List (RowE [.int .i64, .str, .int .i64, .str, .str, .str, .int .i64])), _⟩, ⟨(at_ : Int), _⟩, _⟩ => .chk (0 ≤ at_ ∧ at_ ≤ l.length → l.length ≤ 900000000000 ∧ allPt (pfW 0 (l, at_, [], false, ())).2.2.1) (.leaf (.val (.tup [.d (.sl ptS (parseS l at_).1), .d (.int .i64 (parseS l at_).2.1), .d (.int .i64 (parseS l at_).2.2)])))
theorem tf_Parse (l : List (RowE [.int .i64, .str, .int .i64, .str, .str, .str, .int .i64])) (at_ : Int) : evF T (En (Ef_Check)) (Ln (Lf_Parse)) Try.f9 [.d (.sl [.int .i64, .str, .int .i64, .str, .str, .str, .int .i64] l), .d (.int .i64 at_)] =
    br (decide (at_ < (0 : Int))) (some (SV.val (AV.tup [AV.d (D.sl ptS []), AV.d (D.int IntKind.i64 (0 : Int)), AV.d (D.int IntKind.i64 (1 : Int))]))) (br (decide (at_ > (↑l.length : Int))) (some (SV.val (AV.tup [AV.d (D.sl ptS []), AV.d (D.int IntKind.i64 (0 : Int)), AV.d (D.int IntKind.i64 (1 : Int))]))) (chk (szP (l, at_, [], CE.dflt Sh.bool, ()) ∧ (0 : Int) ≤ (0 : Int) ∧ (0 : Int) ≤ (5 : Int)) (br (pfW (0 : Int) (l, at_, [], CE.dflt Sh.bool, ())).snd.snd.snd.fst (some (SV.val (AV.tup [AV.d (D.sl ptS []), AV.d (D.int IntKind.i64 (0 : Int)), AV.d (D.int IntKind.i64 (2 : Int))]))) (chk (allPt (pfW (0 : Int) (l, at_, [], CE.dflt Sh.bool, ())).snd.snd.fst) (br (checkS (pfW (0 : Int) (l, at_, [], CE.dflt Sh.bool, ())).snd.snd.fst != (0 : Int)) (some (SV.val (AV.tup [AV.d (D.sl ptS []), AV.d (D.int IntKind.i64 (0 : Int)), AV.d (D.int IntKind.i64 (checkS (pfW (0 : Int) (l, at_, [], CE.dflt Sh.bool, ())).snd.snd.fst))]))) (some (SV.val (AV.tup [AV.d (D.sl ptS (pfW (0 : Int) (l, at_, [], CE.dflt Sh.bool, ())).snd.snd.fst), AV.d (D.int IntKind.i64 (pfW (0 : Int) (l, at_, [], CE.dflt Sh.bool, ())).snd.fst), AV.d (D.int IntKind.i64 (0 : Int))])))))))) := by kernel_rfl
theorem satf_Parse : Sat P 9 (Sf_Parse) := by
  refine sat_mk (LT := Ln (Lf_Parse)) hC okf_Check mixed Try.func9 (by kernel_rfl) (c := bodyOf Try.f9) (by kernel_rfl) (by kernel_rfl) ?_ (loops0 (by kernel_rfl))
  rintro ⟨⟨(l : List (RowE [.int .i64, .str, .int .i64, .str, .str, .str, .int .i64])), _⟩, ⟨(at_ : Int), _⟩, _⟩ sv h
  refine Leads.eq (Leads.of_eq (tf_Parse l at_) ?_)
  obtain ⟨hc, h⟩ := h
  have h := Out_leaf h
  subst h
  refine Leads.brD (fun q => Leads.one ?_) (fun q => Leads.brD (fun q2 => Leads.one ?_) (fun q2 => ?_))
  · have q : at_ < 0 := q
    rw [parseS, if_pos (.inl q)]
  · have q2 : (l.length : Int) < at_ := q2
    rw [parseS, if_pos (.inr q2)]
  · have q : ¬ at_ < 0 := q
    have q2 : ¬ (l.length : Int) < at_ := q2
    have hn : ¬ (at_ < 0 ∨ (l.length : Int) < at_) := fun z => z.elim q q2
    obtain ⟨hl, ha⟩ := hc ⟨by omega, by omega⟩
    have hs : szP (l, at_, [], false, ()) := ⟨by show 0 ≤ at_; omega, by show at_ ≤ (l.length : Int); omega, by show ((0 : Nat) : Int) + (l.length : Int) ≤ 999999999999 + at_; omega, by show (l.length : Int) ≤ _; omega⟩
    refine Leads.chk ⟨hs, by decide, by decide⟩ fun _ => Leads.br (fun b => Leads.one ?_) (fun b => Leads.chk ha fun _ => Leads.brN (fun c => Leads.one ?_) (fun c => Leads.one ?_))
    · have b : (pfW 0 (l, at_, [], false, ())).2.2.2.1 = true := b
      rw [parseS, if_neg hn, if_pos b]
    · have b : ¬ (pfW 0 (l, at_, [], false, ())).2.2.2.1 = true := by rw [show (pfW 0 (l, at_, [], false, ())).2.2.2.1 = false from b]; decide
      have c : checkS (pfW 0 (l, at_, [], false, ())).2.2.1 = 0 := c
      rw [parseS, if_neg hn, if_neg b, if_pos c]; rfl
    · have b : ¬ (pfW 0 (l, at_, [], false, ())).2.2.2.1 = true := by rw [show (pfW 0 (l, at_, [], false, ())).2.2.2.1 = false from b]; decide
      have c : ¬ checkS (pfW 0 (l, at_, [], false, ())).2.2.1 = 0 := c
      rw [parseS, if_neg hn, if_neg b, if_neg c]; rfl
def Ef_Parse : Es := (9, (Sf_Parse)) :: Ef_Check
theorem okf_Parse : SatE P (En (Ef_Parse)) := SatE.cons (satf_Parse) okf_Check
/-! ### legation/formula.From -/
def lkf_From_0 : St [.v false [.sl [.int .i64, .int .i64, .str, .str, .str, .str, .int .i64]], .v false [.int .i64], .v false [.int .i64]] → Prop := fun ⟨⟨(f : List (RowE [.int .i64, .int .i64, .str, .str, .str, .str, .int .i64])), _⟩, ⟨(i : Int), _⟩, ⟨(lacks : Int), _⟩, _⟩ => 0 ≤ i ∧ i < f.length ∧ f.length ≤ 256 ∧ -(2 * ((f.length : Int) - i)) ≤ lacks ∧ lacks ≤ 16 * ((f.length : Int) - i) ∧ 0 ≤ fromN f i.toNat lacks
def lgf_From_0 : St [.v false [.sl [.int .i64, .int .i64, .str, .str, .str, .str, .int .i64]], .v false [.int .i64], .v false [.int .i64]] → Tr (Ex × List SV) := fun ⟨⟨(f : List (RowE [.int .i64, .int .i64, .str, .str, .str, .str, .int .i64])), _⟩, ⟨(i : Int), _⟩, ⟨(lacks : Int), _⟩, _⟩ => .leaf (.exit 0, [.val (.d (.int .i64 (fromN f i.toNat lacks)))])
def lmf_From_0 : St [.v false [.sl [.int .i64, .int .i64, .str, .str, .str, .str, .int .i64]], .v false [.int .i64], .v false [.int .i64]] → Nat := fun ⟨⟨(f : List (RowE [.int .i64, .int .i64, .str, .str, .str, .str, .int .i64])), _⟩, ⟨(i : Int), _⟩, ⟨(lacks : Int), _⟩, _⟩ => i.toNat
def lsf_From_0 : LoopS := mkR [0, 1, 7] [1] [] [.v false [.sl [.int .i64, .int .i64, .str, .str, .str, .str, .int .i64]], .v false [.int .i64], .v false [.int .i64]] (fun r => .chk (lkf_From_0 r) (lgf_From_0 r))
def Lf_From : Ls := [(7, lsf_From_0)]
def Sf_From := mkS [(false, [.sl [.int .i64, .int .i64, .str, .str, .str, .str, .int .i64]]), (false, [.int .i64])] fun ⟨⟨(f : List (RowE [.int .i64, .int .i64, .str, .str, .str, .str, .int .i64])), _⟩, ⟨(i : Int), _⟩, _⟩ => .chk (allPt f ∧ 0 ≤ (fromS f i).1) (.leaf (.val (.tup [.d (.int .i64 (fromS f i).1), .d (.int .i64 (fromS f i).2)])))
theorem ltf_From_0 (f : List (RowE [.int .i64, .int .i64, .str, .str, .str, .str, .int .i64])) (i : Int) (lacks : Int) : evRound T (En (Ef_Parse)) (Ln (Lf_From)) (loopAt 0 (loops (bodyOf Try.f11))) (lsf_From_0) [.val (.d (.sl [.int .i64, .int .i64, .str, .str, .str, .str, .int .i64] f)), .val (.d (.int .i64 i)), .val (.d (.int .i64 lacks))] =
    chk ((0 : Int) ≤ i ∧ i < (↑f.length : Int)) (br (IntKind.i64.wrap (lacks + IntKind.i64.wrap (needsS (getR ptS f i) - (1 : Int))) == (0 : Int)) (some (Rnd.out (Ex.exit (0 : Nat)) [SV.val (AV.d (D.int IntKind.i64 i))])) (some (Rnd.again [SV.val (AV.d (D.sl ptS f)), SV.val (AV.d (D.int IntKind.i64 (IntKind.i64.wrap (i - (1 : Int))))), SV.val (AV.d (D.int IntKind.i64 (IntKind.i64.wrap (lacks + IntKind.i64.wrap (needsS (getR ptS f i) - (1 : Int))))))]))) := by kernel_rfl
theorem lokf_From_0 : LoopOK T (En (Ef_Parse)) (Ln (Lf_From)) (loopAt 0 (loops (bodyOf Try.f11))) := by
  refine loop_ok (live := [0, 1, 7]) (outs := [1]) (rets := []) (ks := [.v false [.sl [.int .i64, .int .i64, .str, .str, .str, .str, .int .i64]], .v false [.int .i64], .v false [.int .i64]]) (G := lgf_From_0) (lkf_From_0) (lmf_From_0) (by kernel_rfl) ?_
  rintro ⟨⟨(f : List (RowE [.int .i64, .int .i64, .str, .str, .str, .str, .int .i64])), _⟩, ⟨(i : Int), _⟩, ⟨(lacks : Int), _⟩, _⟩ x hok hx
  refine Leads.of_eq (ltf_From_0 f i lacks) ?_
  obtain ⟨h0, h1, hl, k0, k1, hf⟩ := hok
  have hx := Out_leaf hx
  subst hx
  obtain ⟨i, rfl⟩ := Int.eq_ofNat_of_zero_le h0
  simp only [Int.toNat_natCast] at hf ⊢
  have b1 := needs_le (getR ptS f (i : Int))
  have b2 := needs_ge (getR ptS f (i : Int))
  rw [wrap64 (x := needsS (getR ptS f (i : Int)) - 1) (by omega) (by omega), wrap64 (x := lacks + _) (by omega) (by omega), wrap64 (x := (i : Int) - 1) (by omega) (by omega)]
  refine Leads.chk ⟨h0, h1⟩ fun _ => Leads.brE (fun w => Leads.one (Goes.out ?_)) (fun w => Leads.one ?_)
  · have w : lacks + (needsS (getR ptS f (i : Int)) - 1) = 0 := w
    cases i with
    | zero =>
      have w : lacks + (needsS (getR ptS f 0) - 1) = 0 := w
      rw [fromN, if_pos w]; rfl
    | succ i => rw [fromN, if_pos w]
  · have w : ¬ lacks + (needsS (getR ptS f (i : Int)) - 1) = 0 := w
    cases i with
    | zero =>
      have w : ¬ lacks + (needsS (getR ptS f 0) - 1) = 0 := w
      rw [fromN, if_neg w] at hf; exact absurd hf (by decide)
    | succ i =>
      rw [fromN, if_neg w] at hf
      have ei : ((i + 1 : Nat) : Int) - 1 = (i : Int) := by omega
      rw [fromN, if_neg w, ei]
      refine Goes.again (ks := [.v false [.sl [.int .i64, .int .i64, .str, .str, .str, .str, .int .i64]], .v false [.int .i64], .v false [.int .i64]]) ((f, ()), ((i : Int), ()), (lacks + (needsS (getR ptS f ((i + 1 : Nat) : Int)) - 1), ()), ()) rfl ?_ ?_ ?_
      · refine ⟨Int.natCast_nonneg i, (by omega : (i : Int) < f.length), hl, (?_ : _ ≤ lacks + _), (?_ : lacks + _ ≤ _), hf⟩
        · show -(2 * ((f.length : Int) - (i : Int))) ≤ _
          omega
        · show _ ≤ 16 * ((f.length : Int) - (i : Int))
          omega
      · show (i : Int).toNat < ((i + 1 : Nat) : Int).toNat
        omega
      · rfl
theorem tf_From (f : List (RowE [.int .i64, .int .i64, .str, .str, .str, .str, .int .i64])) (i : Int) : evF T (En (Ef_Parse)) (Ln (Lf_From)) Try.f11 [.d (.sl [.int .i64, .int .i64, .str, .str, .str, .str, .int .i64] f), .d (.int .i64 i)] =
    chk (allPt f) (br (checkS f != (0 : Int)) (some (SV.val (AV.tup [AV.d (D.int IntKind.i64 (0 : Int)), AV.d (D.int IntKind.i64 (checkS f))]))) (br (decide (i < (0 : Int))) (some (SV.val (AV.tup [AV.d (D.int IntKind.i64 (0 : Int)), AV.d (D.int IntKind.i64 (1 : Int))]))) (br (decide (i ≥ (↑f.length : Int))) (some (SV.val (AV.tup [AV.d (D.int IntKind.i64 (0 : Int)), AV.d (D.int IntKind.i64 (1 : Int))]))) (chk (lkf_From_0 ((f, ()), (i, ()), ((1 : Int), ()), ())) (some (SV.val (AV.tup [AV.d (D.int IntKind.i64 (fromN f i.toNat (1 : Int))), AV.d (D.int IntKind.i64 (0 : Int))]))))))) := by kernel_rfl
theorem satf_From : Sat P 11 (Sf_From) := by
  refine sat_mk (LT := Ln (Lf_From)) hC okf_Parse mixed Try.func11 (by kernel_rfl) (c := bodyOf Try.f11) (by kernel_rfl) (by kernel_rfl) ?_ (loops1 (by kernel_rfl) (lokf_From_0))
  rintro ⟨⟨(f : List (RowE [.int .i64, .int .i64, .str, .str, .str, .str, .int .i64])), _⟩, ⟨(i : Int), _⟩, _⟩ sv h
  refine Leads.eq (Leads.of_eq (tf_From f i) ?_)
  obtain ⟨⟨ha, hf⟩, h⟩ := h
  have h := Out_leaf h
  subst h
  refine Leads.chk ha fun _ => Leads.brN (fun c => Leads.brD (fun q => Leads.one ?_) (fun q => Leads.brD (fun q2 => Leads.one ?_) (fun q2 => ?_))) (fun c => Leads.one ?_)
  · have q : i < 0 := q
    have c : checkS f = 0 := c
    rw [fromS, if_pos c, if_pos (.inl q)]
  · have q2 : (f.length : Int) ≤ i := q2
    have c : checkS f = 0 := c
    rw [fromS, if_pos c, if_pos (.inr q2)]
  · have q : ¬ i < 0 := q
    have q2 : ¬ (f.length : Int) ≤ i := q2
    have c : checkS f = 0 := c
    have hn : ¬ (i < 0 ∨ (f.length : Int) ≤ i) := fun z => z.elim q q2
    rw [fromS, if_pos c, if_neg hn] at hf ⊢
    have hl := checkS_len c
    exact Leads.chk ⟨by omega, by omega, hl, by omega, by omega, hf⟩ fun _ => Leads.one rfl
  · have c : ¬ checkS f = 0 := c
    rw [fromS, if_neg c]
def Ef_From : Es := (11, (Sf_From)) :: Ef_Parse
theorem okf_From : SatE P (En (Ef_From)) := SatE.cons (satf_From) okf_Parse
end Go.Proofs.Ytoopcfjmmhmamaa.T6
