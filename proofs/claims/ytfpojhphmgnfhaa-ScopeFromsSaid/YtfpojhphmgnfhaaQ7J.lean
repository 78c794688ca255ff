/- Part of a proof of the seat's statements: no statement by itself. -/
import Derived.Test.YtfpojhphmgnfhaaQ7I
import Derived.Test.YtfpojhphmgnfhaaSpQ2
section
set_option maxRecDepth 100000
open Go.Proofs.Ytfpojhphmgnfhaa.Lg Go Go.Proofs.Ytfpojhphmgnfhaa.Sp
open Go.Proofs
namespace Go.Proofs.Ytfpojhphmgnfhaa.T7


/-! ### legation/formula.right -/
def Lf_right : Ls := []
def Sf_right := mkS [(true, ptS)] fun ⟨(p : RowE ptS), _⟩ => .chk (szPt p) (.leaf (.val (.d (.bool (rightP p)))))
theorem tf_right (p : RowE ptS) : evF T (En (ENeeds)) (Ln (Lf_right)) Try.f41 [.agg (rowD ptS p)] =
    br (p.fst == (1 : Int)) (chk (List.length p.snd.snd.fst ≤ Big ∧ List.length p.snd.snd.snd.fst ≤ Big ∧ List.length p.snd.snd.snd.snd.fst ≤ Big) (br ((if right p.snd.fst p.snd.snd.fst p.snd.snd.snd.fst p.snd.snd.snd.snd.fst = true then (0 : Int) else (2 : Int)) != (0 : Int)) (some (SV.val (AV.d (D.bool false)))) (br (p.snd.fst != (1 : Int)) (br (p.snd.fst != (2 : Int)) (some (SV.val (AV.d (D.bool false)))) (br (decide (needsS p ≥ (0 : Int))) (some (SV.val (AV.d (D.bool (p.fst == p.fst && (CE.dflt (Sh.int IntKind.i64) == CE.dflt (Sh.int IntKind.i64) && (CE.dflt Sh.str == CE.dflt Sh.str && (CE.dflt Sh.str == CE.dflt Sh.str && (CE.dflt Sh.str == CE.dflt Sh.str && (p.snd.snd.snd.snd.snd.fst == CE.dflt Sh.str && p.snd.snd.snd.snd.snd.snd.fst == CE.dflt (Sh.int IntKind.i64))))))))))) (some (SV.val (AV.d (D.bool false)))))) (br (decide (needsS p ≥ (0 : Int))) (some (SV.val (AV.d (D.bool (p.fst == p.fst && (CE.dflt (Sh.int IntKind.i64) == CE.dflt (Sh.int IntKind.i64) && (CE.dflt Sh.str == CE.dflt Sh.str && (CE.dflt Sh.str == CE.dflt Sh.str && (CE.dflt Sh.str == CE.dflt Sh.str && (p.snd.snd.snd.snd.snd.fst == CE.dflt Sh.str && p.snd.snd.snd.snd.snd.snd.fst == CE.dflt (Sh.int IntKind.i64))))))))))) (some (SV.val (AV.d (D.bool false)))))))) (br (p.fst == (2 : Int)) (chk (List.length p.snd.snd.snd.snd.snd.fst ≤ Big) (br (!isName p.snd.snd.snd.snd.snd.fst) (some (SV.val (AV.d (D.bool false)))) (br (decide (needsS p ≥ (0 : Int))) (some (SV.val (AV.d (D.bool (p.fst == p.fst && (p.snd.fst == CE.dflt (Sh.int IntKind.i64) && (p.snd.snd.fst == CE.dflt Sh.str && (p.snd.snd.snd.fst == CE.dflt Sh.str && (p.snd.snd.snd.snd.fst == CE.dflt Sh.str && ([] == CE.dflt Sh.str && p.snd.snd.snd.snd.snd.snd.fst == CE.dflt (Sh.int IntKind.i64))))))))))) (some (SV.val (AV.d (D.bool false))))))) (br (p.fst == (3 : Int)) (chk (List.length p.snd.snd.snd.snd.snd.fst ≤ Big) (br (!isName p.snd.snd.snd.snd.snd.fst) (some (SV.val (AV.d (D.bool false)))) (br (decide (needsS p ≥ (0 : Int))) (some (SV.val (AV.d (D.bool (p.fst == p.fst && (p.snd.fst == CE.dflt (Sh.int IntKind.i64) && (p.snd.snd.fst == CE.dflt Sh.str && (p.snd.snd.snd.fst == CE.dflt Sh.str && (p.snd.snd.snd.snd.fst == CE.dflt Sh.str && ([] == CE.dflt Sh.str && p.snd.snd.snd.snd.snd.snd.fst == CE.dflt (Sh.int IntKind.i64))))))))))) (some (SV.val (AV.d (D.bool false))))))) (br (p.fst == (26 : Int)) (br (decide (needsS p ≥ (0 : Int))) (some (SV.val (AV.d (D.bool (p.fst == p.fst && (p.snd.fst == CE.dflt (Sh.int IntKind.i64) && (p.snd.snd.fst == CE.dflt Sh.str && (p.snd.snd.snd.fst == CE.dflt Sh.str && (p.snd.snd.snd.snd.fst == CE.dflt Sh.str && (p.snd.snd.snd.snd.snd.fst == CE.dflt Sh.str && (0 : Int) == CE.dflt (Sh.int IntKind.i64))))))))))) (some (SV.val (AV.d (D.bool false))))) (br (decide (needsS p ≥ (0 : Int))) (some (SV.val (AV.d (D.bool (p.fst == p.fst && (p.snd.fst == CE.dflt (Sh.int IntKind.i64) && (p.snd.snd.fst == CE.dflt Sh.str && (p.snd.snd.snd.fst == CE.dflt Sh.str && (p.snd.snd.snd.snd.fst == CE.dflt Sh.str && (p.snd.snd.snd.snd.snd.fst == CE.dflt Sh.str && p.snd.snd.snd.snd.snd.snd.fst == CE.dflt (Sh.int IntKind.i64))))))))))) (some (SV.val (AV.d (D.bool false)))))))) := by kernel_rfl
theorem satf_right : Sat P 41 (Sf_right) := by
  refine sat_mk (LT := Ln (Lf_right)) hC okNeeds mixed Try.func41 (by kernel_rfl) (c := bodyOf Try.f41) (by kernel_rfl) (by kernel_rfl) ?_ (loops0 (by kernel_rfl))
  rintro ⟨(p : RowE ptS), _⟩ sv h
  refine Leads.eq (Leads.of_eq (tf_right p) ?_)
  obtain ⟨⟨s1, s2, s3, s4⟩, h⟩ := h
  have h := Out_leaf h
  subst h
  obtain ⟨(k : Int), (tk : Int), (a : List UInt8), (t : List UInt8), (l : List UInt8), (nm : List UInt8), (n : Int), _⟩ := p
  dsimp only at s1 s2 s3 s4 ⊢
  have hB := Big_eq
  have h0 : ∀ z : Int, (z = 1 ∨ z = 2 ∨ z = 3) → ∀ b, needsS (z, b) = 0 := fun z hz b => by rw [needsS, if_pos (by show 1 ≤ z ∧ z ≤ 3; omega)]
  have d1 : CE.dflt Sh.str = ([] : List UInt8) := rfl
  have d2 : CE.dflt (Sh.int .i64) = (0 : Int) := rfl
  refine Leads.brE (fun q => ?_) fun q1 => Leads.brE (fun q => ?_) fun q2 => Leads.brE (fun q => ?_) fun q3 => Leads.brE (fun q => ?_) fun q26 => ?_
  · have q : k = 1 := q
    subst q
    rw [h0 1 (.inl rfl), d1, d2]
    repeat' (first | refine Leads.brD (fun _ => ?_) (fun _ => ?_) | refine Leads.brE (fun _ => ?_) (fun _ => ?_) | refine Leads.brN (fun _ => ?_) (fun _ => ?_) | refine Leads.brM (fun _ => ?_) (fun _ => ?_) | refine Leads.brG (fun _ => ?_) (fun _ => ?_) | refine Leads.br (fun _ => ?_) (fun _ => ?_) | refine Leads.chk ?_ (fun _ => ?_) | refine Leads.one ?_ | refine Leads.brP (fun _ => ?_) (fun _ => ?_))
    all_goals first | omega | skip
    all_goals (refine congrArg (fun z => SV.val (.d (.bool z))) ?_; rw [Bool.eq_iff_iff])
    all_goals simp_all [rightP]
  · have q : k = 2 := q
    subst q
    rw [h0 2 (.inr (.inl rfl)), d1, d2]
    repeat' (first | refine Leads.brD (fun _ => ?_) (fun _ => ?_) | refine Leads.brE (fun _ => ?_) (fun _ => ?_) | refine Leads.brN (fun _ => ?_) (fun _ => ?_) | refine Leads.brM (fun _ => ?_) (fun _ => ?_) | refine Leads.brG (fun _ => ?_) (fun _ => ?_) | refine Leads.br (fun _ => ?_) (fun _ => ?_) | refine Leads.chk ?_ (fun _ => ?_) | refine Leads.one ?_ | refine Leads.brP (fun _ => ?_) (fun _ => ?_))
    all_goals first | omega | skip
    all_goals (refine congrArg (fun z => SV.val (.d (.bool z))) ?_; rw [Bool.eq_iff_iff])
    all_goals simp_all [rightP, noTm, and_assoc]
  · have q : k = 3 := q
    subst q
    rw [h0 3 (.inr (.inr rfl)), d1, d2]
    repeat' (first | refine Leads.brD (fun _ => ?_) (fun _ => ?_) | refine Leads.brE (fun _ => ?_) (fun _ => ?_) | refine Leads.brN (fun _ => ?_) (fun _ => ?_) | refine Leads.brM (fun _ => ?_) (fun _ => ?_) | refine Leads.brG (fun _ => ?_) (fun _ => ?_) | refine Leads.br (fun _ => ?_) (fun _ => ?_) | refine Leads.chk ?_ (fun _ => ?_) | refine Leads.one ?_ | refine Leads.brP (fun _ => ?_) (fun _ => ?_))
    all_goals first | omega | skip
    all_goals (refine congrArg (fun z => SV.val (.d (.bool z))) ?_; rw [Bool.eq_iff_iff])
    all_goals simp_all [rightP, noTm, and_assoc]
  · have q : k = 26 := q
    subst q
    rw [d1, d2]
    refine Leads.brD (fun w => Leads.one ?_) (fun w => Leads.one ?_)
    all_goals (refine congrArg (fun z => SV.val (.d (.bool z))) ?_; rw [Bool.eq_iff_iff])
    · have w : 0 ≤ needsS (26, tk, a, t, l, nm, n, ()) := w
      simp [rightP, noTm, w, and_assoc]
    · have w : ¬ 0 ≤ needsS (26, tk, a, t, l, nm, n, ()) := w
      simp [rightP, w]
  · have q1 : ¬ k = 1 := q1
    have q2 : ¬ k = 2 := q2
    have q3 : ¬ k = 3 := q3
    have q26 : ¬ k = 26 := q26
    rw [d1, d2]
    refine Leads.brD (fun w => Leads.one ?_) (fun w => Leads.one ?_)
    all_goals (refine congrArg (fun z => SV.val (.d (.bool z))) ?_; rw [Bool.eq_iff_iff])
    · have w : 0 ≤ needsS (k, tk, a, t, l, nm, n, ()) := w
      simp [rightP, noTm, w, q1, q2, q3, q26, and_assoc]
    · have w : ¬ 0 ≤ needsS (k, tk, a, t, l, nm, n, ()) := w
      simp [rightP, w, q1, q2, q3]
def Ef_right : Es := (41, (Sf_right)) :: ENeeds
theorem okf_right : SatE P (En (Ef_right)) := SatE.cons (satf_right) okNeeds
/-! ### legation/formula.Check -/
def lkf_Check_0 : St [.v false [.int .i64], .v false [.sl [.int .i64, .int .i64, .str, .str, .str, .str, .int .i64]], .v false [.int .i64], .v false [.int .i64]] → Prop := fun ⟨⟨(n : Int), _⟩, ⟨(x9 : List (RowE [.int .i64, .int .i64, .str, .str, .str, .str, .int .i64])), _⟩, ⟨(x10 : Int), _⟩, ⟨(x11 : Int), _⟩, _⟩ => x10 = (x9.length : Int) ∧ 0 ≤ x11 ∧ x11 ≤ x10 ∧ x9.length ≤ 256 ∧ 0 ≤ n ∧ n ≤ x11 ∧ allPt x9
def lgf_Check_0 : St [.v false [.int .i64], .v false [.sl [.int .i64, .int .i64, .str, .str, .str, .str, .int .i64]], .v false [.int .i64], .v false [.int .i64]] → Tr (Ex × List SV) := fun ⟨⟨(n : Int), _⟩, ⟨(x9 : List (RowE [.int .i64, .int .i64, .str, .str, .str, .str, .int .i64])), _⟩, ⟨(x10 : Int), _⟩, ⟨(x11 : Int), _⟩, _⟩ => .brP (chkN (x9.drop x11.toNat) n < 0) (.leaf (.ret, [.val (.d (.int .i64 (2)))])) (.leaf (.exit 0, [.val (.d (.int .i64 (chkN (x9.drop x11.toNat) n)))]))
def lmf_Check_0 : St [.v false [.int .i64], .v false [.sl [.int .i64, .int .i64, .str, .str, .str, .str, .int .i64]], .v false [.int .i64], .v false [.int .i64]] → Nat := fun ⟨⟨(n : Int), _⟩, ⟨(x9 : List (RowE [.int .i64, .int .i64, .str, .str, .str, .str, .int .i64])), _⟩, ⟨(x10 : Int), _⟩, ⟨(x11 : Int), _⟩, _⟩ => x9.length - x11.toNat
def lsf_Check_0 : LoopS := mkR [3, 9, 10, 11] [3] [2] [.v false [.int .i64], .v false [.sl [.int .i64, .int .i64, .str, .str, .str, .str, .int .i64]], .v false [.int .i64], .v false [.int .i64]] (fun r => .chk (lkf_Check_0 r) (lgf_Check_0 r))
def Lf_Check : Ls := [(5, lsf_Check_0)]
def Sf_Check := mkS [(false, [.sl [.int .i64, .int .i64, .str, .str, .str, .str, .int .i64]])] fun ⟨⟨(f : List (RowE [.int .i64, .int .i64, .str, .str, .str, .str, .int .i64])), _⟩, _⟩ => .chk (allPt f) (.leaf (.val (.d (.int .i64 (checkS f)))))
theorem ltf_Check_0 (n : Int) (x9 : List (RowE [.int .i64, .int .i64, .str, .str, .str, .str, .int .i64])) (x10 : Int) (x11 : Int) : evRound T (En (Ef_right)) (Ln (Lf_Check)) (loopAt 0 (loops (bodyOf Try.f23))) (lsf_Check_0) [.val (.d (.int .i64 n)), .val (.d (.sl [.int .i64, .int .i64, .str, .str, .str, .str, .int .i64] x9)), .val (.d (.int .i64 x10)), .val (.d (.int .i64 x11))] =
    br (decide (x11 < x10)) (chk ((0 : Int) ≤ x11 ∧ x11 < (↑x9.length : Int)) (chk (szPt (getR ptS x9 x11)) (br (!rightP (getR ptS x9 x11)) (some (Rnd.out Ex.ret [SV.val (AV.d (D.int IntKind.i64 (2 : Int)))])) (br (decide (needsS (getR ptS x9 x11) > n)) (some (Rnd.out Ex.ret [SV.val (AV.d (D.int IntKind.i64 (2 : Int)))])) (some (Rnd.again [SV.val (AV.d (D.int IntKind.i64 (IntKind.i64.wrap (n + IntKind.i64.wrap ((1 : Int) - needsS (getR ptS x9 x11)))))), SV.val (AV.d (D.sl ptS x9)), SV.val (AV.d (D.int IntKind.i64 x10)), SV.val (AV.d (D.int IntKind.i64 (IntKind.i64.wrap (x11 + (1 : Int)))))])))))) (some (Rnd.out (Ex.exit (0 : Nat)) [SV.val (AV.d (D.int IntKind.i64 n))])) := by kernel_rfl
theorem lokf_Check_0 : LoopOK T (En (Ef_right)) (Ln (Lf_Check)) (loopAt 0 (loops (bodyOf Try.f23))) := by
  refine loop_ok (live := [3, 9, 10, 11]) (outs := [3]) (rets := [2]) (ks := [.v false [.int .i64], .v false [.sl [.int .i64, .int .i64, .str, .str, .str, .str, .int .i64]], .v false [.int .i64], .v false [.int .i64]]) (G := lgf_Check_0) (lkf_Check_0) (lmf_Check_0) (by kernel_rfl) ?_
  rintro ⟨⟨(n : Int), _⟩, ⟨(x9 : List (RowE [.int .i64, .int .i64, .str, .str, .str, .str, .int .i64])), _⟩, ⟨(x10 : Int), _⟩, ⟨(x11 : Int), _⟩, _⟩ x hok hx
  refine Leads.of_eq (ltf_Check_0 n x9 x10 x11) ?_
  obtain ⟨e10, h0, h1, hl, hn0, hn1, ha⟩ := hok
  have e10 : x10 = (x9.length : Int) := e10
  subst e10
  obtain ⟨i, rfl⟩ := Int.eq_ofNat_of_zero_le h0
  simp only [lgf_Check_0, Int.toNat_natCast] at hx
  refine Leads.brD (fun lt => Leads.chk ⟨h0, lt⟩ fun _ => ?_) (fun ge => Leads.one (Goes.out ?_))
  · have lt : i < x9.length := by omega
    rw [part_at lt, chkN] at hx
    refine Leads.chk (ha _ (part_mem lt)) fun _ => Leads.brG (fun w => Leads.brD (fun w2 => Leads.one (Goes.out ?_)) (fun w2 => Leads.one ?_)) (fun w => Leads.one (Goes.out ?_))
    · rw [if_pos (Or.inr w2)] at hx
      rw [Out_leaf (Out_pos (by decide) hx)]
    · have w : rightP (getR ptS x9 (i : Int)) = true := w
      rw [if_neg (by rw [w]; intro z; rcases z with z | z; cases z; omega)] at hx
      have b1 := needs_le (getR ptS x9 (i : Int))
      have b2 := rightP_needs w
      rw [wrap64 (x := 1 - needsS (getR ptS x9 (i : Int))) (by omega) (by omega), wrap64 (by omega) (by omega), wrap64 (by omega) (by omega)]
      refine Goes.again (ks := [.v false [.int .i64], .v false [.sl [.int .i64, .int .i64, .str, .str, .str, .str, .int .i64]], .v false [.int .i64], .v false [.int .i64]]) ((n + (1 - needsS (getR ptS x9 (i : Int))), ()), (x9, ()), ((x9.length : Int), ()), ((i : Int) + 1, ()), ()) rfl ?_ ?_ ?_
      · exact ⟨rfl, (by omega : 0 ≤ (i : Int) + 1), (by omega : (i : Int) + 1 ≤ (x9.length : Int)), hl, (by omega : 0 ≤ n + (1 - needsS (getR ptS x9 (i : Int)))), (by omega : n + (1 - needsS (getR ptS x9 (i : Int))) ≤ (i : Int) + 1), ha⟩
      · show x9.length - ((i : Int) + 1).toNat < x9.length - (i : Int).toNat
        simp only [toNat_add1, Int.toNat_natCast]; omega
      · simp only [lgf_Check_0, toNat_add1]; exact hx
    · have w : rightP (getR ptS x9 (i : Int)) = false := w
      rw [if_pos (Or.inl w)] at hx
      rw [Out_leaf (Out_pos (by decide) hx)]
  · rw [List.drop_of_length_le (by omega), chkN] at hx
    rw [Out_leaf (Out_neg (by omega) hx)]
theorem tf_Check (f : List (RowE [.int .i64, .int .i64, .str, .str, .str, .str, .int .i64])) : evF T (En (Ef_right)) (Ln (Lf_Check)) Try.f23 [.d (.sl [.int .i64, .int .i64, .str, .str, .str, .str, .int .i64] f)] =
    br (decide ((↑f.length : Int) > (256 : Int))) (some (SV.val (AV.d (D.int IntKind.i64 (3 : Int))))) (chk (lkf_Check_0 (((0 : Int), ()), (f, ()), ((↑f.length : Int), ()), ((0 : Int), ()), ())) (brP (chkN (List.drop (Int.toNat (0 : Int)) f) (0 : Int) < (0 : Int)) (some (SV.val (AV.d (D.int IntKind.i64 (2 : Int))))) (br (chkN (List.drop (Int.toNat (0 : Int)) f) (0 : Int) != (1 : Int)) (some (SV.val (AV.d (D.int IntKind.i64 (2 : Int))))) (some (SV.val (AV.d (D.int IntKind.i64 (0 : Int)))))))) := by kernel_rfl
theorem satf_Check : Sat P 23 (Sf_Check) := by
  refine sat_mk (LT := Ln (Lf_Check)) hC okf_right mixed Try.func23 (by kernel_rfl) (c := bodyOf Try.f23) (by kernel_rfl) (by kernel_rfl) ?_ (loops1 (by kernel_rfl) (lokf_Check_0))
  rintro ⟨⟨(f : List (RowE [.int .i64, .int .i64, .str, .str, .str, .str, .int .i64])), _⟩, _⟩ sv h
  refine Leads.eq (Leads.of_eq (tf_Check f) ?_)
  obtain ⟨ha, h⟩ := h
  have h := Out_leaf h
  subst h
  refine Leads.brD (fun q => Leads.one ?_) (fun q => Leads.chk ⟨rfl, by decide, by omega, by omega, by decide, by decide, ha⟩ fun _ => Leads.brP (fun w => Leads.one ?_) (fun w => Leads.brN (fun z => Leads.one ?_) (fun z => Leads.one ?_)))
  · rw [checkS, if_pos (by omega)]
  · have w : chkN f 0 < 0 := w
    rw [checkS, if_neg (by omega), if_neg (by omega)]
  · have z : chkN f 0 = 1 := z
    rw [checkS, if_neg (by omega), if_pos z]
  · have z : ¬ chkN f 0 = 1 := z
    rw [checkS, if_neg (by omega), if_neg z]
def Ef_Check : Es := (23, (Sf_Check)) :: Ef_right
theorem okf_Check : SatE P (En (Ef_Check)) := SatE.cons (satf_Check) okf_right

end Go.Proofs.Ytfpojhphmgnfhaa.T7
end

section
set_option maxRecDepth 100000
open Go.Proofs.Ytfpojhphmgnfhaa.Lg Go Go.Proofs.Ytfpojhphmgnfhaa.Sp
open Go.Proofs
namespace Go.Proofs.Ytfpojhphmgnfhaa.T7


/-! ### legation/legationref06.Needs -/
def Lr_Needs : Ls := []
def Sr_Needs := mkS [(true, ptS)] fun ⟨(p : RowE ptS), _⟩ => .leaf (.val (.d (.int .i64 (needsS p))))
theorem tr_Needs (p : RowE ptS) : evF T (Ep (Ef_Check)) (Ln (Lr_Needs)) Try.f50 [.agg (rowD ptS p)] =
    br (p.fst == (1 : Int)) (some (SV.val (AV.d (D.int IntKind.i64 (0 : Int))))) (br (p.fst == (2 : Int)) (some (SV.val (AV.d (D.int IntKind.i64 (0 : Int))))) (br (p.fst == (3 : Int)) (some (SV.val (AV.d (D.int IntKind.i64 (0 : Int))))) (br (p.fst == (4 : Int)) (some (SV.val (AV.d (D.int IntKind.i64 (1 : Int))))) (br (p.fst == (5 : Int)) (some (SV.val (AV.d (D.int IntKind.i64 (1 : Int))))) (br (p.fst == (18 : Int)) (some (SV.val (AV.d (D.int IntKind.i64 (1 : Int))))) (br (p.fst == (19 : Int)) (some (SV.val (AV.d (D.int IntKind.i64 (1 : Int))))) (br (p.fst == (20 : Int)) (some (SV.val (AV.d (D.int IntKind.i64 (1 : Int))))) (br (p.fst == (21 : Int)) (some (SV.val (AV.d (D.int IntKind.i64 (1 : Int))))) (br (p.fst == (22 : Int)) (some (SV.val (AV.d (D.int IntKind.i64 (1 : Int))))) (br (p.fst == (23 : Int)) (some (SV.val (AV.d (D.int IntKind.i64 (1 : Int))))) (br (p.fst == (6 : Int)) (some (SV.val (AV.d (D.int IntKind.i64 (2 : Int))))) (br (p.fst == (7 : Int)) (some (SV.val (AV.d (D.int IntKind.i64 (2 : Int))))) (br (p.fst == (8 : Int)) (some (SV.val (AV.d (D.int IntKind.i64 (2 : Int))))) (br (p.fst == (9 : Int)) (some (SV.val (AV.d (D.int IntKind.i64 (2 : Int))))) (br (p.fst == (10 : Int)) (some (SV.val (AV.d (D.int IntKind.i64 (2 : Int))))) (br (p.fst == (11 : Int)) (some (SV.val (AV.d (D.int IntKind.i64 (2 : Int))))) (br (p.fst == (12 : Int)) (some (SV.val (AV.d (D.int IntKind.i64 (2 : Int))))) (br (p.fst == (13 : Int)) (some (SV.val (AV.d (D.int IntKind.i64 (2 : Int))))) (br (p.fst == (14 : Int)) (some (SV.val (AV.d (D.int IntKind.i64 (2 : Int))))) (br (p.fst == (15 : Int)) (some (SV.val (AV.d (D.int IntKind.i64 (2 : Int))))) (br (p.fst == (16 : Int)) (some (SV.val (AV.d (D.int IntKind.i64 (2 : Int))))) (br (p.fst == (17 : Int)) (some (SV.val (AV.d (D.int IntKind.i64 (2 : Int))))) (br (p.fst == (24 : Int)) (some (SV.val (AV.d (D.int IntKind.i64 (2 : Int))))) (br (p.fst == (25 : Int)) (some (SV.val (AV.d (D.int IntKind.i64 (3 : Int))))) (br (p.fst == (26 : Int)) (br (decide (p.snd.snd.snd.snd.snd.snd.fst ≥ (1 : Int))) (br (decide (p.snd.snd.snd.snd.snd.snd.fst ≤ (16 : Int))) (some (SV.val (AV.d (D.int IntKind.i64 p.snd.snd.snd.snd.snd.snd.fst)))) (some (SV.val (AV.d (D.int IntKind.i64 (-1 : Int)))))) (some (SV.val (AV.d (D.int IntKind.i64 (-1 : Int)))))) (some (SV.val (AV.d (D.int IntKind.i64 (-1 : Int)))))))))))))))))))))))))))))) := by kernel_rfl
theorem satr_Needs : Sat P 50 (Sr_Needs) := by
  refine sat_mk (LT := Ln (Lr_Needs)) hC (SatE.ep okf_Check) mixed Try.func50 (by kernel_rfl) (c := bodyOf Try.f50) (by kernel_rfl) (by kernel_rfl) ?_ (loops0 (by kernel_rfl))
  rintro ⟨(p : RowE ptS), _⟩ sv h
  refine Leads.eq (Leads.of_eq (tr_Needs p) ?_)
  have h := Out_leaf h
  subst h
  obtain ⟨(k : Int), a, b, c, d, e, (n : Int), _⟩ := p
  repeat' (first | refine Leads.brD (fun _ => ?_) (fun _ => ?_) | refine Leads.brE (fun _ => ?_) (fun _ => ?_) | refine Leads.brN (fun _ => ?_) (fun _ => ?_) | refine Leads.brM (fun _ => ?_) (fun _ => ?_) | refine Leads.brG (fun _ => ?_) (fun _ => ?_) | refine Leads.br (fun _ => ?_) (fun _ => ?_) | refine Leads.chk ?_ (fun _ => ?_) | refine Leads.one ?_ | refine Leads.brP (fun _ => ?_) (fun _ => ?_))
  all_goals (refine congrArg (fun z => SV.val (.d (.int .i64 z))) ?_)
  all_goals (dsimp only [CE, KC.T] at *)
  all_goals first | (subst k; rfl) | skip
  all_goals simp only [needsS]
  all_goals first | (subst k; rw [if_neg (by omega), if_neg (by omega), if_neg (by omega), if_neg (by omega), if_pos (by omega)]; done) | (rw [if_neg (by omega), if_neg (by omega), if_neg (by omega), if_neg (by omega), if_neg (by omega)]; done)
def Er_Needs : Es := (50, (Sr_Needs)) :: Ef_Check
theorem okr_Needs : SatE P (En (Er_Needs)) := SatE.cons (satr_Needs) okf_Check
/-! ### legation/legationref06.right -/
def Lr_right : Ls := []
def Sr_right := mkS [(true, ptS)] fun ⟨(p : RowE ptS), _⟩ => .chk (szPt p) (.leaf (.val (.d (.bool (rightP p)))))
theorem tr_right (p : RowE ptS) : evF T (Ep (Er_Needs)) (Ln (Lr_right)) Try.f49 [.agg (rowD ptS p)] =
    br (decide (needsS p < (0 : Int))) (some (SV.val (AV.d (D.bool false)))) (br (p.fst != (26 : Int)) (br (p.snd.snd.snd.snd.snd.snd.fst != (0 : Int)) (some (SV.val (AV.d (D.bool false)))) (br (p.fst == (1 : Int)) (br (p.snd.snd.snd.snd.snd.fst == []) (chk (List.length p.snd.snd.fst ≤ Big ∧ List.length p.snd.snd.snd.fst ≤ Big ∧ List.length p.snd.snd.snd.snd.fst ≤ Big) (br (right p.snd.fst p.snd.snd.fst p.snd.snd.snd.fst p.snd.snd.snd.snd.fst) (br (p.snd.fst == (1 : Int)) (some (SV.val (AV.d (D.bool true)))) (some (SV.val (AV.d (D.bool (p.snd.fst == (2 : Int))))))) (some (SV.val (AV.d (D.bool false)))))) (some (SV.val (AV.d (D.bool false))))) (br (!(p.snd.fst == CE.dflt (Sh.int IntKind.i64) && (p.snd.snd.fst == CE.dflt Sh.str && (p.snd.snd.snd.fst == CE.dflt Sh.str && p.snd.snd.snd.snd.fst == CE.dflt Sh.str)))) (some (SV.val (AV.d (D.bool false)))) (br (p.fst == (2 : Int)) (chk (List.length p.snd.snd.snd.snd.snd.fst ≤ Big) (some (SV.val (AV.d (D.bool (isName p.snd.snd.snd.snd.snd.fst)))))) (br (p.fst == (3 : Int)) (chk (List.length p.snd.snd.snd.snd.snd.fst ≤ Big) (some (SV.val (AV.d (D.bool (isName p.snd.snd.snd.snd.snd.fst)))))) (some (SV.val (AV.d (D.bool (p.snd.snd.snd.snd.snd.fst == [])))))))))) (br (p.fst == (1 : Int)) (br (p.snd.snd.snd.snd.snd.fst == []) (chk (List.length p.snd.snd.fst ≤ Big ∧ List.length p.snd.snd.snd.fst ≤ Big ∧ List.length p.snd.snd.snd.snd.fst ≤ Big) (br (right p.snd.fst p.snd.snd.fst p.snd.snd.snd.fst p.snd.snd.snd.snd.fst) (br (p.snd.fst == (1 : Int)) (some (SV.val (AV.d (D.bool true)))) (some (SV.val (AV.d (D.bool (p.snd.fst == (2 : Int))))))) (some (SV.val (AV.d (D.bool false)))))) (some (SV.val (AV.d (D.bool false))))) (br (!(p.snd.fst == CE.dflt (Sh.int IntKind.i64) && (p.snd.snd.fst == CE.dflt Sh.str && (p.snd.snd.snd.fst == CE.dflt Sh.str && p.snd.snd.snd.snd.fst == CE.dflt Sh.str)))) (some (SV.val (AV.d (D.bool false)))) (br (p.fst == (2 : Int)) (chk (List.length p.snd.snd.snd.snd.snd.fst ≤ Big) (some (SV.val (AV.d (D.bool (isName p.snd.snd.snd.snd.snd.fst)))))) (br (p.fst == (3 : Int)) (chk (List.length p.snd.snd.snd.snd.snd.fst ≤ Big) (some (SV.val (AV.d (D.bool (isName p.snd.snd.snd.snd.snd.fst)))))) (some (SV.val (AV.d (D.bool (p.snd.snd.snd.snd.snd.fst == [])))))))))) := by kernel_rfl
theorem satr_right : Sat P 49 (Sr_right) := by
  refine sat_mk (LT := Ln (Lr_right)) hC (SatE.ep okr_Needs) mixed Try.func49 (by kernel_rfl) (c := bodyOf Try.f49) (by kernel_rfl) (by kernel_rfl) ?_ (loops0 (by kernel_rfl))
  rintro ⟨(p : RowE ptS), _⟩ sv h
  refine Leads.eq (Leads.of_eq (tr_right p) ?_)
  obtain ⟨⟨s1, s2, s3, s4⟩, h⟩ := h
  have h := Out_leaf h
  subst h
  obtain ⟨(k : Int), (tk : Int), (a : List UInt8), (t : List UInt8), (l : List UInt8), (nm : List UInt8), (n : Int), _⟩ := p
  dsimp only at s1 s2 s3 s4 ⊢
  have hB := Big_eq
  have h0 : (k = 1 ∨ k = 2 ∨ k = 3) → ¬ needsS (k, tk, a, t, l, nm, n, ()) < 0 := fun hz => by rw [needsS, if_pos (by show 1 ≤ k ∧ k ≤ 3; omega)]; decide
  have d1 : CE.dflt Sh.str = ([] : List UInt8) := rfl
  have d2 : CE.dflt (Sh.int .i64) = (0 : Int) := rfl
  rw [d1, d2]
  have key : ∀ b, b = rightP (k, tk, a, t, l, nm, n, ()) → SV.val (.d (.bool b)) = SV.val (.d (.bool (rightP (k, tk, a, t, l, nm, n, ())))) := fun b e => by rw [e]
  refine Leads.brD (fun w => Leads.one (key _ ?_)) (fun w => Leads.brN (fun q26 => ?_) (fun q26 => Leads.brN (fun qn => ?_) (fun qn => Leads.one (key _ ?_))))
  · have w : needsS (k, tk, a, t, l, nm, n, ()) < 0 := w
    have n1 : ¬ k = 1 := fun e => h0 (.inl e) w
    have n2 : ¬ k = 2 := fun e => h0 (.inr (.inl e)) w
    have n3 : ¬ k = 3 := fun e => h0 (.inr (.inr e)) w
    have w' : ¬ 0 ≤ needsS (k, tk, a, t, l, nm, n, ()) := by omega
    rw [Bool.eq_iff_iff]; simp [rightP, n1, n2, n3, w']
  · have q26 : k = 26 := q26
    subst q26
    have w : 0 ≤ needsS (26, tk, a, t, l, nm, n, ()) := Int.not_lt.1 w
    refine Leads.brE (fun q1 => absurd q1 (by decide)) (fun q1 => Leads.brG (fun z => Leads.brE (fun q2 => absurd q2 (by decide)) (fun q2 => Leads.brE (fun q3 => absurd q3 (by decide)) (fun q3 => Leads.one (key _ ?_)))) (fun z => Leads.one (key _ ?_)))
    all_goals rw [Bool.eq_iff_iff]
    · simp only [Bool.and_eq_true, beq_iff_eq] at z; obtain ⟨rfl, rfl, rfl, rfl⟩ := z; simp [rightP, noTm, w]
    · simp only [Bool.and_eq_false_iff, beq_eq_false_iff_ne] at z; simp [rightP, noTm, w]; intro z1 z2 z3 z4; rcases z with z | z | z | z <;> contradiction
  · have qn : n = 0 := qn
    subst qn
    have w : 0 ≤ needsS (k, tk, a, t, l, nm, 0, ()) := Int.not_lt.1 w
    refine Leads.brE (fun q1 => Leads.brE (fun nm0 => Leads.chk ⟨by omega, by omega, by omega⟩ fun _ => Leads.br (fun r => Leads.brE (fun k1 => Leads.one (key _ ?_)) (fun k1 => Leads.one (key _ ?_))) (fun r => Leads.one (key _ ?_))) (fun nm0 => Leads.one (key _ ?_))) (fun q1 => Leads.brG (fun z => Leads.brE (fun q2 => Leads.chk (by omega) fun _ => Leads.one (key _ ?_)) (fun q2 => Leads.brE (fun q3 => Leads.chk (by omega) fun _ => Leads.one (key _ ?_)) (fun q3 => Leads.one (key _ ?_)))) (fun z => Leads.one (key _ ?_)))
    all_goals rw [Bool.eq_iff_iff]
    · have q1 : k = 1 := q1
      have k1 : tk = 1 := k1
      have nm0 : nm = [] := nm0
      subst q1 k1 nm0
      simp [rightP, r]
    · have q1 : k = 1 := q1
      have k1 : ¬ tk = 1 := k1
      have nm0 : nm = [] := nm0
      subst q1 nm0
      simp [rightP, r, k1]
    · have q1 : k = 1 := q1
      subst q1
      simp [rightP, r]
    · have q1 : k = 1 := q1
      have nm0 : ¬ nm = [] := nm0
      subst q1
      simp [rightP, nm0]
    · have q2 : k = 2 := q2
      subst q2
      simp only [Bool.and_eq_true, beq_iff_eq] at z; simp [rightP, noTm, z.1, z.2.1, z.2.2.1, z.2.2.2]
    · have q3 : k = 3 := q3
      subst q3
      simp only [Bool.and_eq_true, beq_iff_eq] at z; simp [rightP, noTm, z.1, z.2.1, z.2.2.1, z.2.2.2]
    · have q1 : ¬ k = 1 := q1
      have q2 : ¬ k = 2 := q2
      have q3 : ¬ k = 3 := q3
      simp only [Bool.and_eq_true, beq_iff_eq] at z
      obtain ⟨rfl, rfl, rfl, rfl⟩ := z
      simp [rightP, noTm, q1, q2, q3, w]
    · have q1 : ¬ k = 1 := q1
      have hz : noTm (k, tk, a, t, l, nm, 0, ()) = false := by
        simp only [Bool.and_eq_false_iff, beq_eq_false_iff_ne] at z
        rw [Bool.eq_false_iff]
        simp [noTm]; intro z1 z2 z3 z4; rcases z with z | z | z | z <;> contradiction
      simp [rightP, q1, hz]
  · have q26 : ¬ k = 26 := q26
    have qn : ¬ n = 0 := qn
    rw [Bool.eq_iff_iff]; simp [rightP, q26, qn]
def Er_right : Es := (49, (Sr_right)) :: Er_Needs
theorem okr_right : SatE P (En (Er_right)) := SatE.cons (satr_right) okr_Needs
/-! ### legation/legationref06.Check -/
def lkr_Check_0 : St [.v false [.sl [.int .i64, .int .i64, .str, .str, .str, .str, .int .i64]], .v false [.int .i64], .v false [.int .i64]] → Prop := fun ⟨⟨(f : List (RowE [.int .i64, .int .i64, .str, .str, .str, .str, .int .i64])), _⟩, ⟨(n : Int), _⟩, ⟨(i : Int), _⟩, _⟩ => 0 ≤ i ∧ i ≤ f.length ∧ f.length ≤ 256 ∧ 0 ≤ n ∧ n ≤ i ∧ allPt f
def lgr_Check_0 : St [.v false [.sl [.int .i64, .int .i64, .str, .str, .str, .str, .int .i64]], .v false [.int .i64], .v false [.int .i64]] → Tr (Ex × List SV) := fun ⟨⟨(f : List (RowE [.int .i64, .int .i64, .str, .str, .str, .str, .int .i64])), _⟩, ⟨(n : Int), _⟩, ⟨(i : Int), _⟩, _⟩ => .brP (chkN (f.drop i.toNat) n < 0) (.leaf (.ret, [.val (.d (.int .i64 (2)))])) (.leaf (.exit 0, [.val (.d (.int .i64 (chkN (f.drop i.toNat) n)))]))
def lmr_Check_0 : St [.v false [.sl [.int .i64, .int .i64, .str, .str, .str, .str, .int .i64]], .v false [.int .i64], .v false [.int .i64]] → Nat := fun ⟨⟨(f : List (RowE [.int .i64, .int .i64, .str, .str, .str, .str, .int .i64])), _⟩, ⟨(n : Int), _⟩, ⟨(i : Int), _⟩, _⟩ => f.length - i.toNat
def lsr_Check_0 : LoopS := mkR [0, 3, 4] [3] [2] [.v false [.sl [.int .i64, .int .i64, .str, .str, .str, .str, .int .i64]], .v false [.int .i64], .v false [.int .i64]] (fun r => .chk (lkr_Check_0 r) (lgr_Check_0 r))
def Lr_Check : Ls := [(5, lsr_Check_0)]
def Sr_Check := mkS [(false, [.sl [.int .i64, .int .i64, .str, .str, .str, .str, .int .i64]])] fun ⟨⟨(f : List (RowE [.int .i64, .int .i64, .str, .str, .str, .str, .int .i64])), _⟩, _⟩ => .chk (allPt f) (.leaf (.val (.d (.int .i64 (checkS f)))))
theorem ltr_Check_0 (f : List (RowE [.int .i64, .int .i64, .str, .str, .str, .str, .int .i64])) (n : Int) (i : Int) : evRound T (Ep (Er_right)) (Ln (Lr_Check)) (loopAt 0 (loops (bodyOf Try.f28))) (lsr_Check_0) [.val (.d (.sl [.int .i64, .int .i64, .str, .str, .str, .str, .int .i64] f)), .val (.d (.int .i64 n)), .val (.d (.int .i64 i))] =
    br (decide (i < (↑f.length : Int))) (chk ((0 : Int) ≤ i ∧ i < (↑f.length : Int)) (chk (szPt (getR ptS f i)) (br (!rightP (getR ptS f i)) (some (Rnd.out Ex.ret [SV.val (AV.d (D.int IntKind.i64 (2 : Int)))])) (chk ((0 : Int) ≤ i ∧ i < (↑f.length : Int)) (br (decide (needsS (getR ptS f i) > n)) (some (Rnd.out Ex.ret [SV.val (AV.d (D.int IntKind.i64 (2 : Int)))])) (chk ((0 : Int) ≤ i ∧ i < (↑f.length : Int)) (some (Rnd.again [SV.val (AV.d (D.sl ptS f)), SV.val (AV.d (D.int IntKind.i64 (IntKind.i64.wrap (IntKind.i64.wrap (n - needsS (getR ptS f i)) + (1 : Int))))), SV.val (AV.d (D.int IntKind.i64 (IntKind.i64.wrap (i + (1 : Int)))))])))))))) (some (Rnd.out (Ex.exit (0 : Nat)) [SV.val (AV.d (D.int IntKind.i64 n))])) := by kernel_rfl
theorem lokr_Check_0 : LoopOK T (Ep (Er_right)) (Ln (Lr_Check)) (loopAt 0 (loops (bodyOf Try.f28))) := by
  refine loop_ok (live := [0, 3, 4]) (outs := [3]) (rets := [2]) (ks := [.v false [.sl [.int .i64, .int .i64, .str, .str, .str, .str, .int .i64]], .v false [.int .i64], .v false [.int .i64]]) (G := lgr_Check_0) (lkr_Check_0) (lmr_Check_0) (by kernel_rfl) ?_
  rintro ⟨⟨(f : List (RowE [.int .i64, .int .i64, .str, .str, .str, .str, .int .i64])), _⟩, ⟨(n : Int), _⟩, ⟨(i : Int), _⟩, _⟩ x hok hx
  refine Leads.of_eq (ltr_Check_0 f n i) ?_
  obtain ⟨h0, h1, hl, hn0, hn1, ha⟩ := hok
  obtain ⟨i, rfl⟩ := Int.eq_ofNat_of_zero_le h0
  simp only [lgr_Check_0, Int.toNat_natCast] at hx
  refine Leads.brD (fun lt => Leads.chk ⟨h0, lt⟩ fun _ => ?_) (fun ge => Leads.one (Goes.out ?_))
  · have lt' : i < f.length := by omega
    rw [part_at lt', chkN] at hx
    refine Leads.chk (ha _ (part_mem lt')) fun _ => Leads.brG (fun w => Leads.chk ⟨h0, lt⟩ fun _ => Leads.brD (fun w2 => Leads.one (Goes.out ?_)) (fun w2 => Leads.chk ⟨h0, lt⟩ fun _ => Leads.one ?_)) (fun w => Leads.one (Goes.out ?_))
    · rw [if_pos (Or.inr w2)] at hx
      rw [Out_leaf (Out_pos (by decide) hx)]
    · have w : rightP (getR ptS f (i : Int)) = true := w
      rw [if_neg (by rw [w]; intro z; rcases z with z | z; cases z; omega)] at hx
      have b1 := needs_le (getR ptS f (i : Int))
      have b2 := rightP_needs w
      have b3 : ¬ needsS (getR ptS f (i : Int)) > n := w2
      rw [wrap64 (x := n - needsS (getR ptS f (i : Int))) (by omega) (by omega), wrap64 (x := n - _ + 1) (by omega) (by omega), wrap64 (by omega) (by omega)]
      have en : n - needsS (getR ptS f (i : Int)) + 1 = n + (1 - needsS (getR ptS f (i : Int))) := by omega
      rw [en]
      refine Goes.again (ks := [.v false [.sl [.int .i64, .int .i64, .str, .str, .str, .str, .int .i64]], .v false [.int .i64], .v false [.int .i64]]) ((f, ()), (n + (1 - needsS (getR ptS f (i : Int))), ()), ((i : Int) + 1, ()), ()) rfl ?_ ?_ ?_
      · exact ⟨(by omega : 0 ≤ (i : Int) + 1), (by omega : (i : Int) + 1 ≤ (f.length : Int)), hl, (by omega : 0 ≤ n + (1 - needsS (getR ptS f (i : Int)))), (by omega : n + (1 - needsS (getR ptS f (i : Int))) ≤ (i : Int) + 1), ha⟩
      · show f.length - ((i : Int) + 1).toNat < f.length - (i : Int).toNat
        simp only [toNat_add1, Int.toNat_natCast]; omega
      · simp only [lgr_Check_0, toNat_add1]; exact hx
    · have w : rightP (getR ptS f (i : Int)) = false := w
      rw [if_pos (Or.inl w)] at hx
      rw [Out_leaf (Out_pos (by decide) hx)]
  · rw [List.drop_of_length_le (by omega), chkN] at hx
    rw [Out_leaf (Out_neg (by omega) hx)]
theorem tr_Check (f : List (RowE [.int .i64, .int .i64, .str, .str, .str, .str, .int .i64])) : evF T (Ep (Er_right)) (Ln (Lr_Check)) Try.f28 [.d (.sl [.int .i64, .int .i64, .str, .str, .str, .str, .int .i64] f)] =
    br (decide ((↑f.length : Int) > (256 : Int))) (some (SV.val (AV.d (D.int IntKind.i64 (3 : Int))))) (chk (lkr_Check_0 ((f, ()), ((0 : Int), ()), ((0 : Int), ()), ())) (brP (chkN (List.drop (Int.toNat (0 : Int)) f) (0 : Int) < (0 : Int)) (some (SV.val (AV.d (D.int IntKind.i64 (2 : Int))))) (br (chkN (List.drop (Int.toNat (0 : Int)) f) (0 : Int) != (1 : Int)) (some (SV.val (AV.d (D.int IntKind.i64 (2 : Int))))) (some (SV.val (AV.d (D.int IntKind.i64 (0 : Int)))))))) := by kernel_rfl
theorem satr_Check : Sat P 28 (Sr_Check) := by
  refine sat_mk (LT := Ln (Lr_Check)) hC (SatE.ep okr_right) mixed Try.func28 (by kernel_rfl) (c := bodyOf Try.f28) (by kernel_rfl) (by kernel_rfl) ?_ (loops1 (by kernel_rfl) (lokr_Check_0))
  rintro ⟨⟨(f : List (RowE [.int .i64, .int .i64, .str, .str, .str, .str, .int .i64])), _⟩, _⟩ sv h
  refine Leads.eq (Leads.of_eq (tr_Check f) ?_)
  obtain ⟨ha, h⟩ := h
  have h := Out_leaf h
  subst h
  refine Leads.brD (fun q => Leads.one ?_) (fun q => Leads.chk ⟨by decide, by omega, by omega, by decide, by decide, ha⟩ fun _ => Leads.brP (fun w => Leads.one ?_) (fun w => Leads.brN (fun z => Leads.one ?_) (fun z => Leads.one ?_)))
  · rw [checkS, if_pos (by omega)]
  · have w : chkN f 0 < 0 := w
    rw [checkS, if_neg (by omega), if_neg (by omega)]
  · have z : chkN f 0 = 1 := z
    rw [checkS, if_neg (by omega), if_pos z]
  · have z : ¬ chkN f 0 = 1 := z
    rw [checkS, if_neg (by omega), if_neg z]
def Er_Check : Es := (28, (Sr_Check)) :: Er_right
theorem okr_Check : SatE P (En (Er_Check)) := SatE.cons (satr_Check) okr_right

end Go.Proofs.Ytfpojhphmgnfhaa.T7
end
