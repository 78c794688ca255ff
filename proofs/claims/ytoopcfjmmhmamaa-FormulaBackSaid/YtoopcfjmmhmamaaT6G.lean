/- Part of a proof of the seat's statements: no statement by itself. -/
import Derived.Test.YtoopcfjmmhmamaaT6F
import Derived.Test.YtoopcfjmmhmamaaSpN
set_option maxRecDepth 100000
open Go.Proofs.Ytoopcfjmmhmamaa.Lg Go Go.Proofs.Ytoopcfjmmhmamaa.Sp
open Go.Proofs
namespace Go.Proofs.Ytoopcfjmmhmamaa.T6


/-! ### legation/formula.text -/
def lkf_text_0 : St [.v false [.str], .v false [.sl [.str]], .v false [.int .i64], .v false [.int .i64]] → Prop := fun ⟨⟨(out : List UInt8), _⟩, ⟨(x81 : List (RowE [.str])), _⟩, ⟨(x82 : Int), _⟩, ⟨(x83 : Int), _⟩, _⟩ => x82 = (x81.length : Int) ∧ 0 ≤ x83 ∧ x83 ≤ x82 ∧ out.length + lenT (x81.drop x83.toNat) ≤ 2000000000000 ∧ lenT x81 ≤ 1000000000000
def lgf_text_0 : St [.v false [.str], .v false [.sl [.str]], .v false [.int .i64], .v false [.int .i64]] → Tr (Ex × List SV) := fun ⟨⟨(out : List UInt8), _⟩, ⟨(x81 : List (RowE [.str])), _⟩, ⟨(x82 : Int), _⟩, ⟨(x83 : Int), _⟩, _⟩ => .leaf (.exit 1, [.val (.d (.str  (out ++ (if x83 = 0 then argsT x81 else joinC (x81.drop x83.toNat)))))])
def lmf_text_0 : St [.v false [.str], .v false [.sl [.str]], .v false [.int .i64], .v false [.int .i64]] → Nat := fun ⟨⟨(out : List UInt8), _⟩, ⟨(x81 : List (RowE [.str])), _⟩, ⟨(x82 : Int), _⟩, ⟨(x83 : Int), _⟩, _⟩ => x81.length - x83.toNat
def lsf_text_0 : LoopS := mkR [7, 81, 82, 83] [7] [] [.v false [.str], .v false [.sl [.str]], .v false [.int .i64], .v false [.int .i64]] (fun r => .chk (lkf_text_0 r) (lgf_text_0 r))
def Lf_text : Ls := [(14, lsf_text_0)]
def Sf_text := mkS [(true, ptS), (false, [.sl [.str]])] fun ⟨(p : RowE ptS), ⟨(l : List (RowE [.str])), _⟩, _⟩ => .chk (rightP p = true ∧ (l.length : Int) = needsS p ∧ szPt p ∧ lenT l ≤ 1000000000000) (.leaf (.val (.d (.str (txtS p l)))))
theorem ltf_text_0 (out : List UInt8) (x81 : List (RowE [.str])) (x82 : Int) (x83 : Int) : evRound T (Ep (El4)) (Ln (Lf_text)) (loopAt 0 (loops (bodyOf Try.f27))) (lsf_text_0) [.val (.d (.str  out)), .val (.d (.sl [.str] x81)), .val (.d (.int .i64 x82)), .val (.d (.int .i64 x83))] =
    br (decide (x83 < x82)) (chk ((0 : Int) ≤ x83 ∧ x83 < (↑x81.length : Int)) (br (decide (x83 > (0 : Int))) (chk ((↑out.length : Int) + (↑[(32 : UInt8), (44 : UInt8), (32 : UInt8)].length : Int) ≤ maxI) (chk ((↑(out ++ [(32 : UInt8), (44 : UInt8), (32 : UInt8)]).length : Int) + (↑(List.length (getR [Sh.str] x81 x83).fst) : Int) ≤ maxI) (some (Rnd.again [SV.val (AV.d (D.str (out ++ [(32 : UInt8), (44 : UInt8), (32 : UInt8)] ++ (getR [Sh.str] x81 x83).fst))), SV.val (AV.d (D.sl [Sh.str] x81)), SV.val (AV.d (D.int IntKind.i64 x82)), SV.val (AV.d (D.int IntKind.i64 (IntKind.i64.wrap (x83 + (1 : Int)))))])))) (chk ((↑out.length : Int) + (↑(List.length (getR [Sh.str] x81 x83).fst) : Int) ≤ maxI) (some (Rnd.again [SV.val (AV.d (D.str (out ++ (getR [Sh.str] x81 x83).fst))), SV.val (AV.d (D.sl [Sh.str] x81)), SV.val (AV.d (D.int IntKind.i64 x82)), SV.val (AV.d (D.int IntKind.i64 (IntKind.i64.wrap (x83 + (1 : Int)))))]))))) (some (Rnd.out (Ex.exit (1 : Nat)) [SV.val (AV.d (D.str out))])) := by kernel_rfl
theorem lokf_text_0 : LoopOK T (Ep (El4)) (Ln (Lf_text)) (loopAt 0 (loops (bodyOf Try.f27))) := by
  refine loop_ok (live := [7, 81, 82, 83]) (outs := [7]) (rets := []) (ks := [.v false [.str], .v false [.sl [.str]], .v false [.int .i64], .v false [.int .i64]]) (G := lgf_text_0) (lkf_text_0) (lmf_text_0) (by kernel_rfl) ?_
  rintro ⟨⟨(out : List UInt8), _⟩, ⟨(x81 : List (RowE [.str])), _⟩, ⟨(x82 : Int), _⟩, ⟨(x83 : Int), _⟩, _⟩ x hok hx
  refine Leads.of_eq (ltf_text_0 out x81 x82 x83) ?_
  obtain ⟨e82, h0, h1, hb, hbl⟩ := hok
  have e82 : x82 = (x81.length : Int) := e82
  subst e82
  obtain rfl := Out_leaf hx
  obtain ⟨i, rfl⟩ := Int.eq_ofNat_of_zero_le h0
  simp only [Int.toNat_natCast] at hb ⊢
  refine Leads.brD (fun lt => Leads.chk ⟨h0, lt⟩ fun _ => ?_) (fun ge => Leads.one (Goes.out ?_))
  · have lt' : i < x81.length := by omega
    have hlen := len_lenT (x81.drop i)
    rw [txt_at lt', lenT] at hb
    rw [List.length_drop] at hlen
    have hbig := len_lenT x81
    rw [wrap64 (by omega) (by have := lenT_split x81 i; have := len_lenT (x81.drop (i + 1)); rw [List.length_drop] at this; omega)]
    refine Leads.brD (fun q => ?_) (fun q => ?_)
    · have q : 0 < i := by have q : (0 : Int) < (i : Int) := q; omega
      refine Leads.chk (by simp only [List.length_cons, List.length_nil, maxI]; omega) fun _ => Leads.chk (by simp only [List.length_append, List.length_cons, List.length_nil, maxI]; omega) fun _ => Leads.one ?_
      refine Goes.again (ks := [.v false [.str], .v false [.sl [.str]], .v false [.int .i64], .v false [.int .i64]]) ((out ++ [32, 44, 32] ++ (getR [.str] x81 (i : Int)).1, ()), (x81, ()), ((x81.length : Int), ()), ((i : Int) + 1, ()), ()) rfl ?_ ?_ ?_
      · refine ⟨rfl, (by omega : 0 ≤ (i : Int) + 1), (by omega : (i : Int) + 1 ≤ (x81.length : Int)), ?_, hbl⟩
        show (out ++ [32, 44, 32] ++ (getR [.str] x81 (i : Int)).1).length + lenT (x81.drop ((i : Int) + 1).toNat) ≤ _
        rw [toNat_add1]
        simp only [List.length_append, List.length_cons, List.length_nil]; omega
      · show x81.length - ((i : Int) + 1).toNat < x81.length - (i : Int).toNat
        simp only [toNat_add1, Int.toNat_natCast]; omega
      · show _ = _
        rw [if_neg (by omega), if_neg (by omega), toNat_add1, txt_at lt', joinC]
        simp [List.append_assoc]
    · have q : i = 0 := by have q : ¬ (0 : Int) < (i : Int) := q; omega
      subst q
      refine Leads.chk (by simp only [maxI]; omega) fun _ => Leads.one ?_
      refine Goes.again (ks := [.v false [.str], .v false [.sl [.str]], .v false [.int .i64], .v false [.int .i64]]) ((out ++ (getR [.str] x81 ((0 : Nat) : Int)).1, ()), (x81, ()), ((x81.length : Int), ()), (((0 : Nat) : Int) + 1, ()), ()) rfl ?_ ?_ ?_
      · refine ⟨rfl, by decide, (by omega : ((0 : Nat) : Int) + 1 ≤ (x81.length : Int)), ?_, hbl⟩
        show (out ++ (getR [.str] x81 ((0 : Nat) : Int)).1).length + lenT (x81.drop (((0 : Nat) : Int) + 1).toNat) ≤ _
        rw [toNat_add1]
        simp only [List.length_append]; omega
      · show x81.length - (((0 : Nat) : Int) + 1).toNat < x81.length - ((0 : Nat) : Int).toNat
        simp only [toNat_add1, Int.toNat_natCast]; omega
      · show _ = _
        rw [if_neg (by decide), if_pos (by decide), toNat_add1]
        have hd := txt_at lt'
        rw [List.drop_zero] at hd
        rw [show argsT x81 = (getR [.str] x81 ((0 : Nat) : Int)).1 ++ joinC (x81.drop (0 + 1)) from (congrArg argsT hd).trans rfl]
        simp [List.append_assoc]
  · have hi : i = x81.length := by omega
    subst hi
    by_cases z : ((x81.length : Nat) : Int) = 0
    · rw [if_pos z]
      have : x81 = [] := List.eq_nil_of_length_eq_zero (by omega)
      subst this; simp [argsT]
    · rw [if_neg z, List.drop_of_length_le (Nat.le_refl _)]; simp [joinC]
theorem tf_text (p : RowE ptS) (l : List (RowE [.str])) : evF T (Ep (El4)) (Ln (Lf_text)) Try.f27 [.agg (rowD ptS p), .d (.sl [.str] l)] =
    br (p.fst == (1 : Int)) (chk (List.length p.snd.snd.fst ≤ (140737488355328 : Nat) ∧ List.length p.snd.snd.snd.fst ≤ (140737488355328 : Nat) ∧ List.length p.snd.snd.snd.snd.fst ≤ (140737488355328 : Nat)) (br (right p.snd.fst p.snd.snd.fst p.snd.snd.snd.fst p.snd.snd.snd.snd.fst) (some (SV.val (AV.d (D.str (textS p.snd.fst p.snd.snd.fst p.snd.snd.snd.fst p.snd.snd.snd.snd.fst))))) (some (SV.val (AV.d (D.str []))))))
  (br (p.fst == (2 : Int)) (chk ((↑[(63 : UInt8)].length : Int) + (↑(List.length p.snd.snd.snd.snd.snd.fst) : Int) ≤ maxI) (some (SV.val (AV.d (D.str ([(63 : UInt8)] ++ p.snd.snd.snd.snd.snd.fst))))))
    (br (p.fst == (3 : Int)) (chk ((↑[(66 : UInt8), (79 : UInt8), (85 : UInt8), (78 : UInt8), (68 : UInt8), (32 : UInt8), (40 : UInt8), (32 : UInt8), (63 : UInt8)].length : Int) + (↑(List.length p.snd.snd.snd.snd.snd.fst) : Int) ≤ maxI) (chk ((↑([(66 : UInt8), (79 : UInt8), (85 : UInt8), (78 : UInt8), (68 : UInt8), (32 : UInt8), (40 : UInt8), (32 : UInt8), (63 : UInt8)] ++ p.snd.snd.snd.snd.snd.fst).length : Int) + (↑[(32 : UInt8), (41 : UInt8)].length : Int) ≤ maxI) (some (SV.val (AV.d (D.str ([(66 : UInt8), (79 : UInt8), (85 : UInt8), (78 : UInt8), (68 : UInt8), (32 : UInt8), (40 : UInt8), (32 : UInt8), (63 : UInt8)] ++ p.snd.snd.snd.snd.snd.fst ++ [(32 : UInt8), (41 : UInt8)])))))))
      (br (p.fst == (4 : Int)) (chk ((0 : Int) ≤ p.fst ∧ p.fst < (27 : Int)) (chk ((↑(List.length (signT p.fst)) : Int) + (↑[(32 : UInt8)].length : Int) ≤ maxI) (chk ((0 : Int) ≤ (0 : Int) ∧ (0 : Int) < (↑l.length : Int)) (chk ((↑(signT p.fst ++ [(32 : UInt8)]).length : Int) + (↑(List.length (getR [Sh.str] l (0 : Int)).fst) : Int) ≤ maxI) (some (SV.val (AV.d (D.str (signT p.fst ++ [(32 : UInt8)] ++ (getR [Sh.str] l (0 : Int)).fst))))))))) (br (p.fst == (5 : Int)) (chk ((0 : Int) ≤ p.fst ∧ p.fst < (27 : Int)) (chk ((↑(List.length (signT p.fst)) : Int) + (↑[(32 : UInt8)].length : Int) ≤ maxI) (chk ((0 : Int) ≤ (0 : Int) ∧ (0 : Int) < (↑l.length : Int)) (chk ((↑(signT p.fst ++ [(32 : UInt8)]).length : Int) + (↑(List.length (getR [Sh.str] l (0 : Int)).fst) : Int) ≤ maxI) (some (SV.val (AV.d (D.str (signT p.fst ++ [(32 : UInt8)] ++ (getR [Sh.str] l (0 : Int)).fst))))))))) (br (decide (p.fst ≥ (6 : Int))) (br (decide (p.fst ≤ (17 : Int))) (chk ((0 : Int) ≤ (0 : Int) ∧ (0 : Int) < (↑l.length : Int)) (chk ((↑[(40 : UInt8), (32 : UInt8)].length : Int) + (↑(List.length (getR [Sh.str] l (0 : Int)).fst) : Int) ≤ maxI) (chk ((↑([(40 : UInt8), (32 : UInt8)] ++ (getR [Sh.str] l (0 : Int)).fst).length : Int) + (↑[(32 : UInt8)].length : Int) ≤ maxI) (chk ((0 : Int) ≤ p.fst ∧ p.fst < (27 : Int)) (chk ((↑([(40 : UInt8), (32 : UInt8)] ++ (getR [Sh.str] l (0 : Int)).fst ++ [(32 : UInt8)]).length : Int) + (↑(List.length (signT p.fst)) : Int) ≤ maxI) (chk ((↑([(40 : UInt8), (32 : UInt8)] ++ (getR [Sh.str] l (0 : Int)).fst ++ [(32 : UInt8)] ++ signT p.fst).length : Int) + (↑[(32 : UInt8)].length : Int) ≤ maxI) (chk ((0 : Int) ≤ (1 : Int) ∧ (1 : Int) < (↑l.length : Int)) (chk ((↑([(40 : UInt8), (32 : UInt8)] ++ (getR [Sh.str] l (0 : Int)).fst ++ [(32 : UInt8)] ++ signT p.fst ++ [(32 : UInt8)]).length : Int) + (↑(List.length (getR [Sh.str] l (1 : Int)).fst) : Int) ≤ maxI) (chk ((↑([(40 : UInt8), (32 : UInt8)] ++ (getR [Sh.str] l (0 : Int)).fst ++ [(32 : UInt8)] ++ signT p.fst ++ [(32 : UInt8)] ++ (getR [Sh.str] l (1 : Int)).fst).length : Int) + (↑[(32 : UInt8), (41 : UInt8)].length : Int) ≤ maxI) (some (SV.val (AV.d (D.str ([(40 : UInt8), (32 : UInt8)] ++ (getR [Sh.str] l (0 : Int)).fst ++ [(32 : UInt8)] ++ signT p.fst ++ [(32 : UInt8)] ++ (getR [Sh.str] l (1 : Int)).fst ++ [(32 : UInt8), (41 : UInt8)])))))))))))))) (chk ((0 : Int) ≤ p.fst ∧ p.fst < (27 : Int)) (chk ((↑(List.length (signT p.fst)) : Int) + (↑[(32 : UInt8), (40 : UInt8), (32 : UInt8)].length : Int) ≤ maxI) (chk (lkf_text_0 ((signT p.fst ++ [(32 : UInt8), (40 : UInt8), (32 : UInt8)], ()), (l, ()), ((↑l.length : Int), ()), ((0 : Int), ()), ())) (chk ((↑(signT p.fst ++ [(32 : UInt8), (40 : UInt8), (32 : UInt8)] ++ if (0 : Int) = (0 : Int) then argsT l else joinC (List.drop (Int.toNat (0 : Int)) l)).length : Int) + (↑[(32 : UInt8), (41 : UInt8)].length : Int) ≤ maxI) (some (SV.val (AV.d (D.str ((signT p.fst ++ [(32 : UInt8), (40 : UInt8), (32 : UInt8)] ++ if (0 : Int) = (0 : Int) then argsT l else joinC (List.drop (Int.toNat (0 : Int)) l)) ++ [(32 : UInt8), (41 : UInt8)])))))))))) (chk ((0 : Int) ≤ p.fst ∧ p.fst < (27 : Int)) (chk ((↑(List.length (signT p.fst)) : Int) + (↑[(32 : UInt8), (40 : UInt8), (32 : UInt8)].length : Int) ≤ maxI) (chk (lkf_text_0 ((signT p.fst ++ [(32 : UInt8), (40 : UInt8), (32 : UInt8)], ()), (l, ()), ((↑l.length : Int), ()), ((0 : Int), ()), ())) (chk ((↑(signT p.fst ++ [(32 : UInt8), (40 : UInt8), (32 : UInt8)] ++ if (0 : Int) = (0 : Int) then argsT l else joinC (List.drop (Int.toNat (0 : Int)) l)).length : Int) + (↑[(32 : UInt8), (41 : UInt8)].length : Int) ≤ maxI) (some (SV.val (AV.d (D.str ((signT p.fst ++ [(32 : UInt8), (40 : UInt8), (32 : UInt8)] ++ if (0 : Int) = (0 : Int) then argsT l else joinC (List.drop (Int.toNat (0 : Int)) l)) ++ [(32 : UInt8), (41 : UInt8)])))))))))))))) := by kernel_rfl
theorem satf_text : Sat P 27 (Sf_text) := by
  refine sat_mk (LT := Ln (Lf_text)) hC (SatE.ep okl4) mixed Try.func27 (by kernel_rfl) (c := bodyOf Try.f27) (by kernel_rfl) (by kernel_rfl) ?_ (loops1 (by kernel_rfl) (lokf_text_0))
  rintro ⟨(p : RowE ptS), ⟨(l : List (RowE [.str])), _⟩, _⟩ sv h
  refine Leads.eq (Leads.of_eq (tf_text p l) ?_)
  obtain ⟨⟨hp, hl, hs, hb⟩, h⟩ := h
  have h := Out_leaf h
  subst h
  have sl := signT_len p.1
  have al := argsT_len l
  have l0 := nth_len l 0
  have e0 : ((0 : Nat) : Int) = 0 := rfl
  rw [e0] at l0
  have hn := rightP_needs hp
  have l0 : (getR [.str] l 0).1.length ≤ lenT l := l0
  obtain ⟨s1, s2, s3, s4⟩ := id hs
  have key : ∀ b, b = txtS p l → SV.val (.d (.str b)) = SV.val (.d (.str (txtS p l))) := fun b e => by rw [e]

  refine Leads.brE (fun k1 => ?_) (fun k1 => ?_)
  · have k1 : p.1 = 1 := k1
    have hr := hp
    rw [rightP, if_pos k1] at hr
    simp only [Bool.and_eq_true] at hr
    refine Leads.chk ⟨s1, s2, s3⟩ fun _ => Leads.br (fun r => Leads.one (key _ ?_)) (fun r => absurd hr.1 (by rw [show right _ _ _ _ = false from r]; decide))
    exact (txt_1 k1).symm
  refine Leads.brE (fun k2 => ?_) (fun k2 => Leads.brE (fun k3 => ?_) (fun k3 => ?_))
  · exact Leads.chk (by first | (simp only [List.length_append, List.length_cons, List.length_nil, maxI, boundT]; omega) | omega | decide) fun _ => Leads.one (key _ (txt_2 k2).symm)
  · exact Leads.chk (by first | (simp only [List.length_append, List.length_cons, List.length_nil, maxI, boundT]; omega) | omega | decide) fun _ => Leads.chk (by first | (simp only [List.length_append, List.length_cons, List.length_nil, maxI, boundT]; omega) | omega | decide) fun _ => Leads.one (key _ (txt_3 k3).symm)
  have kk := part_kinds hp k1 k2 k3
  have ko := kind_ok kk
  refine Leads.brE (fun k4 => ?_) (fun k4 => Leads.brE (fun k5 => ?_) (fun k5 => ?_))
  · have := part_one hl (.inl k4)
    exact Leads.chk ko fun _ => Leads.chk (by first | (simp only [List.length_append, List.length_cons, List.length_nil, maxI, boundT]; omega) | omega | decide) fun _ => Leads.chk ⟨by decide, by omega⟩ fun _ => Leads.chk (by first | (simp only [List.length_append, List.length_cons, List.length_nil, maxI, boundT]; omega) | omega | decide) fun _ => Leads.one (key _ (txt_4 (.inl k4)).symm)
  · have := part_one hl (.inr k5)
    exact Leads.chk ko fun _ => Leads.chk (by first | (simp only [List.length_append, List.length_cons, List.length_nil, maxI, boundT]; omega) | omega | decide) fun _ => Leads.chk ⟨by decide, by omega⟩ fun _ => Leads.chk (by first | (simp only [List.length_append, List.length_cons, List.length_nil, maxI, boundT]; omega) | omega | decide) fun _ => Leads.one (key _ (txt_4 (.inr k5)).symm)
  refine Leads.brD (fun k6 => Leads.brD (fun k17 => ?_) (fun k17 => ?_)) (fun k6 => absurd (kind6 kk k4 k5) k6)
  · have h1 := part_two hl k6 k17
    have t2 := two_len h1
    have t2 : (getR [.str] l 0).1.length + (getR [.str] l 1).1.length + 16 ≤ lenT l := t2
    exact Leads.chk ⟨by decide, by omega⟩ fun _ => Leads.chk (by first | (simp only [List.length_append, List.length_cons, List.length_nil, maxI, boundT]; omega) | omega | decide) fun _ => Leads.chk (by first | (simp only [List.length_append, List.length_cons, List.length_nil, maxI, boundT]; omega) | omega | decide) fun _ => Leads.chk ko fun _ => Leads.chk (by first | (simp only [List.length_append, List.length_cons, List.length_nil, maxI, boundT]; omega) | omega | decide) fun _ => Leads.chk (by first | (simp only [List.length_append, List.length_cons, List.length_nil, maxI, boundT]; omega) | omega | decide) fun _ => Leads.chk ⟨by decide, by omega⟩ fun _ => Leads.chk (by first | (simp only [List.length_append, List.length_cons, List.length_nil, maxI, boundT]; omega) | omega | decide) fun _ => Leads.chk (by first | (simp only [List.length_append, List.length_cons, List.length_nil, maxI, boundT]; omega) | omega | decide) fun _ => Leads.one (key _ (txt_6 k6 k17).symm)
  · refine Leads.chk ko fun _ => Leads.chk (by first | (simp only [List.length_append, List.length_cons, List.length_nil, maxI, boundT]; omega) | omega | decide) fun _ => Leads.chk ⟨rfl, by decide, Int.natCast_nonneg _, by simp only [Int.toNat_zero, List.drop_zero, List.length_append, List.length_cons, List.length_nil]; omega, hb⟩ fun _ => ?_
    rw [if_pos rfl]
    exact Leads.chk (by first | (simp only [List.length_append, List.length_cons, List.length_nil, maxI, boundT]; omega) | omega | decide) fun _ => Leads.one (key _ (txt_18 (kind18 k17)).symm)
def Ef_text : Es := (27, (Sf_text)) :: El4
theorem okf_text : SatE P (En (Ef_text)) := SatE.cons (satf_text) okl4
/-! ### legation/formula.Text -/
def lkf_Text_0 : St [.own [.str], .v false [.sl [.int .i64, .int .i64, .str, .str, .str, .str, .int .i64]], .v false [.int .i64], .v false [.int .i64]] → Prop := fun ⟨(l : List (RowE [.str])), ⟨(x14 : List (RowE [.int .i64, .int .i64, .str, .str, .str, .str, .int .i64])), _⟩, ⟨(x15 : Int), _⟩, ⟨(x16 : Int), _⟩, _⟩ => x15 = (x14.length : Int) ∧ 0 ≤ x16 ∧ x16 ≤ x15 ∧ x14.length ≤ 256 ∧ allPt x14 ∧ (chkN (x14.drop x16.toNat) (l.length : Int)) = 1 ∧ lenT l ≤ 17000 * x16.toNat
def lgf_Text_0 : St [.own [.str], .v false [.sl [.int .i64, .int .i64, .str, .str, .str, .str, .int .i64]], .v false [.int .i64], .v false [.int .i64]] → Tr (Ex × List SV) := fun ⟨(l : List (RowE [.str])), ⟨(x14 : List (RowE [.int .i64, .int .i64, .str, .str, .str, .str, .int .i64])), _⟩, ⟨(x15 : Int), _⟩, ⟨(x16 : Int), _⟩, _⟩ => .leaf (.exit 0, [.own [.str] (texF (x14.drop x16.toNat) l)])
def lmf_Text_0 : St [.own [.str], .v false [.sl [.int .i64, .int .i64, .str, .str, .str, .str, .int .i64]], .v false [.int .i64], .v false [.int .i64]] → Nat := fun ⟨(l : List (RowE [.str])), ⟨(x14 : List (RowE [.int .i64, .int .i64, .str, .str, .str, .str, .int .i64])), _⟩, ⟨(x15 : Int), _⟩, ⟨(x16 : Int), _⟩, _⟩ => x14.length - x16.toNat
def lsf_Text_0 : LoopS := mkR [5, 14, 15, 16] [5] [] [.own [.str], .v false [.sl [.int .i64, .int .i64, .str, .str, .str, .str, .int .i64]], .v false [.int .i64], .v false [.int .i64]] (fun r => .chk (lkf_Text_0 r) (lgf_Text_0 r))
def Lf_Text : Ls := [(6, lsf_Text_0)]
def Sf_Text := mkS [(false, [.sl [.int .i64, .int .i64, .str, .str, .str, .str, .int .i64]])] fun ⟨⟨(f : List (RowE [.int .i64, .int .i64, .str, .str, .str, .str, .int .i64])), _⟩, _⟩ => .chk (allPt f) (.leaf (.val (.tup [.d (.str (if checkS f = 0 then textF f else [])), .d (.int .i64 (checkS f))])))
theorem ltf_Text_0 (l : List (RowE [.str])) (x14 : List (RowE [.int .i64, .int .i64, .str, .str, .str, .str, .int .i64])) (x15 : Int) (x16 : Int) : evRound T (Eo [5] true (Ef_text)) (Ln (Lf_Text)) (loopAt 0 (loops (bodyOf Try.f14))) (lsf_Text_0) [.own [.str] l, .val (.d (.sl [.int .i64, .int .i64, .str, .str, .str, .str, .int .i64] x14)), .val (.d (.int .i64 x15)), .val (.d (.int .i64 x16))] =
    br (decide (x16 < x15)) (chk ((0 : Int) ≤ x16 ∧ x16 < (↑x14.length : Int)) (chk ((0 : Int) ≤ IntKind.i64.wrap ((↑l.length : Int) - (↑(0 : Nat) : Int) - needsS (getR ptS x14 x16)) ∧ IntKind.i64.wrap ((↑l.length : Int) - (↑(0 : Nat) : Int) - needsS (getR ptS x14 x16)) ≤ (↑l.length : Int)) (chk ((0 : Int) ≤ IntKind.i64.wrap ((↑l.length : Int) - (↑(0 : Nat) : Int) - needsS (getR ptS x14 x16)) ∧ IntKind.i64.wrap ((↑l.length : Int) - (↑(0 : Nat) : Int) - needsS (getR ptS x14 x16)) ≤ (↑l.length : Int)) (chk (rightP (getR ptS x14 x16) = true ∧ (↑(List.drop (IntKind.i64.wrap ((↑l.length : Int) - (↑(0 : Nat) : Int) - needsS (getR ptS x14 x16))).toNat (List.take l.length l)).length : Int) = needsS (getR ptS x14 x16) ∧ szPt (getR ptS x14 x16) ∧ lenT (List.drop (IntKind.i64.wrap ((↑l.length : Int) - (↑(0 : Nat) : Int) - needsS (getR ptS x14 x16))).toNat (List.take l.length l)) ≤ (1000000000000 : Nat)) (chk (((↑(IntKind.i64.wrap ((↑l.length : Int) - (↑(0 : Nat) : Int) - needsS (getR ptS x14 x16))).toNat : Int) + (↑[(txtS (getR ptS x14 x16) (List.drop (IntKind.i64.wrap ((↑l.length : Int) - (↑(0 : Nat) : Int) - needsS (getR ptS x14 x16))).toNat (List.take l.length l)), ())].length : Int)) * (↑(16 : Nat) : Int) < lim) (some (Rnd.again [SV.own [Sh.str] (List.take (IntKind.i64.wrap ((↑l.length : Int) - (↑(0 : Nat) : Int) - needsS (getR ptS x14 x16))).toNat l ++ [(txtS (getR ptS x14 x16) (List.drop (IntKind.i64.wrap ((↑l.length : Int) - (↑(0 : Nat) : Int) - needsS (getR ptS x14 x16))).toNat (List.take l.length l)), ())]), SV.val (AV.d (D.sl ptS x14)), SV.val (AV.d (D.int IntKind.i64 x15)), SV.val (AV.d (D.int IntKind.i64 (IntKind.i64.wrap (x16 + (1 : Int)))))]))))))) (some (Rnd.out (Ex.exit (0 : Nat)) [SV.own [Sh.str] l])) := by kernel_rfl
theorem lokf_Text_0 : LoopOK T (Eo [5] true (Ef_text)) (Ln (Lf_Text)) (loopAt 0 (loops (bodyOf Try.f14))) := by
  refine loop_ok (live := [5, 14, 15, 16]) (outs := [5]) (rets := []) (ks := [.own [.str], .v false [.sl [.int .i64, .int .i64, .str, .str, .str, .str, .int .i64]], .v false [.int .i64], .v false [.int .i64]]) (G := lgf_Text_0) (lkf_Text_0) (lmf_Text_0) (by kernel_rfl) ?_
  rintro ⟨(l : List (RowE [.str])), ⟨(x14 : List (RowE [.int .i64, .int .i64, .str, .str, .str, .str, .int .i64])), _⟩, ⟨(x15 : Int), _⟩, ⟨(x16 : Int), _⟩, _⟩ x hok hx
  refine Leads.of_eq (ltf_Text_0 l x14 x15 x16) ?_
  obtain ⟨e15, h0, h1, hl, ha, hc, hb⟩ := hok
  have e15 : x15 = (x14.length : Int) := e15
  subst e15
  obtain rfl := Out_leaf hx
  obtain ⟨i, rfl⟩ := Int.eq_ofNat_of_zero_le h0
  simp only [Int.toNat_natCast] at hc hb ⊢
  refine Leads.brD (fun lt => Leads.chk ⟨h0, lt⟩ fun _ => ?_) (fun ge => Leads.one (Goes.out ?_))
  · have lt' : i < x14.length := by omega
    obtain ⟨g1, g2, g3, g4, g5, g6, g7, g8, g9⟩ := tex_step lt' hc hb hl
    have ew : IntKind.i64.wrap ((l.length : Int) - ((0 : Nat) : Int) - needsS (getR ptS x14 (i : Int))) = ((keepN l (getR ptS x14 (i : Int)) : Nat) : Int) := by
      rw [wrap64 (by omega) (by omega)]; omega
    rw [ew, wrap64 (by omega) (by omega)]
    simp only [Int.toNat_natCast, List.take_length]
    refine Leads.chk ⟨by omega, by omega⟩ fun _ => Leads.chk ⟨by omega, by omega⟩ fun _ => Leads.chk ⟨g1, g4, ha _ (part_mem lt'), g5⟩ fun _ => Leads.chk (by simp only [List.length_cons, List.length_nil, lim]; omega) fun _ => Leads.one ?_
    refine Goes.again (ks := [.own [.str], .v false [.sl [.int .i64, .int .i64, .str, .str, .str, .str, .int .i64]], .v false [.int .i64], .v false [.int .i64]]) (nextT l (getR ptS x14 (i : Int)), (x14, ()), ((x14.length : Int), ()), ((i : Int) + 1, ()), ()) rfl ?_ ?_ ?_
    · exact ⟨rfl, (by omega : 0 ≤ (i : Int) + 1), (by omega : (i : Int) + 1 ≤ (x14.length : Int)), hl, ha, by rw [toNat_add1]; exact g7, by rw [toNat_add1]; exact g8⟩
    · show x14.length - ((i : Int) + 1).toNat < x14.length - (i : Int).toNat
      simp only [toNat_add1, Int.toNat_natCast]; omega
    · show _ = _
      rw [toNat_add1, g9]
  · rw [List.drop_of_length_le (by omega)]; rfl
theorem tf_Text (f : List (RowE [.int .i64, .int .i64, .str, .str, .str, .str, .int .i64])) : evF T (Eo [5] true (Ef_text)) (Ln (Lf_Text)) Try.f14 [.d (.sl [.int .i64, .int .i64, .str, .str, .str, .str, .int .i64] f)] =
    chk (allPt f) (br (checkS f != (0 : Int)) (some (SV.val (AV.tup [AV.d (D.str []), AV.d (D.int IntKind.i64 (checkS f))]))) (chk (lkf_Text_0 ([], (f, ()), ((↑f.length : Int), ()), ((0 : Int), ()), ())) (chk ((0 : Int) ≤ (0 : Int) ∧ (0 : Int) < (↑(List.length (texF (List.drop (Int.toNat (0 : Int)) f) [])) : Int) - (↑(0 : Nat) : Int)) (some (SV.val (AV.tup [AV.d (D.str (getR [Sh.str] (texF (List.drop (Int.toNat (0 : Int)) f) []) (↑((0 : Nat) + Int.toNat (0 : Int)) : Int)).fst), AV.d (D.int IntKind.i64 (0 : Int))])))))) := by kernel_rfl
theorem satf_Text : Sat P 14 (Sf_Text) := by
  refine sat_mk (LT := Ln (Lf_Text)) hC (SatE.eo okf_text) mixed Try.func14 (by kernel_rfl) (c := bodyOf Try.f14) (by kernel_rfl) (by kernel_rfl) ?_ (loops1 (by kernel_rfl) (lokf_Text_0))
  rintro ⟨⟨(f : List (RowE [.int .i64, .int .i64, .str, .str, .str, .str, .int .i64])), _⟩, _⟩ sv h
  refine Leads.eq (Leads.of_eq (tf_Text f) ?_)
  obtain ⟨ha, h⟩ := h
  have h := Out_leaf h
  subst h
  refine Leads.chk ha fun _ => Leads.brN (fun c => ?_) (fun c => Leads.one ?_)
  · have c : checkS f = 0 := c
    have hl := checkS_len c
    have h1 := tex_one c
    simp only [Int.toNat_zero, List.drop_zero]
    refine Leads.chk ⟨rfl, by decide, Int.natCast_nonneg _, hl, ha, by simp only [Int.toNat_zero, List.drop_zero]; exact chk_one c, by simp [lenT]⟩ fun _ => Leads.chk ⟨by decide, by rw [h1]; decide⟩ fun _ => Leads.one ?_
    rw [if_pos c, c]; rfl
  · have c : ¬ checkS f = 0 := c
    rw [if_neg c]
def Ef_Text : Es := (14, (Sf_Text)) :: Ef_text
theorem okf_Text : SatE P (En (Ef_Text)) := SatE.cons (satf_Text) okf_text
/-! ### legation/legationref06.text -/
def lkr_text_0 : St [.v false [.sl [.str]], .v false [.str], .v false [.int .i64]] → Prop := fun ⟨⟨(l : List (RowE [.str])), _⟩, ⟨(out : List UInt8), _⟩, ⟨(i : Int), _⟩, _⟩ => 0 ≤ i ∧ i ≤ l.length ∧ out.length + lenT (l.drop i.toNat) ≤ 2000000000000 ∧ lenT l ≤ 1000000000000
def lgr_text_0 : St [.v false [.sl [.str]], .v false [.str], .v false [.int .i64]] → Tr (Ex × List SV) := fun ⟨⟨(l : List (RowE [.str])), _⟩, ⟨(out : List UInt8), _⟩, ⟨(i : Int), _⟩, _⟩ => .leaf (.exit 1, [.val (.d (.str  (out ++ joinC (l.drop i.toNat))))])
def lmr_text_0 : St [.v false [.sl [.str]], .v false [.str], .v false [.int .i64]] → Nat := fun ⟨⟨(l : List (RowE [.str])), _⟩, ⟨(out : List UInt8), _⟩, ⟨(i : Int), _⟩, _⟩ => l.length - i.toNat
def lsr_text_0 : LoopS := mkR [1, 5, 6] [5] [] [.v false [.sl [.str]], .v false [.str], .v false [.int .i64]] (fun r => .chk (lkr_text_0 r) (lgr_text_0 r))
def Lr_text : Ls := [(15, lsr_text_0)]
def Sr_text := mkS [(true, ptS), (false, [.sl [.str]])] fun ⟨(p : RowE ptS), ⟨(l : List (RowE [.str])), _⟩, _⟩ => .chk (rightP p = true ∧ (l.length : Int) = needsS p ∧ szPt p ∧ lenT l ≤ 1000000000000) (.leaf (.val (.d (.str (txtS p l)))))
theorem ltr_text_0 (l : List (RowE [.str])) (out : List UInt8) (i : Int) : evRound T (Ep (Ef_Text)) (Ln (Lr_text)) (loopAt 0 (loops (bodyOf Try.f32))) (lsr_text_0) [.val (.d (.sl [.str] l)), .val (.d (.str  out)), .val (.d (.int .i64 i))] =
    br (decide (i < (↑l.length : Int))) (chk ((↑out.length : Int) + (↑[(32 : UInt8), (44 : UInt8), (32 : UInt8)].length : Int) ≤ maxI) (chk ((0 : Int) ≤ i ∧ i < (↑l.length : Int)) (chk ((↑(out ++ [(32 : UInt8), (44 : UInt8), (32 : UInt8)]).length : Int) + (↑(List.length (getR [Sh.str] l i).fst) : Int) ≤ maxI) (some (Rnd.again [SV.val (AV.d (D.sl [Sh.str] l)), SV.val (AV.d (D.str (out ++ [(32 : UInt8), (44 : UInt8), (32 : UInt8)] ++ (getR [Sh.str] l i).fst))), SV.val (AV.d (D.int IntKind.i64 (IntKind.i64.wrap (i + (1 : Int)))))]))))) (some (Rnd.out (Ex.exit (1 : Nat)) [SV.val (AV.d (D.str out))])) := by kernel_rfl
theorem lokr_text_0 : LoopOK T (Ep (Ef_Text)) (Ln (Lr_text)) (loopAt 0 (loops (bodyOf Try.f32))) := by
  refine loop_ok (live := [1, 5, 6]) (outs := [5]) (rets := []) (ks := [.v false [.sl [.str]], .v false [.str], .v false [.int .i64]]) (G := lgr_text_0) (lkr_text_0) (lmr_text_0) (by kernel_rfl) ?_
  rintro ⟨⟨(l : List (RowE [.str])), _⟩, ⟨(out : List UInt8), _⟩, ⟨(i : Int), _⟩, _⟩ x hok hx
  refine Leads.of_eq (ltr_text_0 l out i) ?_
  obtain ⟨h0, h1, hb, hbl⟩ := hok
  obtain rfl := Out_leaf hx
  obtain ⟨i, rfl⟩ := Int.eq_ofNat_of_zero_le h0
  simp only [Int.toNat_natCast] at hb ⊢
  refine Leads.brD (fun lt => ?_) (fun ge => Leads.one (Goes.out ?_))
  · have lt' : i < l.length := by omega
    have hbig := len_lenT l
    rw [txt_at lt', lenT] at hb
    rw [wrap64 (by omega) (by omega)]
    refine Leads.chk (by simp only [List.length_cons, List.length_nil, maxI]; omega) fun _ => Leads.chk ⟨h0, lt⟩ fun _ => Leads.chk (by simp only [List.length_append, List.length_cons, List.length_nil, maxI]; omega) fun _ => Leads.one ?_
    refine Goes.again (ks := [.v false [.sl [.str]], .v false [.str], .v false [.int .i64]]) ((l, ()), (out ++ [32, 44, 32] ++ (getR [.str] l (i : Int)).1, ()), ((i : Int) + 1, ()), ()) rfl ?_ ?_ ?_
    · refine ⟨(by omega : 0 ≤ (i : Int) + 1), (by omega : (i : Int) + 1 ≤ (l.length : Int)), ?_, hbl⟩
      show (out ++ [32, 44, 32] ++ (getR [.str] l (i : Int)).1).length + lenT (l.drop ((i : Int) + 1).toNat) ≤ _
      rw [toNat_add1]
      simp only [List.length_append, List.length_cons, List.length_nil]; omega
    · show l.length - ((i : Int) + 1).toNat < l.length - (i : Int).toNat
      simp only [toNat_add1, Int.toNat_natCast]; omega
    · show _ = _
      rw [toNat_add1, txt_at lt', joinC]
      simp [List.append_assoc]
  · rw [List.drop_of_length_le (by omega)]; simp [joinC]
theorem tr_text (p : RowE ptS) (l : List (RowE [.str])) : evF T (Ep (Ef_Text)) (Ln (Lr_text)) Try.f32 [.agg (rowD ptS p), .d (.sl [.str] l)] =
    br (p.fst == (1 : Int)) (chk (List.length p.snd.snd.fst ≤ (1152921504606846976 : Nat) ∧ List.length p.snd.snd.snd.fst ≤ (1152921504606846976 : Nat) ∧ List.length p.snd.snd.snd.snd.fst ≤ (1152921504606846976 : Nat) ∧ ((p.snd.fst, p.snd.snd.fst, p.snd.snd.snd.fst, p.snd.snd.snd.snd.fst, ()).fst = (2 : CE (Sh.int IntKind.i64)) → (p.snd.fst, p.snd.snd.fst, p.snd.snd.snd.fst, p.snd.snd.snd.snd.fst, ()).snd.snd.fst = [] ∨ (p.snd.fst, p.snd.snd.fst, p.snd.snd.snd.fst, p.snd.snd.snd.snd.fst, ()).snd.snd.snd.fst = [])) (some (SV.val (AV.d (D.str (textT (p.snd.fst, p.snd.snd.fst, p.snd.snd.snd.fst, p.snd.snd.snd.snd.fst, ())))))))
  (br (p.fst == (2 : Int)) (chk ((↑[(63 : UInt8)].length : Int) + (↑(List.length p.snd.snd.snd.snd.snd.fst) : Int) ≤ maxI) (some (SV.val (AV.d (D.str ([(63 : UInt8)] ++ p.snd.snd.snd.snd.snd.fst)))))) (br (p.fst == (3 : Int)) (chk ((↑[(66 : UInt8), (79 : UInt8), (85 : UInt8), (78 : UInt8), (68 : UInt8), (32 : UInt8), (40 : UInt8), (32 : UInt8), (63 : UInt8)].length : Int) + (↑(List.length p.snd.snd.snd.snd.snd.fst) : Int) ≤ maxI) (chk ((↑([(66 : UInt8), (79 : UInt8), (85 : UInt8), (78 : UInt8), (68 : UInt8), (32 : UInt8), (40 : UInt8), (32 : UInt8), (63 : UInt8)] ++ p.snd.snd.snd.snd.snd.fst).length : Int) + (↑[(32 : UInt8), (41 : UInt8)].length : Int) ≤ maxI) (some (SV.val (AV.d (D.str ([(66 : UInt8), (79 : UInt8), (85 : UInt8), (78 : UInt8), (68 : UInt8), (32 : UInt8), (40 : UInt8), (32 : UInt8), (63 : UInt8)] ++ p.snd.snd.snd.snd.snd.fst ++ [(32 : UInt8), (41 : UInt8)]))))))) (br (p.fst == (4 : Int)) (chk ((↑(List.length (signT p.fst)) : Int) + (↑[(32 : UInt8)].length : Int) ≤ maxI) (chk ((0 : Int) ≤ (0 : Int) ∧ (0 : Int) < (↑l.length : Int)) (chk ((↑(signT p.fst ++ [(32 : UInt8)]).length : Int) + (↑(List.length (getR [Sh.str] l (0 : Int)).fst) : Int) ≤ maxI) (some (SV.val (AV.d (D.str (signT p.fst ++ [(32 : UInt8)] ++ (getR [Sh.str] l (0 : Int)).fst)))))))) (br (p.fst == (5 : Int)) (chk ((↑(List.length (signT p.fst)) : Int) + (↑[(32 : UInt8)].length : Int) ≤ maxI) (chk ((0 : Int) ≤ (0 : Int) ∧ (0 : Int) < (↑l.length : Int)) (chk ((↑(signT p.fst ++ [(32 : UInt8)]).length : Int) + (↑(List.length (getR [Sh.str] l (0 : Int)).fst) : Int) ≤ maxI) (some (SV.val (AV.d (D.str (signT p.fst ++ [(32 : UInt8)] ++ (getR [Sh.str] l (0 : Int)).fst)))))))) (br (decide (p.fst < (18 : Int))) (chk ((0 : Int) ≤ (0 : Int) ∧ (0 : Int) < (↑l.length : Int)) (chk ((↑[(40 : UInt8), (32 : UInt8)].length : Int) + (↑(List.length (getR [Sh.str] l (0 : Int)).fst) : Int) ≤ maxI) (chk ((↑([(40 : UInt8), (32 : UInt8)] ++ (getR [Sh.str] l (0 : Int)).fst).length : Int) + (↑[(32 : UInt8)].length : Int) ≤ maxI) (chk ((↑([(40 : UInt8), (32 : UInt8)] ++ (getR [Sh.str] l (0 : Int)).fst ++ [(32 : UInt8)]).length : Int) + (↑(List.length (signT p.fst)) : Int) ≤ maxI) (chk ((↑([(40 : UInt8), (32 : UInt8)] ++ (getR [Sh.str] l (0 : Int)).fst ++ [(32 : UInt8)] ++ signT p.fst).length : Int) + (↑[(32 : UInt8)].length : Int) ≤ maxI) (chk ((0 : Int) ≤ (1 : Int) ∧ (1 : Int) < (↑l.length : Int)) (chk ((↑([(40 : UInt8), (32 : UInt8)] ++ (getR [Sh.str] l (0 : Int)).fst ++ [(32 : UInt8)] ++ signT p.fst ++ [(32 : UInt8)]).length : Int) + (↑(List.length (getR [Sh.str] l (1 : Int)).fst) : Int) ≤ maxI) (chk ((↑([(40 : UInt8), (32 : UInt8)] ++ (getR [Sh.str] l (0 : Int)).fst ++ [(32 : UInt8)] ++ signT p.fst ++ [(32 : UInt8)] ++ (getR [Sh.str] l (1 : Int)).fst).length : Int) + (↑[(32 : UInt8), (41 : UInt8)].length : Int) ≤ maxI) (some (SV.val (AV.d (D.str ([(40 : UInt8), (32 : UInt8)] ++ (getR [Sh.str] l (0 : Int)).fst ++ [(32 : UInt8)] ++ signT p.fst ++ [(32 : UInt8)] ++ (getR [Sh.str] l (1 : Int)).fst ++ [(32 : UInt8), (41 : UInt8)]))))))))))))) (chk ((↑(List.length (wordT p.fst)) : Int) + (↑[(32 : UInt8), (40 : UInt8), (32 : UInt8)].length : Int) ≤ maxI) (chk ((0 : Int) ≤ (0 : Int) ∧ (0 : Int) < (↑l.length : Int)) (chk ((↑(wordT p.fst ++ [(32 : UInt8), (40 : UInt8), (32 : UInt8)]).length : Int) + (↑(List.length (getR [Sh.str] l (0 : Int)).fst) : Int) ≤ maxI) (chk (lkr_text_0 ((l, ()), (wordT p.fst ++ [(32 : UInt8), (40 : UInt8), (32 : UInt8)] ++ (getR [Sh.str] l (0 : Int)).fst, ()), ((1 : Int), ()), ())) (chk ((↑(wordT p.fst ++ [(32 : UInt8), (40 : UInt8), (32 : UInt8)] ++ (getR [Sh.str] l (0 : Int)).fst ++ joinC (List.drop (Int.toNat (1 : Int)) l)).length : Int) + (↑[(32 : UInt8), (41 : UInt8)].length : Int) ≤ maxI) (some (SV.val (AV.d (D.str (wordT p.fst ++ [(32 : UInt8), (40 : UInt8), (32 : UInt8)] ++ (getR [Sh.str] l (0 : Int)).fst ++ joinC (List.drop (Int.toNat (1 : Int)) l) ++ [(32 : UInt8), (41 : UInt8)]))))))))))))))) := by kernel_rfl
theorem satr_text : Sat P 32 (Sr_text) := by
  refine sat_mk (LT := Ln (Lr_text)) hC (SatE.ep okf_Text) mixed Try.func32 (by kernel_rfl) (c := bodyOf Try.f32) (by kernel_rfl) (by kernel_rfl) ?_ (loops1 (by kernel_rfl) (lokr_text_0))
  rintro ⟨(p : RowE ptS), ⟨(l : List (RowE [.str])), _⟩, _⟩ sv h
  refine Leads.eq (Leads.of_eq (tr_text p l) ?_)
  obtain ⟨⟨hp, hl, hs, hb⟩, h⟩ := h
  have h := Out_leaf h
  subst h
  have sl := signT_len p.1
  have al := argsT_len l
  have l0 := nth_len l 0
  have e0 : ((0 : Nat) : Int) = 0 := rfl
  rw [e0] at l0
  have hn := rightP_needs hp
  have l0 : (getR [.str] l 0).1.length ≤ lenT l := l0
  obtain ⟨s1, s2, s3, s4⟩ := id hs
  have key : ∀ b, b = txtS p l → SV.val (.d (.str b)) = SV.val (.d (.str (txtS p l))) := fun b e => by rw [e]

  have hB := Big_eq
  refine Leads.brE (fun k1 => ?_) (fun k1 => ?_)
  · have k1 : p.1 = 1 := k1
    have hr := hp
    rw [rightP, if_pos k1] at hr
    simp only [Bool.and_eq_true] at hr
    exact Leads.chk ⟨by omega, by omega, by omega, fun e => right_or hr.1 e⟩ fun _ => Leads.one (key _ (txt_1 k1).symm)
  refine Leads.brE (fun k2 => ?_) (fun k2 => Leads.brE (fun k3 => ?_) (fun k3 => ?_))
  · exact Leads.chk (by first | (simp only [List.length_append, List.length_cons, List.length_nil, maxI, boundT]; omega) | omega | decide) fun _ => Leads.one (key _ (txt_2 k2).symm)
  · exact Leads.chk (by first | (simp only [List.length_append, List.length_cons, List.length_nil, maxI, boundT]; omega) | omega | decide) fun _ => Leads.chk (by first | (simp only [List.length_append, List.length_cons, List.length_nil, maxI, boundT]; omega) | omega | decide) fun _ => Leads.one (key _ (txt_3 k3).symm)
  have kk := part_kinds hp k1 k2 k3
  refine Leads.brE (fun k4 => ?_) (fun k4 => Leads.brE (fun k5 => ?_) (fun k5 => ?_))
  · have := part_one hl (.inl k4)
    exact Leads.chk (by first | (simp only [List.length_append, List.length_cons, List.length_nil, maxI, boundT]; omega) | omega | decide) fun _ => Leads.chk ⟨by decide, by omega⟩ fun _ => Leads.chk (by first | (simp only [List.length_append, List.length_cons, List.length_nil, maxI, boundT]; omega) | omega | decide) fun _ => Leads.one (key _ (txt_4 (.inl k4)).symm)
  · have := part_one hl (.inr k5)
    exact Leads.chk (by first | (simp only [List.length_append, List.length_cons, List.length_nil, maxI, boundT]; omega) | omega | decide) fun _ => Leads.chk ⟨by decide, by omega⟩ fun _ => Leads.chk (by first | (simp only [List.length_append, List.length_cons, List.length_nil, maxI, boundT]; omega) | omega | decide) fun _ => Leads.one (key _ (txt_4 (.inr k5)).symm)
  have k6 := kind6 kk k4 k5
  refine Leads.brD (fun k17 => ?_) (fun k17 => ?_)
  · have k17 := kind17 k17
    have h1 := part_two hl k6 k17
    have t2 := two_len h1
    have t2 : (getR [.str] l 0).1.length + (getR [.str] l 1).1.length + 16 ≤ lenT l := t2
    exact Leads.chk ⟨by decide, by omega⟩ fun _ => Leads.chk (by first | (simp only [List.length_append, List.length_cons, List.length_nil, maxI, boundT]; omega) | omega | decide) fun _ => Leads.chk (by first | (simp only [List.length_append, List.length_cons, List.length_nil, maxI, boundT]; omega) | omega | decide) fun _ => Leads.chk (by first | (simp only [List.length_append, List.length_cons, List.length_nil, maxI, boundT]; omega) | omega | decide) fun _ => Leads.chk (by first | (simp only [List.length_append, List.length_cons, List.length_nil, maxI, boundT]; omega) | omega | decide) fun _ => Leads.chk ⟨by decide, by omega⟩ fun _ => Leads.chk (by first | (simp only [List.length_append, List.length_cons, List.length_nil, maxI, boundT]; omega) | omega | decide) fun _ => Leads.chk (by first | (simp only [List.length_append, List.length_cons, List.length_nil, maxI, boundT]; omega) | omega | decide) fun _ => Leads.one (key _ (txt_6 k6 k17).symm)
  · have k18 : 18 ≤ p.1 := Int.not_lt.1 k17
    have h1 := part_some hp hl k18
    rw [wordT_eq k18]
    have hd := txt_at (l := l) (i := 0) h1
    have hs := lenT_split l 0
    rw [hd, lenT] at hs
    have ed : l = getR [.str] l 0 :: l.drop 1 := by have := hd; rw [List.drop_zero] at this; exact this
    have ea : argsT l = (getR [.str] l 0).1 ++ joinC (l.drop 1) := (congrArg argsT ed).trans rfl
    have hj := joinC_len (l.drop 1)
    have e0 : ((0 : Nat) : Int) = 0 := rfl
    rw [e0] at hs
    have hs2 : lenT (l.drop (0 + 1)) = lenT (l.drop 1) := rfl
    have e1 : (1 : Int).toNat = 1 := rfl
    refine Leads.chk (by first | (simp only [List.length_append, List.length_cons, List.length_nil, maxI, boundT]; omega) | omega | decide) fun _ => Leads.chk ⟨by decide, by omega⟩ fun _ => Leads.chk (by first | (simp only [List.length_append, List.length_cons, List.length_nil, maxI, boundT]; omega) | omega | decide) fun _ => Leads.chk ⟨by decide, by omega, by rw [e1]; simp only [List.length_append, List.length_cons, List.length_nil]; omega, hb⟩ fun _ => ?_
    rw [e1]
    refine Leads.chk (by first | (simp only [List.length_append, List.length_cons, List.length_nil, maxI, boundT]; omega) | omega | decide) fun _ => Leads.one (key _ ?_)
    rw [txt_18 k18, ea]
    simp only [List.append_assoc]
def Er_text : Es := (32, (Sr_text)) :: Ef_Text
theorem okr_text : SatE P (En (Er_text)) := SatE.cons (satr_text) okf_Text
/-! ### legation/legationref06.Text -/
def lkr_Text_0 : St [.v false [.sl [.int .i64, .int .i64, .str, .str, .str, .str, .int .i64]], .a [.str], .v false [.int .i64]] → Prop := fun ⟨⟨(f : List (RowE [.int .i64, .int .i64, .str, .str, .str, .str, .int .i64])), _⟩, (l : List (RowE [.str])), ⟨(i : Int), _⟩, _⟩ => 0 ≤ i ∧ i ≤ f.length ∧ f.length ≤ 256 ∧ allPt f ∧ (chkN (f.drop i.toNat) (l.length : Int)) = 1 ∧ lenT l ≤ 17000 * i.toNat
def lgr_Text_0 : St [.v false [.sl [.int .i64, .int .i64, .str, .str, .str, .str, .int .i64]], .a [.str], .v false [.int .i64]] → Tr (Ex × List SV) := fun ⟨⟨(f : List (RowE [.int .i64, .int .i64, .str, .str, .str, .str, .int .i64])), _⟩, (l : List (RowE [.str])), ⟨(i : Int), _⟩, _⟩ => .leaf (.exit 0, [.app [.str] (texF (f.drop i.toNat) l)])
def lmr_Text_0 : St [.v false [.sl [.int .i64, .int .i64, .str, .str, .str, .str, .int .i64]], .a [.str], .v false [.int .i64]] → Nat := fun ⟨⟨(f : List (RowE [.int .i64, .int .i64, .str, .str, .str, .str, .int .i64])), _⟩, (l : List (RowE [.str])), ⟨(i : Int), _⟩, _⟩ => f.length - i.toNat
def lsr_Text_0 : LoopS := mkR [0, 3, 4] [3] [] [.v false [.sl [.int .i64, .int .i64, .str, .str, .str, .str, .int .i64]], .a [.str], .v false [.int .i64]] (fun r => .chk (lkr_Text_0 r) (lgr_Text_0 r))
def Lr_Text : Ls := [(3, lsr_Text_0)]
def Sr_Text := mkS [(false, [.sl [.int .i64, .int .i64, .str, .str, .str, .str, .int .i64]])] fun ⟨⟨(f : List (RowE [.int .i64, .int .i64, .str, .str, .str, .str, .int .i64])), _⟩, _⟩ => .chk (allPt f ∧ checkS f = 0) (.leaf (.val (.d (.str (textF f)))))
theorem ltr_Text_0 (f : List (RowE [.int .i64, .int .i64, .str, .str, .str, .str, .int .i64])) (l : List (RowE [.str])) (i : Int) : evRound T (Ep (Er_text)) (Ln (Lr_Text)) (loopAt 0 (loops (bodyOf Try.f20))) (lsr_Text_0) [.val (.d (.sl [.int .i64, .int .i64, .str, .str, .str, .str, .int .i64] f)), .app [.str] l, .val (.d (.int .i64 i))] =
    br (decide (i < (↑f.length : Int))) (chk ((0 : Int) ≤ i ∧ i < (↑f.length : Int)) (chk ((0 : Int) ≤ i ∧ i < (↑f.length : Int)) (chk ((0 : Int) ≤ IntKind.i64.wrap ((↑l.length : Int) - needsS (getR ptS f i)) ∧ IntKind.i64.wrap ((↑l.length : Int) - needsS (getR ptS f i)) ≤ (↑l.length : Int)) (chk (rightP (getR ptS f i) = true ∧ (↑(List.drop (IntKind.i64.wrap ((↑l.length : Int) - needsS (getR ptS f i))).toNat l).length : Int) = needsS (getR ptS f i) ∧ szPt (getR ptS f i) ∧ lenT (List.drop (IntKind.i64.wrap ((↑l.length : Int) - needsS (getR ptS f i))).toNat l) ≤ (1000000000000 : Nat)) (chk ((0 : Int) ≤ IntKind.i64.wrap ((↑l.length : Int) - needsS (getR ptS f i)) ∧ IntKind.i64.wrap ((↑l.length : Int) - needsS (getR ptS f i)) ≤ (↑l.length : Int)) (chk (((↑(List.nil (α := RowE [.int .u8])).length : Int) + (↑(List.take (IntKind.i64.wrap ((↑l.length : Int) - needsS (getR ptS f i))).toNat l).length : Int)) * (↑(16 : Nat) : Int) < lim) (chk (((↑([] ++ List.take (IntKind.i64.wrap ((↑l.length : Int) - needsS (getR ptS f i))).toNat l).length : Int) + (↑[(txtS (getR ptS f i) (List.drop (IntKind.i64.wrap ((↑l.length : Int) - needsS (getR ptS f i))).toNat l), ())].length : Int)) * (↑(16 : Nat) : Int) < lim) (some (Rnd.again [SV.val (AV.d (D.sl ptS f)), SV.app [Sh.str] ([] ++ List.take (IntKind.i64.wrap ((↑l.length : Int) - needsS (getR ptS f i))).toNat l ++ [(txtS (getR ptS f i) (List.drop (IntKind.i64.wrap ((↑l.length : Int) - needsS (getR ptS f i))).toNat l), ())]), SV.val (AV.d (D.int IntKind.i64 (IntKind.i64.wrap (i + (1 : Int)))))]))))))))) (some (Rnd.out (Ex.exit (0 : Nat)) [SV.app [Sh.str] l])) := by kernel_rfl
theorem lokr_Text_0 : LoopOK T (Ep (Er_text)) (Ln (Lr_Text)) (loopAt 0 (loops (bodyOf Try.f20))) := by
  refine loop_ok (live := [0, 3, 4]) (outs := [3]) (rets := []) (ks := [.v false [.sl [.int .i64, .int .i64, .str, .str, .str, .str, .int .i64]], .a [.str], .v false [.int .i64]]) (G := lgr_Text_0) (lkr_Text_0) (lmr_Text_0) (by kernel_rfl) ?_
  rintro ⟨⟨(f : List (RowE [.int .i64, .int .i64, .str, .str, .str, .str, .int .i64])), _⟩, (l : List (RowE [.str])), ⟨(i : Int), _⟩, _⟩ x hok hx
  refine Leads.of_eq (ltr_Text_0 f l i) ?_
  obtain ⟨h0, h1, hl, ha, hc, hb⟩ := hok
  obtain rfl := Out_leaf hx
  obtain ⟨i, rfl⟩ := Int.eq_ofNat_of_zero_le h0
  simp only [Int.toNat_natCast] at hc hb ⊢
  refine Leads.brD (fun lt => Leads.chk ⟨h0, lt⟩ fun _ => Leads.chk ⟨h0, lt⟩ fun _ => ?_) (fun ge => Leads.one (Goes.out ?_))
  · have lt' : i < f.length := by omega
    obtain ⟨g1, g2, g3, g4, g5, g6, g7, g8, g9⟩ := tex_step lt' hc hb hl
    have ew : IntKind.i64.wrap ((l.length : Int) - needsS (getR ptS f (i : Int))) = ((keepN l (getR ptS f (i : Int)) : Nat) : Int) := by
      rw [wrap64 (by omega) (by omega)]; omega
    rw [ew, wrap64 (by omega) (by omega)]
    simp only [Int.toNat_natCast, List.nil_append]
    refine Leads.chk ⟨by omega, by omega⟩ fun _ => Leads.chk ⟨g1, g4, ha _ (part_mem lt'), g5⟩ fun _ => Leads.chk ⟨by omega, by omega⟩ fun _ => Leads.chk (by simp only [List.length_take, List.length_cons, List.length_nil, lim]; omega) fun _ => Leads.chk (by simp only [List.length_take, List.length_cons, List.length_nil, lim]; omega) fun _ => Leads.one ?_
    refine Goes.again (ks := [.v false [.sl [.int .i64, .int .i64, .str, .str, .str, .str, .int .i64]], .a [.str], .v false [.int .i64]]) ((f, ()), nextT l (getR ptS f (i : Int)), ((i : Int) + 1, ()), ()) rfl ?_ ?_ ?_
    · exact ⟨(by omega : 0 ≤ (i : Int) + 1), (by omega : (i : Int) + 1 ≤ (f.length : Int)), hl, ha, by rw [toNat_add1]; exact g7, by rw [toNat_add1]; exact g8⟩
    · show f.length - ((i : Int) + 1).toNat < f.length - (i : Int).toNat
      simp only [toNat_add1, Int.toNat_natCast]; omega
    · show _ = _
      rw [toNat_add1, g9]
  · rw [List.drop_of_length_le (by omega)]; rfl
theorem tr_Text (f : List (RowE [.int .i64, .int .i64, .str, .str, .str, .str, .int .i64])) : evF T (Ep (Er_text)) (Ln (Lr_Text)) Try.f20 [.d (.sl [.int .i64, .int .i64, .str, .str, .str, .str, .int .i64] f)] =
    chk (lkr_Text_0 ((f, ()), [], ((0 : Int), ()), ())) (chk ((0 : Int) ≤ (0 : Int) ∧ (0 : Int) < (↑(List.length (texF (List.drop (Int.toNat (0 : Int)) f) [])) : Int)) (some (SV.val (AV.d (D.str (getR [Sh.str] (texF (List.drop (Int.toNat (0 : Int)) f) []) (0 : Int)).fst))))) := by kernel_rfl
theorem satr_Text : Sat P 20 (Sr_Text) := by
  refine sat_mk (LT := Ln (Lr_Text)) hC (SatE.ep okr_text) mixed Try.func20 (by kernel_rfl) (c := bodyOf Try.f20) (by kernel_rfl) (by kernel_rfl) ?_ (loops1 (by kernel_rfl) (lokr_Text_0))
  rintro ⟨⟨(f : List (RowE [.int .i64, .int .i64, .str, .str, .str, .str, .int .i64])), _⟩, _⟩ sv h
  refine Leads.eq (Leads.of_eq (tr_Text f) ?_)
  obtain ⟨⟨ha, c⟩, h⟩ := h
  have h := Out_leaf h
  subst h
  have hl := checkS_len c
  have h1 := tex_one c
  simp only [Int.toNat_zero, List.drop_zero]
  exact Leads.chk ⟨by decide, Int.natCast_nonneg _, hl, ha, by simp only [Int.toNat_zero, List.drop_zero]; exact chk_one c, by simp [lenT]⟩ fun _ => Leads.chk ⟨by decide, by rw [h1]; decide⟩ fun _ => Leads.one rfl
def Er_Text : Es := (20, (Sr_Text)) :: Er_text
theorem okr_Text : SatE P (En (Er_Text)) := SatE.cons (satr_Text) okr_text
end Go.Proofs.Ytoopcfjmmhmamaa.T6
