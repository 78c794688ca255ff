/- Part of a proof of the seat's statements: no statement by itself. -/
import Derived.Test.YtglchbjdjnffcaaT3E
set_option maxRecDepth 100000
open Go.Proofs.Ytglchbjdjnffcaa.Lg Go Go.Proofs.Ytglchbjdjnffcaa.Sp
open Go.Proofs
namespace Go.Proofs.Ytglchbjdjnffcaa.T3


/-! ### legation/legationref03.Same -/
def lkr3_Same_0 : St [.v false [.sl [.int .i64, .str, .str, .str, .int .i64, .str, .str, .str, .int .i64, .str, .str, .str]], .v false [.sl [.int .i64, .str, .str, .str, .int .i64, .str, .str, .str, .int .i64, .str, .str, .str]], .v false [.int .i64]] → Prop := fun ⟨⟨(a : List (RowE [.int .i64, .str, .str, .str, .int .i64, .str, .str, .str, .int .i64, .str, .str, .str])), _⟩, ⟨(b : List (RowE [.int .i64, .str, .str, .str, .int .i64, .str, .str, .str, .int .i64, .str, .str, .str])), _⟩, ⟨(i : Int), _⟩, _⟩ => 0 ≤ i ∧ i ≤ (a.length : Int) ∧ a.length = b.length ∧ a.length ≤ 1152921504606846976
def lgr3_Same_0 : St [.v false [.sl [.int .i64, .str, .str, .str, .int .i64, .str, .str, .str, .int .i64, .str, .str, .str]], .v false [.sl [.int .i64, .str, .str, .str, .int .i64, .str, .str, .str, .int .i64, .str, .str, .str]], .v false [.int .i64]] → Tr (Ex × List SV) := fun ⟨⟨(a : List (RowE [.int .i64, .str, .str, .str, .int .i64, .str, .str, .str, .int .i64, .str, .str, .str])), _⟩, ⟨(b : List (RowE [.int .i64, .str, .str, .str, .int .i64, .str, .str, .str, .int .i64, .str, .str, .str])), _⟩, ⟨(i : Int), _⟩, _⟩ => .br (sameT3 (a.drop i.toNat) (b.drop i.toNat)) (.leaf (.exit 0, [])) (.leaf (.ret, [.val (.d (.bool  (false)))]))
def lmr3_Same_0 : St [.v false [.sl [.int .i64, .str, .str, .str, .int .i64, .str, .str, .str, .int .i64, .str, .str, .str]], .v false [.sl [.int .i64, .str, .str, .str, .int .i64, .str, .str, .str, .int .i64, .str, .str, .str]], .v false [.int .i64]] → Nat := fun ⟨⟨(a : List (RowE [.int .i64, .str, .str, .str, .int .i64, .str, .str, .str, .int .i64, .str, .str, .str])), _⟩, ⟨(b : List (RowE [.int .i64, .str, .str, .str, .int .i64, .str, .str, .str, .int .i64, .str, .str, .str])), _⟩, ⟨(i : Int), _⟩, _⟩ => a.length - i.toNat
def lsr3_Same_0 : LoopS := mkR [0, 1, 5] [] [4] [.v false [.sl [.int .i64, .str, .str, .str, .int .i64, .str, .str, .str, .int .i64, .str, .str, .str]], .v false [.sl [.int .i64, .str, .str, .str, .int .i64, .str, .str, .str, .int .i64, .str, .str, .str]], .v false [.int .i64]] (fun r => .chk (lkr3_Same_0 r) (lgr3_Same_0 r))
def Lr3_Same : Ls := [(4, lsr3_Same_0)]
def Sr3_Same := mkS [(false, [.sl [.int .i64, .str, .str, .str, .int .i64, .str, .str, .str, .int .i64, .str, .str, .str]]), (false, [.sl [.int .i64, .str, .str, .str, .int .i64, .str, .str, .str, .int .i64, .str, .str, .str]])] fun ⟨⟨(a : List (RowE [.int .i64, .str, .str, .str, .int .i64, .str, .str, .str, .int .i64, .str, .str, .str])), _⟩, ⟨(b : List (RowE [.int .i64, .str, .str, .str, .int .i64, .str, .str, .str, .int .i64, .str, .str, .str])), _⟩, _⟩ => .chk (a.length ≤ 1152921504606846976 ∧ b.length ≤ 1152921504606846976) (bl (same3 a b))
theorem ltr3_Same_0 (a : List (RowE [.int .i64, .str, .str, .str, .int .i64, .str, .str, .str, .int .i64, .str, .str, .str])) (b : List (RowE [.int .i64, .str, .str, .str, .int .i64, .str, .str, .str, .int .i64, .str, .str, .str])) (i : Int) : evRound T (En (EtRead)) (Ln (Lr3_Same)) (loopAt 0 (loops (bodyOf Try.f12))) (lsr3_Same_0) [.val (.d (.sl [.int .i64, .str, .str, .str, .int .i64, .str, .str, .str, .int .i64, .str, .str, .str] a)), .val (.d (.sl [.int .i64, .str, .str, .str, .int .i64, .str, .str, .str, .int .i64, .str, .str, .str] b)), .val (.d (.int .i64 i))] =
    br (decide (i < (↑a.length : Int)))
  (chk ((0 : Int) ≤ i ∧ i < (↑a.length : Int))
    (chk ((0 : Int) ≤ i ∧ i < (↑b.length : Int))
      (br
        (!((getR t3S a i).fst == (getR t3S b i).fst &&
            ((getR t3S a i).snd.fst == (getR t3S b i).snd.fst && ((getR t3S a i).snd.snd.fst == (getR t3S b i).snd.snd.fst && ((getR t3S a i).snd.snd.snd.fst == (getR t3S b i).snd.snd.snd.fst && ((getR t3S a i).snd.snd.snd.snd.fst == (getR t3S b i).snd.snd.snd.snd.fst && ((getR t3S a i).snd.snd.snd.snd.snd.fst == (getR t3S b i).snd.snd.snd.snd.snd.fst && ((getR t3S a i).snd.snd.snd.snd.snd.snd.fst == (getR t3S b i).snd.snd.snd.snd.snd.snd.fst && ((getR t3S a i).snd.snd.snd.snd.snd.snd.snd.fst == (getR t3S b i).snd.snd.snd.snd.snd.snd.snd.fst && ((getR t3S a i).snd.snd.snd.snd.snd.snd.snd.snd.fst == (getR t3S b i).snd.snd.snd.snd.snd.snd.snd.snd.fst && ((getR t3S a i).snd.snd.snd.snd.snd.snd.snd.snd.snd.fst == (getR t3S b i).snd.snd.snd.snd.snd.snd.snd.snd.snd.fst && ((getR t3S a i).snd.snd.snd.snd.snd.snd.snd.snd.snd.snd.fst == (getR t3S b i).snd.snd.snd.snd.snd.snd.snd.snd.snd.snd.fst && (getR t3S a i).snd.snd.snd.snd.snd.snd.snd.snd.snd.snd.snd.fst == (getR t3S b i).snd.snd.snd.snd.snd.snd.snd.snd.snd.snd.snd.fst))))))))))))
        (some (Rnd.out Ex.ret [SV.val (AV.d (D.bool false))])) (some (Rnd.again [SV.val (AV.d (D.sl t3S a)), SV.val (AV.d (D.sl t3S b)), SV.val (AV.d (D.int IntKind.i64 (IntKind.i64.wrap (i + (1 : Int)))))])))))
  (some (Rnd.out (Ex.exit (0 : Nat)) [])) := by kernel_rfl
theorem lokr3_Same_0 : LoopOK T (En (EtRead)) (Ln (Lr3_Same)) (loopAt 0 (loops (bodyOf Try.f12))) := by
  refine loop_ok (live := [0, 1, 5]) (outs := []) (rets := [4]) (ks := [.v false [.sl [.int .i64, .str, .str, .str, .int .i64, .str, .str, .str, .int .i64, .str, .str, .str]], .v false [.sl [.int .i64, .str, .str, .str, .int .i64, .str, .str, .str, .int .i64, .str, .str, .str]], .v false [.int .i64]]) (G := lgr3_Same_0) (lkr3_Same_0) (lmr3_Same_0) (by kernel_rfl) ?_
  rintro ⟨⟨(a : List (RowE [.int .i64, .str, .str, .str, .int .i64, .str, .str, .str, .int .i64, .str, .str, .str])), _⟩, ⟨(b : List (RowE [.int .i64, .str, .str, .str, .int .i64, .str, .str, .str, .int .i64, .str, .str, .str])), _⟩, ⟨(i : Int), _⟩, _⟩ x hok hx
  refine Leads.of_eq (ltr3_Same_0 a b i) ?_
  obtain ⟨h0, h1, h2, h3⟩ := hok
  obtain ⟨m, rfl⟩ := Int.eq_ofNat_of_zero_le h0
  simp only [lgr3_Same_0, Int.toNat_natCast] at hx
  rcases drop_cases a m with ⟨hle, hd⟩ | ⟨x1, hlt, hd, hb⟩
  · rw [hd] at hx
    exact Leads.brD (fun q => by omega) (fun _ => Leads.one (Goes.out (Out_leaf (Out_tt hx))))
  rcases drop_cases b m with ⟨hle', hd'⟩ | ⟨x2, hlt', hd', hb'⟩
  · omega
  rw [hd, hd'] at hx
  simp only [sameT3] at hx
  rw [getR_of hb, getR_of hb', wrap64 (by omega) (by omega)]
  refine Leads.brD (fun _ => Leads.chk (by omega) fun _ => Leads.chk (by omega) fun _ => Leads.brG (fun e1 => Leads.one ?_) (fun e1 => Leads.one (Goes.out ?_))) (fun q => by omega)
  · have e1 : eq3 x1 x2 = true := e1
    rw [e1, Bool.true_and] at hx
    refine Goes.again (ks := [.v false [.sl [.int .i64, .str, .str, .str, .int .i64, .str, .str, .str, .int .i64, .str, .str, .str]], .v false [.sl [.int .i64, .str, .str, .str, .int .i64, .str, .str, .str, .int .i64, .str, .str, .str]], .v false [.int .i64]]) ((_, ()), (_, ()), (_, ()), ()) rfl ?_ ?_ ?_
    · exact ⟨by omega, by omega, h2, h3⟩
    · simp only [lmr3_Same_0]; omega
    · simp only [lgr3_Same_0, toNat_add1]; exact hx
  · have e1 : eq3 x1 x2 = false := e1
    rw [e1] at hx
    exact Out_leaf (Out_ff hx)
theorem tr3_Same (a : List (RowE [.int .i64, .str, .str, .str, .int .i64, .str, .str, .str, .int .i64, .str, .str, .str])) (b : List (RowE [.int .i64, .str, .str, .str, .int .i64, .str, .str, .str, .int .i64, .str, .str, .str])) : evF T (En (EtRead)) (Ln (Lr3_Same)) Try.f12 [.d (.sl [.int .i64, .str, .str, .str, .int .i64, .str, .str, .str, .int .i64, .str, .str, .str] a), .d (.sl [.int .i64, .str, .str, .str, .int .i64, .str, .str, .str, .int .i64, .str, .str, .str] b)] =
    br ((↑a.length : Int) != (↑b.length : Int)) (some (SV.val (AV.d (D.bool false)))) (chk (lkr3_Same_0 ((a, ()), (b, ()), ((0 : Int), ()), ())) (br (sameT3 (List.drop (Int.toNat (0 : Int)) a) (List.drop (Int.toNat (0 : Int)) b)) (some (SV.val (AV.d (D.bool true)))) (some (SV.val (AV.d (D.bool false)))))) := by kernel_rfl
theorem satr3_Same : Sat P 12 (Sr3_Same) := by
  refine sat_mk (LT := Ln (Lr3_Same)) hC oktRead mixed Try.func12 (by kernel_rfl) (c := bodyOf Try.f12) (by kernel_rfl) (by kernel_rfl) ?_ (loops1 (by kernel_rfl) (lokr3_Same_0))
  rintro ⟨⟨(a : List (RowE [.int .i64, .str, .str, .str, .int .i64, .str, .str, .str, .int .i64, .str, .str, .str])), _⟩, ⟨(b : List (RowE [.int .i64, .str, .str, .str, .int .i64, .str, .str, .str, .int .i64, .str, .str, .str])), _⟩, _⟩ sv h
  refine Leads.eq (Leads.of_eq (tr3_Same a b) ?_)
  obtain ⟨⟨hs1, hs2⟩, h⟩ := h
  have h := Out_leaf h
  refine Leads.brN (fun e => Leads.chk ⟨by omega, by omega, by omega, hs1⟩ fun _ => Leads.br (fun z => Leads.one ?_) (fun z => Leads.one ?_)) (fun e => Leads.one ?_)
  · have z : sameT3 a b = true := z
    have e : (a.length : Int) = b.length := e
    rw [h, same3, z, decide_eq_true (by omega)]; rfl
  · have z : sameT3 a b = false := z
    rw [h, same3, z]; simp
  · have e : ¬ (a.length : Int) = b.length := e
    rw [h, same3, decide_eq_false (by omega)]; rfl
def Er3_Same : Es := (12, Sr3_Same) :: EtRead
theorem okr3_Same : SatE P (En (Er3_Same)) := SatE.cons (satr3_Same) oktRead
/-! ### legation/legationref03.SameTexts -/
def lkr3_SameTexts_0 : St [.v false [.sl [.str]], .v false [.sl [.str]], .v false [.int .i64]] → Prop := fun ⟨⟨(a : List (RowE [.str])), _⟩, ⟨(b : List (RowE [.str])), _⟩, ⟨(i : Int), _⟩, _⟩ => 0 ≤ i ∧ i ≤ (a.length : Int) ∧ a.length = b.length ∧ a.length ≤ 1152921504606846976
def lgr3_SameTexts_0 : St [.v false [.sl [.str]], .v false [.sl [.str]], .v false [.int .i64]] → Tr (Ex × List SV) := fun ⟨⟨(a : List (RowE [.str])), _⟩, ⟨(b : List (RowE [.str])), _⟩, ⟨(i : Int), _⟩, _⟩ => .br (sameT1 (a.drop i.toNat) (b.drop i.toNat)) (.leaf (.exit 0, [])) (.leaf (.ret, [.val (.d (.bool  (false)))]))
def lmr3_SameTexts_0 : St [.v false [.sl [.str]], .v false [.sl [.str]], .v false [.int .i64]] → Nat := fun ⟨⟨(a : List (RowE [.str])), _⟩, ⟨(b : List (RowE [.str])), _⟩, ⟨(i : Int), _⟩, _⟩ => a.length - i.toNat
def lsr3_SameTexts_0 : LoopS := mkR [0, 1, 5] [] [4] [.v false [.sl [.str]], .v false [.sl [.str]], .v false [.int .i64]] (fun r => .chk (lkr3_SameTexts_0 r) (lgr3_SameTexts_0 r))
def Lr3_SameTexts : Ls := [(4, lsr3_SameTexts_0)]
def Sr3_SameTexts := mkS [(false, [.sl [.str]]), (false, [.sl [.str]])] fun ⟨⟨(a : List (RowE [.str])), _⟩, ⟨(b : List (RowE [.str])), _⟩, _⟩ => .chk (a.length ≤ 1152921504606846976 ∧ b.length ≤ 1152921504606846976) (bl (sameX a b))
theorem ltr3_SameTexts_0 (a : List (RowE [.str])) (b : List (RowE [.str])) (i : Int) : evRound T (En (Er3_Same)) (Ln (Lr3_SameTexts)) (loopAt 0 (loops (bodyOf Try.f18))) (lsr3_SameTexts_0) [.val (.d (.sl [.str] a)), .val (.d (.sl [.str] b)), .val (.d (.int .i64 i))] =
    br (decide (i < (↑a.length : Int))) (chk ((0 : Int) ≤ i ∧ i < (↑a.length : Int)) (chk ((0 : Int) ≤ i ∧ i < (↑b.length : Int)) (br (!(getR [Sh.str] a i).fst == (getR [Sh.str] b i).fst) (some (Rnd.out Ex.ret [SV.val (AV.d (D.bool false))])) (some (Rnd.again [SV.val (AV.d (D.sl [Sh.str] a)), SV.val (AV.d (D.sl [Sh.str] b)), SV.val (AV.d (D.int IntKind.i64 (IntKind.i64.wrap (i + (1 : Int)))))]))))) (some (Rnd.out (Ex.exit (0 : Nat)) [])) := by kernel_rfl
theorem lokr3_SameTexts_0 : LoopOK T (En (Er3_Same)) (Ln (Lr3_SameTexts)) (loopAt 0 (loops (bodyOf Try.f18))) := by
  refine loop_ok (live := [0, 1, 5]) (outs := []) (rets := [4]) (ks := [.v false [.sl [.str]], .v false [.sl [.str]], .v false [.int .i64]]) (G := lgr3_SameTexts_0) (lkr3_SameTexts_0) (lmr3_SameTexts_0) (by kernel_rfl) ?_
  rintro ⟨⟨(a : List (RowE [.str])), _⟩, ⟨(b : List (RowE [.str])), _⟩, ⟨(i : Int), _⟩, _⟩ x hok hx
  refine Leads.of_eq (ltr3_SameTexts_0 a b i) ?_
  obtain ⟨h0, h1, h2, h3⟩ := hok
  obtain ⟨m, rfl⟩ := Int.eq_ofNat_of_zero_le h0
  simp only [lgr3_SameTexts_0, Int.toNat_natCast] at hx
  rcases drop_cases a m with ⟨hle, hd⟩ | ⟨x1, hlt, hd, hb⟩
  · rw [hd] at hx
    exact Leads.brD (fun q => by omega) (fun _ => Leads.one (Goes.out (Out_leaf (Out_tt hx))))
  rcases drop_cases b m with ⟨hle', hd'⟩ | ⟨x2, hlt', hd', hb'⟩
  · omega
  rw [hd, hd'] at hx
  simp only [sameT1] at hx
  rw [getR_of hb, getR_of hb', wrap64 (by omega) (by omega)]
  refine Leads.brD (fun _ => Leads.chk (by omega) fun _ => Leads.chk (by omega) fun _ => Leads.br (fun e1 => Leads.one (Goes.out ?_)) (fun e1 => Leads.one ?_)) (fun q => by omega)
  · have e1 : (x1.1 == x2.1) = false := by have e1 : (x1.1 != x2.1) = true := e1; simpa using e1
    rw [e1] at hx
    exact Out_leaf (Out_ff hx)
  · have e1 : (x1.1 == x2.1) = true := by have e1 : (x1.1 != x2.1) = false := e1; simpa using e1
    rw [e1, Bool.true_and] at hx
    refine Goes.again (ks := [.v false [.sl [.str]], .v false [.sl [.str]], .v false [.int .i64]]) ((_, ()), (_, ()), (_, ()), ()) rfl ?_ ?_ ?_
    · exact ⟨by omega, by omega, h2, h3⟩
    · simp only [lmr3_SameTexts_0]; omega
    · simp only [lgr3_SameTexts_0, toNat_add1]; exact hx
theorem tr3_SameTexts (a : List (RowE [.str])) (b : List (RowE [.str])) : evF T (En (Er3_Same)) (Ln (Lr3_SameTexts)) Try.f18 [.d (.sl [.str] a), .d (.sl [.str] b)] =
    br ((↑a.length : Int) != (↑b.length : Int)) (some (SV.val (AV.d (D.bool false)))) (chk (lkr3_SameTexts_0 ((a, ()), (b, ()), ((0 : Int), ()), ())) (br (sameT1 (List.drop (Int.toNat (0 : Int)) a) (List.drop (Int.toNat (0 : Int)) b)) (some (SV.val (AV.d (D.bool true)))) (some (SV.val (AV.d (D.bool false)))))) := by kernel_rfl
theorem satr3_SameTexts : Sat P 18 (Sr3_SameTexts) := by
  refine sat_mk (LT := Ln (Lr3_SameTexts)) hC okr3_Same mixed Try.func18 (by kernel_rfl) (c := bodyOf Try.f18) (by kernel_rfl) (by kernel_rfl) ?_ (loops1 (by kernel_rfl) (lokr3_SameTexts_0))
  rintro ⟨⟨(a : List (RowE [.str])), _⟩, ⟨(b : List (RowE [.str])), _⟩, _⟩ sv h
  refine Leads.eq (Leads.of_eq (tr3_SameTexts a b) ?_)
  obtain ⟨⟨hs1, hs2⟩, h⟩ := h
  have h := Out_leaf h
  refine Leads.brN (fun e => Leads.chk ⟨by omega, by omega, by omega, hs1⟩ fun _ => Leads.br (fun z => Leads.one ?_) (fun z => Leads.one ?_)) (fun e => Leads.one ?_)
  · have z : sameT1 a b = true := z
    have e : (a.length : Int) = b.length := e
    rw [h, sameX, z, decide_eq_true (by omega)]; rfl
  · have z : sameT1 a b = false := z
    rw [h, sameX, z]; simp
  · have e : ¬ (a.length : Int) = b.length := e
    rw [h, sameX, decide_eq_false (by omega)]; rfl
def Er3_SameTexts : Es := (18, Sr3_SameTexts) :: Er3_Same
theorem okr3_SameTexts : SatE P (En (Er3_SameTexts)) := SatE.cons (satr3_SameTexts) okr3_Same
/-! ### legation/triples.Compare -/
def lstCompare_0 : LoopS := mkU 4
def LtCompare : Ls := [(5, lstCompare_0)]
def StCompare := mkS [(true, t3S), (true, t3S)] fun ⟨(a : RowE t3S), (b : RowE t3S), _⟩ => .chk (sz3 140737488355328 a ∧ sz3 140737488355328 b) (ii (cmp3 a b))
theorem ttCompare (a : RowE t3S) (b : RowE t3S) : evF T (En (Er3_SameTexts)) (Ln (LtCompare)) Try.f21 [.agg (rowD t3S a), .agg (rowD t3S b)] =
    br (a.fst == b.fst && (a.snd.fst == b.snd.fst && (a.snd.snd.fst == b.snd.snd.fst && (a.snd.snd.snd.fst == b.snd.snd.snd.fst && (a.snd.snd.snd.snd.fst == b.snd.snd.snd.snd.fst && (a.snd.snd.snd.snd.snd.fst == b.snd.snd.snd.snd.snd.fst && (a.snd.snd.snd.snd.snd.snd.fst == b.snd.snd.snd.snd.snd.snd.fst && (a.snd.snd.snd.snd.snd.snd.snd.fst == b.snd.snd.snd.snd.snd.snd.snd.fst && (a.snd.snd.snd.snd.snd.snd.snd.snd.fst == b.snd.snd.snd.snd.snd.snd.snd.snd.fst && (a.snd.snd.snd.snd.snd.snd.snd.snd.snd.fst == b.snd.snd.snd.snd.snd.snd.snd.snd.snd.fst && (a.snd.snd.snd.snd.snd.snd.snd.snd.snd.snd.fst == b.snd.snd.snd.snd.snd.snd.snd.snd.snd.snd.fst && a.snd.snd.snd.snd.snd.snd.snd.snd.snd.snd.snd.fst == b.snd.snd.snd.snd.snd.snd.snd.snd.snd.snd.snd.fst))))))))))) (some (SV.val (AV.d (D.int IntKind.i64 (0 : Int)))))
  (chk ((0 : Int) ≤ (0 : Int) ∧ (0 : Int) < (↑(3 : Nat) : Int)) (chk ((0 : Int) ≤ (0 : Int) ∧ (0 : Int) < (↑(3 : Nat) : Int)) (chk ((List.length a.snd.fst ≤ (140737488355328 : Nat) ∧ List.length a.snd.snd.fst ≤ (140737488355328 : Nat) ∧ List.length a.snd.snd.snd.fst ≤ (140737488355328 : Nat)) ∧ List.length b.snd.fst ≤ (140737488355328 : Nat) ∧ List.length b.snd.snd.fst ≤ (140737488355328 : Nat) ∧ List.length b.snd.snd.snd.fst ≤ (140737488355328 : Nat)) (br (cmpT (a.fst, a.snd.fst, a.snd.snd.fst, a.snd.snd.snd.fst, ()) (b.fst, b.snd.fst, b.snd.snd.fst, b.snd.snd.snd.fst, ()) != (0 : Int)) (some (SV.val (AV.d (D.int IntKind.i64 (cmpT (a.fst, a.snd.fst, a.snd.snd.fst, a.snd.snd.snd.fst, ()) (b.fst, b.snd.fst, b.snd.snd.fst, b.snd.snd.snd.fst, ())))))) (chk ((0 : Int) ≤ IntKind.i64.wrap ((0 : Int) + (1 : Int)) ∧ IntKind.i64.wrap ((0 : Int) + (1 : Int)) < (↑(3 : Nat) : Int)) (chk ((0 : Int) ≤ IntKind.i64.wrap ((0 : Int) + (1 : Int)) ∧ IntKind.i64.wrap ((0 : Int) + (1 : Int)) < (↑(3 : Nat) : Int)) (chk ((List.length a.snd.snd.snd.snd.snd.fst ≤ (140737488355328 : Nat) ∧ List.length a.snd.snd.snd.snd.snd.snd.fst ≤ (140737488355328 : Nat) ∧ List.length a.snd.snd.snd.snd.snd.snd.snd.fst ≤ (140737488355328 : Nat)) ∧ List.length b.snd.snd.snd.snd.snd.fst ≤ (140737488355328 : Nat) ∧ List.length b.snd.snd.snd.snd.snd.snd.fst ≤ (140737488355328 : Nat) ∧ List.length b.snd.snd.snd.snd.snd.snd.snd.fst ≤ (140737488355328 : Nat)) (br (cmpT (a.snd.snd.snd.snd.fst, a.snd.snd.snd.snd.snd.fst, a.snd.snd.snd.snd.snd.snd.fst, a.snd.snd.snd.snd.snd.snd.snd.fst, ()) (b.snd.snd.snd.snd.fst, b.snd.snd.snd.snd.snd.fst, b.snd.snd.snd.snd.snd.snd.fst, b.snd.snd.snd.snd.snd.snd.snd.fst, ()) != (0 : Int)) (some (SV.val (AV.d (D.int IntKind.i64 (cmpT (a.snd.snd.snd.snd.fst, a.snd.snd.snd.snd.snd.fst, a.snd.snd.snd.snd.snd.snd.fst, a.snd.snd.snd.snd.snd.snd.snd.fst, ()) (b.snd.snd.snd.snd.fst, b.snd.snd.snd.snd.snd.fst, b.snd.snd.snd.snd.snd.snd.fst, b.snd.snd.snd.snd.snd.snd.snd.fst, ())))))) (chk ((0 : Int) ≤ IntKind.i64.wrap (IntKind.i64.wrap ((0 : Int) + (1 : Int)) + (1 : Int)) ∧ IntKind.i64.wrap (IntKind.i64.wrap ((0 : Int) + (1 : Int)) + (1 : Int)) < (↑(3 : Nat) : Int)) (chk ((0 : Int) ≤ IntKind.i64.wrap (IntKind.i64.wrap ((0 : Int) + (1 : Int)) + (1 : Int)) ∧ IntKind.i64.wrap (IntKind.i64.wrap ((0 : Int) + (1 : Int)) + (1 : Int)) < (↑(3 : Nat) : Int)) (chk ((List.length a.snd.snd.snd.snd.snd.snd.snd.snd.snd.fst ≤ (140737488355328 : Nat) ∧ List.length a.snd.snd.snd.snd.snd.snd.snd.snd.snd.snd.fst ≤ (140737488355328 : Nat) ∧ List.length a.snd.snd.snd.snd.snd.snd.snd.snd.snd.snd.snd.fst ≤ (140737488355328 : Nat)) ∧ List.length b.snd.snd.snd.snd.snd.snd.snd.snd.snd.fst ≤ (140737488355328 : Nat) ∧ List.length b.snd.snd.snd.snd.snd.snd.snd.snd.snd.snd.fst ≤ (140737488355328 : Nat) ∧ List.length b.snd.snd.snd.snd.snd.snd.snd.snd.snd.snd.snd.fst ≤ (140737488355328 : Nat)) (br (cmpT (a.snd.snd.snd.snd.snd.snd.snd.snd.fst, a.snd.snd.snd.snd.snd.snd.snd.snd.snd.fst, a.snd.snd.snd.snd.snd.snd.snd.snd.snd.snd.fst, a.snd.snd.snd.snd.snd.snd.snd.snd.snd.snd.snd.fst, ()) (b.snd.snd.snd.snd.snd.snd.snd.snd.fst, b.snd.snd.snd.snd.snd.snd.snd.snd.snd.fst, b.snd.snd.snd.snd.snd.snd.snd.snd.snd.snd.fst, b.snd.snd.snd.snd.snd.snd.snd.snd.snd.snd.snd.fst, ()) != (0 : Int)) (some (SV.val (AV.d (D.int IntKind.i64 (cmpT (a.snd.snd.snd.snd.snd.snd.snd.snd.fst, a.snd.snd.snd.snd.snd.snd.snd.snd.snd.fst, a.snd.snd.snd.snd.snd.snd.snd.snd.snd.snd.fst, a.snd.snd.snd.snd.snd.snd.snd.snd.snd.snd.snd.fst, ()) (b.snd.snd.snd.snd.snd.snd.snd.snd.fst, b.snd.snd.snd.snd.snd.snd.snd.snd.snd.fst, b.snd.snd.snd.snd.snd.snd.snd.snd.snd.snd.fst, b.snd.snd.snd.snd.snd.snd.snd.snd.snd.snd.snd.fst, ())))))) (some (SV.val (AV.d (D.int IntKind.i64 (0 : Int))))))))))))))))) := by kernel_rfl
theorem sattCompare : Sat P 21 (StCompare) := by
  refine sat_mk (LT := Ln (LtCompare)) hC okr3_SameTexts mixed Try.func21 (by kernel_rfl) (c := bodyOf Try.f21) (by kernel_rfl) (by kernel_rfl) ?_ (loops1 (by kernel_rfl) (loopU (n := 4) (c := loopAt 0 (loops (bodyOf Try.f21))) (by kernel_rfl)))
  rintro ⟨(a : RowE t3S), (b : RowE t3S), _⟩ sv h
  refine Leads.eq (Leads.of_eq (ttCompare a b) ?_)
  obtain ⟨⟨⟨a1, a2, a3⟩, b1, b2, b3⟩, h⟩ := h
  have h := Out_leaf h
  refine Leads.br (fun q => Leads.one ?_) (fun q => Leads.chk ⟨by decide, by decide⟩ fun _ => Leads.chk ⟨by decide, by decide⟩ fun _ => Leads.chk ⟨a1, b1⟩ fun _ => Leads.brN (fun z1 => Leads.chk ⟨by decide, by decide⟩ fun _ => Leads.chk ⟨by decide, by decide⟩ fun _ => Leads.chk ⟨a2, b2⟩ fun _ => Leads.brN (fun z2 => Leads.chk ⟨by decide, by decide⟩ fun _ => Leads.chk ⟨by decide, by decide⟩ fun _ => Leads.chk ⟨a3, b3⟩ fun _ => Leads.brN (fun z3 => Leads.one ?_) (fun z3 => Leads.one ?_)) (fun z2 => Leads.one ?_)) (fun z1 => Leads.one ?_))
  · have q : eq3 a b = true := q
    obtain rfl := (eq3_iff a b).1 q
    rw [h, cmp3_self]
  all_goals rw [h]
  · have z1 : cmpT (tS a) (tS b) = 0 := z1
    have z2 : cmpT (tP a) (tP b) = 0 := z2
    have z3 : cmpT (tO a) (tO b) = 0 := z3
    simp [cmp3, z1, z2, z3]
  · have z1 : cmpT (tS a) (tS b) = 0 := z1
    have z2 : cmpT (tP a) (tP b) = 0 := z2
    simp only [cmp3, z1, z2, ne_eq, not_true, if_false]; rfl
  · have z1 : cmpT (tS a) (tS b) = 0 := z1
    have z2 : ¬ cmpT (tP a) (tP b) = 0 := z2
    simp only [cmp3, z1, ne_eq, not_true, if_false, z2, not_false_eq_true, if_true]; rfl
  · have z1 : ¬ cmpT (tS a) (tS b) = 0 := z1
    simp only [cmp3, ne_eq, z1, not_false_eq_true, if_true]; rfl
def EtCompare : Es := (21, StCompare) :: Er3_SameTexts
theorem oktCompare : SatE P (En (EtCompare)) := SatE.cons (sattCompare) okr3_SameTexts
/-! ### legation/legationref03.Compare -/
def Lr3_Compare : Ls := []
def Sr3_Compare := mkS [(true, t3S), (true, t3S)] fun ⟨(a : RowE t3S), (b : RowE t3S), _⟩ => .chk (sz3 140737488355328 a ∧ sz3 140737488355328 b) (ii (cmp3 a b))
theorem tr3_Compare (a : RowE t3S) (b : RowE t3S) : evF T (En (EtCompare)) (Ln (Lr3_Compare)) Try.f22 [.agg (rowD t3S a), .agg (rowD t3S b)] =
    chk ((List.length a.snd.fst ≤ (140737488355328 : Nat) ∧ List.length a.snd.snd.fst ≤ (140737488355328 : Nat) ∧ List.length a.snd.snd.snd.fst ≤ (140737488355328 : Nat)) ∧ List.length b.snd.fst ≤ (140737488355328 : Nat) ∧ List.length b.snd.snd.fst ≤ (140737488355328 : Nat) ∧ List.length b.snd.snd.snd.fst ≤ (140737488355328 : Nat)) (br (cmpT (a.fst, a.snd.fst, a.snd.snd.fst, a.snd.snd.snd.fst, ()) (b.fst, b.snd.fst, b.snd.snd.fst, b.snd.snd.snd.fst, ()) != (0 : Int)) (chk ((List.length a.snd.fst ≤ (140737488355328 : Nat) ∧ List.length a.snd.snd.fst ≤ (140737488355328 : Nat) ∧ List.length a.snd.snd.snd.fst ≤ (140737488355328 : Nat)) ∧ List.length b.snd.fst ≤ (140737488355328 : Nat) ∧ List.length b.snd.snd.fst ≤ (140737488355328 : Nat) ∧ List.length b.snd.snd.snd.fst ≤ (140737488355328 : Nat)) (some (SV.val (AV.d (D.int IntKind.i64 (cmpT (a.fst, a.snd.fst, a.snd.snd.fst, a.snd.snd.snd.fst, ()) (b.fst, b.snd.fst, b.snd.snd.fst, b.snd.snd.snd.fst, ()))))))) (chk ((List.length a.snd.snd.snd.snd.snd.fst ≤ (140737488355328 : Nat) ∧ List.length a.snd.snd.snd.snd.snd.snd.fst ≤ (140737488355328 : Nat) ∧ List.length a.snd.snd.snd.snd.snd.snd.snd.fst ≤ (140737488355328 : Nat)) ∧ List.length b.snd.snd.snd.snd.snd.fst ≤ (140737488355328 : Nat) ∧ List.length b.snd.snd.snd.snd.snd.snd.fst ≤ (140737488355328 : Nat) ∧ List.length b.snd.snd.snd.snd.snd.snd.snd.fst ≤ (140737488355328 : Nat)) (br (cmpT (a.snd.snd.snd.snd.fst, a.snd.snd.snd.snd.snd.fst, a.snd.snd.snd.snd.snd.snd.fst, a.snd.snd.snd.snd.snd.snd.snd.fst, ()) (b.snd.snd.snd.snd.fst, b.snd.snd.snd.snd.snd.fst, b.snd.snd.snd.snd.snd.snd.fst, b.snd.snd.snd.snd.snd.snd.snd.fst, ()) != (0 : Int)) (chk ((List.length a.snd.snd.snd.snd.snd.fst ≤ (140737488355328 : Nat) ∧ List.length a.snd.snd.snd.snd.snd.snd.fst ≤ (140737488355328 : Nat) ∧ List.length a.snd.snd.snd.snd.snd.snd.snd.fst ≤ (140737488355328 : Nat)) ∧ List.length b.snd.snd.snd.snd.snd.fst ≤ (140737488355328 : Nat) ∧ List.length b.snd.snd.snd.snd.snd.snd.fst ≤ (140737488355328 : Nat) ∧ List.length b.snd.snd.snd.snd.snd.snd.snd.fst ≤ (140737488355328 : Nat)) (some (SV.val (AV.d (D.int IntKind.i64 (cmpT (a.snd.snd.snd.snd.fst, a.snd.snd.snd.snd.snd.fst, a.snd.snd.snd.snd.snd.snd.fst, a.snd.snd.snd.snd.snd.snd.snd.fst, ()) (b.snd.snd.snd.snd.fst, b.snd.snd.snd.snd.snd.fst, b.snd.snd.snd.snd.snd.snd.fst, b.snd.snd.snd.snd.snd.snd.snd.fst, ()))))))) (chk ((List.length a.snd.snd.snd.snd.snd.snd.snd.snd.snd.fst ≤ (140737488355328 : Nat) ∧ List.length a.snd.snd.snd.snd.snd.snd.snd.snd.snd.snd.fst ≤ (140737488355328 : Nat) ∧ List.length a.snd.snd.snd.snd.snd.snd.snd.snd.snd.snd.snd.fst ≤ (140737488355328 : Nat)) ∧ List.length b.snd.snd.snd.snd.snd.snd.snd.snd.snd.fst ≤ (140737488355328 : Nat) ∧ List.length b.snd.snd.snd.snd.snd.snd.snd.snd.snd.snd.fst ≤ (140737488355328 : Nat) ∧ List.length b.snd.snd.snd.snd.snd.snd.snd.snd.snd.snd.snd.fst ≤ (140737488355328 : Nat)) (some (SV.val (AV.d (D.int IntKind.i64 (cmpT (a.snd.snd.snd.snd.snd.snd.snd.snd.fst, a.snd.snd.snd.snd.snd.snd.snd.snd.snd.fst, a.snd.snd.snd.snd.snd.snd.snd.snd.snd.snd.fst, a.snd.snd.snd.snd.snd.snd.snd.snd.snd.snd.snd.fst, ()) (b.snd.snd.snd.snd.snd.snd.snd.snd.fst, b.snd.snd.snd.snd.snd.snd.snd.snd.snd.fst, b.snd.snd.snd.snd.snd.snd.snd.snd.snd.snd.fst, b.snd.snd.snd.snd.snd.snd.snd.snd.snd.snd.snd.fst, ())))))))))) := by kernel_rfl
theorem satr3_Compare : Sat P 22 (Sr3_Compare) := by
  refine sat_mk (LT := Ln (Lr3_Compare)) hC oktCompare mixed Try.func22 (by kernel_rfl) (c := bodyOf Try.f22) (by kernel_rfl) (by kernel_rfl) ?_ (loops0 (by kernel_rfl))
  rintro ⟨(a : RowE t3S), (b : RowE t3S), _⟩ sv h
  refine Leads.eq (Leads.of_eq (tr3_Compare a b) ?_)
  obtain ⟨⟨⟨a1, a2, a3⟩, b1, b2, b3⟩, h⟩ := h
  have h := Out_leaf h
  refine Leads.chk ⟨a1, b1⟩ fun _ => Leads.brN (fun z1 => Leads.chk ⟨a2, b2⟩ fun _ => Leads.brN (fun z2 => Leads.chk ⟨a3, b3⟩ fun _ => Leads.one ?_) (fun z2 => Leads.chk ⟨a2, b2⟩ fun _ => Leads.one ?_)) (fun z1 => Leads.chk ⟨a1, b1⟩ fun _ => Leads.one ?_)
  all_goals rw [h]
  · have z1 : cmpT (tS a) (tS b) = 0 := z1
    have z2 : cmpT (tP a) (tP b) = 0 := z2
    simp only [cmp3, z1, z2, ne_eq, not_true, if_false]; rfl
  · have z1 : cmpT (tS a) (tS b) = 0 := z1
    have z2 : ¬ cmpT (tP a) (tP b) = 0 := z2
    simp only [cmp3, z1, ne_eq, not_true, if_false, z2, not_false_eq_true, if_true]; rfl
  · have z1 : ¬ cmpT (tS a) (tS b) = 0 := z1
    simp only [cmp3, ne_eq, z1, not_false_eq_true, if_true]; rfl
def Er3_Compare : Es := (22, Sr3_Compare) :: EtCompare
theorem okr3_Compare : SatE P (En (Er3_Compare)) := SatE.cons (satr3_Compare) oktCompare
/-! ### legation/legationref03.Read -/
def lkr3_Read_0 : St [.v false [.str], .a t3S, .v false [.int .i64], .v false [.int .i64]] → Prop := fun ⟨⟨(s : List UInt8), _⟩, (out : List (RowE t3S)), ⟨(from_ : Int), _⟩, ⟨(i : Int), _⟩, _⟩ => 0 ≤ from_ ∧ from_ ≤ i ∧ i ≤ (s.length : Int) ∧ s.length ≤ 549755813888 ∧ out.length + (s.length - from_.toNat) ≤ 549755813888 ∧ ¬ (10 : UInt8) ∈ (s.drop from_.toNat).take (i.toNat - from_.toNat)
def lgr3_Read_0 : St [.v false [.str], .a t3S, .v false [.int .i64], .v false [.int .i64]] → Tr (Ex × List SV) := fun ⟨⟨(s : List UInt8), _⟩, (out : List (RowE t3S)), ⟨(from_ : Int), _⟩, ⟨(i : Int), _⟩, _⟩ => .br (readL (s.drop from_.toNat)).2.2 (.leaf (.ret, [.app t3S ([]), .val (.d (.int .i64 ((out.length : Int) + ((readL (s.drop from_.toNat)).1.length : Nat) + 1))), .val (.d (.int .i64 (2)))])) (.leaf (.exit 0, [.val (.d (.str  (s))), .app t3S (out ++ (readL (s.drop from_.toNat)).1), .val (.d (.int .i64 ((s.length : Int) - ((readL (s.drop from_.toNat)).2.1.length : Nat))))]))
def lmr3_Read_0 : St [.v false [.str], .a t3S, .v false [.int .i64], .v false [.int .i64]] → Nat := fun ⟨⟨(s : List UInt8), _⟩, (out : List (RowE t3S)), ⟨(from_ : Int), _⟩, ⟨(i : Int), _⟩, _⟩ => s.length - i.toNat
def lsr3_Read_0 : LoopS := mkR [0, 5, 6, 7] [0, 5, 6] [2, 3, 4] [.v false [.str], .a t3S, .v false [.int .i64], .v false [.int .i64]] (fun r => .chk (lkr3_Read_0 r) (lgr3_Read_0 r))
def Lr3_Read : Ls := [(4, lsr3_Read_0)]
def Sr3_Read := mkS [(false, [.str])] fun ⟨⟨(s : List UInt8), _⟩, _⟩ => .chk (s.length ≤ 549755813888) (.br (failL s) (.leaf (.val (.tup [.d (.sl t3S []), .d (.int .i64 ((readL s).1.length + 1 : Nat)), .d (.int .i64 2)]))) (.brP (4096 < (readL s).1.length) (.leaf (.val (.tup [.d (.sl t3S []), .d (.int .i64 0), .d (.int .i64 3)]))) (.leaf (.val (.tup [.d (.sl t3S (readL s).1), .d (.int .i64 0), .d (.int .i64 0)])))))
theorem ltr3_Read_0 (s : List UInt8) (out : List (RowE t3S)) (from_ : Int) (i : Int) : evRound T (En (Er3_Compare)) (Ln (Lr3_Read)) (loopAt 0 (loops (bodyOf Try.f11))) (lsr3_Read_0) [.val (.d (.str  s)), .app t3S out, .val (.d (.int .i64 from_)), .val (.d (.int .i64 i))] =
    br (decide (i < (↑s.length : Int))) (chk ((0 : Int) ≤ i ∧ i < (↑s.length : Int)) (br (byteAt s i != (10 : Int)) (some (Rnd.again [SV.val (AV.d (D.str s)), SV.app t3S out, SV.val (AV.d (D.int IntKind.i64 from_)), SV.val (AV.d (D.int IntKind.i64 (IntKind.i64.wrap (i + (1 : Int)))))])) (chk ((0 : Int) ≤ from_ ∧ from_ ≤ i ∧ i ≤ (↑s.length : Int)) (chk ((List.drop from_.toNat (List.take i.toNat s)).length ≤ (140737488351232 : Nat)) (br (!(lineR (List.drop from_.toNat (List.take i.toNat s))).snd) (some (Rnd.out Ex.ret [SV.app t3S [], SV.val (AV.d (D.int IntKind.i64 (IntKind.i64.wrap ((↑out.length : Int) + (1 : Int))))), SV.val (AV.d (D.int IntKind.i64 (2 : Int)))])) (chk (((↑out.length : Int) + (↑[((lineR (List.drop from_.toNat (List.take i.toNat s))).fst.fst, (lineR (List.drop from_.toNat (List.take i.toNat s))).fst.snd.fst, (lineR (List.drop from_.toNat (List.take i.toNat s))).fst.snd.snd.fst, (lineR (List.drop from_.toNat (List.take i.toNat s))).fst.snd.snd.snd.fst, (lineR (List.drop from_.toNat (List.take i.toNat s))).fst.snd.snd.snd.snd.fst, (lineR (List.drop from_.toNat (List.take i.toNat s))).fst.snd.snd.snd.snd.snd.fst, (lineR (List.drop from_.toNat (List.take i.toNat s))).fst.snd.snd.snd.snd.snd.snd.fst, (lineR (List.drop from_.toNat (List.take i.toNat s))).fst.snd.snd.snd.snd.snd.snd.snd.fst, (lineR (List.drop from_.toNat (List.take i.toNat s))).fst.snd.snd.snd.snd.snd.snd.snd.snd.fst, (lineR (List.drop from_.toNat (List.take i.toNat s))).fst.snd.snd.snd.snd.snd.snd.snd.snd.snd.fst, (lineR (List.drop from_.toNat (List.take i.toNat s))).fst.snd.snd.snd.snd.snd.snd.snd.snd.snd.snd.fst, (lineR (List.drop from_.toNat (List.take i.toNat s))).fst.snd.snd.snd.snd.snd.snd.snd.snd.snd.snd.snd.fst, ())].length : Int)) * (↑(168 : Nat) : Int) < lim) (some (Rnd.again [SV.val (AV.d (D.str s)), SV.app t3S (out ++ [((lineR (List.drop from_.toNat (List.take i.toNat s))).fst.fst, (lineR (List.drop from_.toNat (List.take i.toNat s))).fst.snd.fst, (lineR (List.drop from_.toNat (List.take i.toNat s))).fst.snd.snd.fst, (lineR (List.drop from_.toNat (List.take i.toNat s))).fst.snd.snd.snd.fst, (lineR (List.drop from_.toNat (List.take i.toNat s))).fst.snd.snd.snd.snd.fst, (lineR (List.drop from_.toNat (List.take i.toNat s))).fst.snd.snd.snd.snd.snd.fst, (lineR (List.drop from_.toNat (List.take i.toNat s))).fst.snd.snd.snd.snd.snd.snd.fst, (lineR (List.drop from_.toNat (List.take i.toNat s))).fst.snd.snd.snd.snd.snd.snd.snd.fst, (lineR (List.drop from_.toNat (List.take i.toNat s))).fst.snd.snd.snd.snd.snd.snd.snd.snd.fst, (lineR (List.drop from_.toNat (List.take i.toNat s))).fst.snd.snd.snd.snd.snd.snd.snd.snd.snd.fst, (lineR (List.drop from_.toNat (List.take i.toNat s))).fst.snd.snd.snd.snd.snd.snd.snd.snd.snd.snd.fst, (lineR (List.drop from_.toNat (List.take i.toNat s))).fst.snd.snd.snd.snd.snd.snd.snd.snd.snd.snd.snd.fst, ())]), SV.val (AV.d (D.int IntKind.i64 (IntKind.i64.wrap (i + (1 : Int))))), SV.val (AV.d (D.int IntKind.i64 (IntKind.i64.wrap (i + (1 : Int)))))])))))))) (some (Rnd.out (Ex.exit (0 : Nat)) [SV.val (AV.d (D.str s)), SV.app t3S out, SV.val (AV.d (D.int IntKind.i64 from_))])) := by kernel_rfl
theorem lokr3_Read_0 : LoopOK T (En (Er3_Compare)) (Ln (Lr3_Read)) (loopAt 0 (loops (bodyOf Try.f11))) := by
  refine loop_ok (live := [0, 5, 6, 7]) (outs := [0, 5, 6]) (rets := [2, 3, 4]) (ks := [.v false [.str], .a t3S, .v false [.int .i64], .v false [.int .i64]]) (G := lgr3_Read_0) (lkr3_Read_0) (lmr3_Read_0) (by kernel_rfl) ?_
  rintro ⟨⟨(s : List UInt8), _⟩, (out : List (RowE t3S)), ⟨(from_ : Int), _⟩, ⟨(i : Int), _⟩, _⟩ x hok hx
  refine Leads.of_eq (ltr3_Read_0 s out from_ i) ?_
  obtain ⟨h0, h1, h2, h3, h4, h5⟩ := hok
  obtain ⟨f, rfl⟩ := Int.eq_ofNat_of_zero_le h0
  obtain ⟨m, rfl⟩ := Int.eq_ofNat_of_zero_le (show 0 ≤ i by omega)
  simp only [lgr3_Read_0, Int.toNat_natCast] at hx h4 h5 ⊢
  have h1 : (f : Int) ≤ (m : Int) := h1
  have h2 : (m : Int) ≤ (s.length : Int) := h2
  rcases drop_cases s m with ⟨hle, hd⟩ | ⟨b, hlt, hd, hb⟩
  · have hall : (s.drop f).take (m - f) = s.drop f := List.take_of_length_le (by simp; omega)
    rw [hall] at h5
    have e : readL (s.drop f) = ([], s.drop f, false) := by rw [readL_eq, if_pos (indexByte_neg.2 h5)]
    rw [e] at hx
    have := Out_leaf (Out_ff hx)
    refine Leads.brD (fun q => by omega) (fun _ => Leads.one (Goes.out ?_))
    rw [this]
    have e2 : (s.length : Int) - ((s.length - f : Nat) : Int) = f := by omega
    simp [e2]
  · have split : s.drop f = (s.drop f).take (m - f) ++ b :: s.drop (m + 1) := by
      have := List.take_append_drop (m - f) (s.drop f)
      rw [List.drop_drop, show f + (m - f) = m by omega, hd] at this
      exact this.symm
    rw [byteAt_u hb, wrap64 (by omega) (by omega)]
    refine Leads.brD (fun _ => Leads.chk (by omega) fun _ => Leads.brN (fun q => ?_) (fun q => Leads.one ?_)) (fun q => by omega)
    · obtain rfl : b = 10 := u_inj q
      have hix : Go.Lib.indexByte (s.drop f) 10 = ((m - f : Nat) : Int) := by
        rw [split, indexByte_append _ h5]; simp; omega
      have hdt : (s.take m).drop f = (s.drop f).take (m - f) := List.drop_take ..
      have hdd : (s.drop f).drop (m - f + 1) = s.drop (m + 1) := by rw [List.drop_drop]; congr 1; omega
      have er := readL_eq (s.drop f)
      rw [hix, if_neg (by omega), Int.toNat_natCast, hdd] at er
      rw [hdt]
      obtain ⟨l2, l1⟩ := lineR_eq ((s.drop f).take (m - f))
      rw [l2]
      refine Leads.chk ⟨by omega, by omega, by omega⟩ fun _ => Leads.chk (by simp; omega) fun _ => Leads.brG (fun z => ?_) (fun z => Leads.one (Goes.out ?_))
      · rw [if_pos z] at er
        rw [er] at hx
        rw [l1 z]
        refine Leads.chk (by simp [lim]; omega) fun _ => Leads.one ?_
        refine Goes.again (ks := [.v false [.str], .a t3S, .v false [.int .i64], .v false [.int .i64]]) ((_, ()), _, (_, ()), (_, ()), ()) rfl ?_ ?_ ?_
        · refine ⟨by omega, by omega, by omega, h3, ?_, ?_⟩
          · rw [toNat_add1]; simp; omega
          · rw [toNat_add1, Nat.sub_self]; simp
        · simp only [lmr3_Read_0, toNat_add1]; omega
        · simp only [lgr3_Read_0, toNat_add1]
          rcases hx with ⟨y, hx⟩ | ⟨y, hx⟩
          · refine .inl ⟨y, ?_⟩
            have := Out_leaf hx
            rw [this]
            show _ = _
            simp only [List.length_append, List.length_cons, List.length_nil]
            rw [show (((out.length + (0 + 1) : Nat) : Int) + ((readL (s.drop (m + 1))).1.length : Int) + 1) = (out.length : Int) + (((readL (s.drop (m + 1))).1.length + 1 : Nat) : Int) + 1 by omega]
          · refine .inr ⟨y, ?_⟩
            have := Out_leaf hx
            rw [this]
            show _ = _
            simp
      · rw [if_neg (by rw [z]; simp)] at er
        rw [er] at hx
        have := Out_leaf (Out_tt hx)
        rw [this, wrap64 (by omega) (by omega)]
        simp
    · have q : ¬ b = 10 := fun e => q (by rw [e]; rfl)
      refine Goes.again (ks := [.v false [.str], .a t3S, .v false [.int .i64], .v false [.int .i64]]) ((_, ()), _, (_, ()), (_, ()), ()) rfl ?_ ?_ ?_
      · refine ⟨h0, by show (f : Int) ≤ (m : Int) + 1; omega, by show (m : Int) + 1 ≤ _; omega, h3, by simpa using h4, ?_⟩
        simp only [toNat_add1, Int.toNat_natCast]
        rw [show m + 1 - f = (m - f) + 1 by omega, List.take_add_one, List.getElem?_drop, show f + (m - f) = m by omega, hb]
        simp only [Option.toList_some, List.mem_append, not_or]
        exact ⟨h5, by simp; exact fun e => q e.symm⟩
      · simp only [lmr3_Read_0, toNat_add1, Int.toNat_natCast]; omega
      · simp only [lgr3_Read_0, Int.toNat_natCast]; exact hx
theorem tr3_Read (s : List UInt8) : evF T (En (Er3_Compare)) (Ln (Lr3_Read)) Try.f11 [.d (.str s)] =
    chk (lkr3_Read_0 ((s, ()), [], ((0 : Int), ()), ((0 : Int), ()), ())) (br (readL (List.drop (Int.toNat (0 : Int)) s)).snd.snd (some (SV.val (AV.tup [AV.d (D.sl t3S []), AV.d (D.int IntKind.i64 ((↑(List.nil (α := RowE [.int .u8])).length : Int) + (↑(readL (List.drop (Int.toNat (0 : Int)) s)).fst.length : Int) + (1 : Int))), AV.d (D.int IntKind.i64 (2 : Int))]))) (br (decide ((↑s.length : Int) - (↑(List.length (readL (List.drop (Int.toNat (0 : Int)) s)).snd.fst) : Int) < (↑s.length : Int))) (some (SV.val (AV.tup [AV.d (D.sl t3S []), AV.d (D.int IntKind.i64 (IntKind.i64.wrap ((↑([] ++ (readL (List.drop (Int.toNat (0 : Int)) s)).fst).length : Int) + (1 : Int)))), AV.d (D.int IntKind.i64 (2 : Int))]))) (br (decide ((↑([] ++ (readL (List.drop (Int.toNat (0 : Int)) s)).fst).length : Int) > (4096 : Int))) (some (SV.val (AV.tup [AV.d (D.sl t3S []), AV.d (D.int IntKind.i64 (0 : Int)), AV.d (D.int IntKind.i64 (3 : Int))]))) (some (SV.val (AV.tup [AV.d (D.sl t3S ([] ++ (readL (List.drop (Int.toNat (0 : Int)) s)).fst)), AV.d (D.int IntKind.i64 (0 : Int)), AV.d (D.int IntKind.i64 (0 : Int))])))))) := by kernel_rfl
theorem satr3_Read : Sat P 11 (Sr3_Read) := by
  refine sat_mk (LT := Ln (Lr3_Read)) hC okr3_Compare mixed Try.func11 (by kernel_rfl) (c := bodyOf Try.f11) (by kernel_rfl) (by kernel_rfl) ?_ (loops1 (by kernel_rfl) (lokr3_Read_0))
  rintro ⟨⟨(s : List UInt8), _⟩, _⟩ sv h
  refine Leads.eq (Leads.of_eq (tr3_Read s) ?_)
  obtain ⟨hs, h⟩ := h
  have hr := readL_rest s
  have hn := readL_len s
  refine Leads.chk ⟨by omega, by omega, by omega, hs, by simp; omega, by simp⟩ fun _ => ?_
  show Leads (br (readL s).2.2 _ _) _
  simp only [Int.toNat_zero, List.drop_zero, List.nil_append, List.length_nil]
  rcases Out_br h with ⟨q, h⟩ | ⟨q, h⟩
  · have h := Out_leaf h
    have q : ((readL s).2.2 || !(readL s).2.1.isEmpty) = true := q
    refine Leads.br (fun z => Leads.one ?_) (fun z => ?_)
    · rw [h]
      show _ = SV.val (.tup [_, .d (.int .i64 (((readL s).1.length + 1 : Nat) : Int)), _])
      rw [show (((readL s).1.length + 1 : Nat) : Int) = (((0 : Nat) : Int) + ((readL s).1.length : Int) + 1) by omega]
    · have z : (readL s).2.2 = false := z
      rw [z, Bool.false_or] at q
      have hl : 0 < (readL s).2.1.length := by
        cases e : (readL s).2.1 with
        | nil => rw [e] at q; cases q
        | cons _ _ => simp
      refine Leads.brD (fun _ => Leads.one ?_) (fun y => absurd (by omega) y)
      rw [h, wrap64 (by omega) (by omega)]
      show _ = SV.val (.tup [_, .d (.int .i64 (((readL s).1.length + 1 : Nat) : Int)), _])
      rw [show (((readL s).1.length + 1 : Nat) : Int) = ((readL s).1.length : Int) + 1 by omega]
  · have q : ((readL s).2.2 || !(readL s).2.1.isEmpty) = false := q
    rw [Bool.or_eq_false_iff] at q
    have hl : (readL s).2.1.length = 0 := by
      cases e : (readL s).2.1 with
      | nil => rfl
      | cons _ _ => rw [e] at q; simp at q
    refine Leads.br (fun z => by rw [q.1] at z; cases z) (fun _ => Leads.brD (fun y => absurd y (by omega)) (fun _ => ?_))
    rcases Out_brP h with ⟨y, h⟩ | ⟨y, h⟩
    · have h := Out_leaf h
      exact Leads.brD (fun _ => Leads.one (by rw [h])) (fun x => absurd (by omega) x)
    · have h := Out_leaf h
      exact Leads.brD (fun x => absurd x (by omega)) (fun _ => Leads.one (by rw [h]))
def Er3_Read : Es := (11, Sr3_Read) :: Er3_Compare
theorem okr3_Read : SatE P (En (Er3_Read)) := SatE.cons (satr3_Read) okr3_Compare
/-! ### legation/triples.Write -/
def lktWrite_0 : St [.v false [.str], .v false [.sl [.int .i64, .str, .str, .str, .int .i64, .str, .str, .str, .int .i64, .str, .str, .str]], .v false [.int .i64], .v false [.int .i64]] → Prop := fun ⟨⟨(out : List UInt8), _⟩, ⟨(x12 : List (RowE [.int .i64, .str, .str, .str, .int .i64, .str, .str, .str, .int .i64, .str, .str, .str])), _⟩, ⟨(x13 : Int), _⟩, ⟨(x14 : Int), _⟩, _⟩ => 0 ≤ x14 ∧ x13 = (x12.length : Int) ∧ x12.length ≤ 4096 ∧ szL x12 ∧ out.length + 60005 * (x12.length - x14.toNat) ≤ 1000000000
def lgtWrite_0 : St [.v false [.str], .v false [.sl [.int .i64, .str, .str, .str, .int .i64, .str, .str, .str, .int .i64, .str, .str, .str]], .v false [.int .i64], .v false [.int .i64]] → Tr (Ex × List SV) := fun ⟨⟨(out : List UInt8), _⟩, ⟨(x12 : List (RowE [.int .i64, .str, .str, .str, .int .i64, .str, .str, .str, .int .i64, .str, .str, .str])), _⟩, ⟨(x13 : Int), _⟩, ⟨(x14 : Int), _⟩, _⟩ => .br (triL (x12.drop x14.toNat)) (.leaf (.exit 0, [.val (.d (.str  (out ++ writeT (x12.drop x14.toNat))))])) (.leaf (.ret, [.val (.d (.str  ([]))), .val (.d (.int .i64 (2)))]))
def lmtWrite_0 : St [.v false [.str], .v false [.sl [.int .i64, .str, .str, .str, .int .i64, .str, .str, .str, .int .i64, .str, .str, .str]], .v false [.int .i64], .v false [.int .i64]] → Nat := fun ⟨⟨(out : List UInt8), _⟩, ⟨(x12 : List (RowE [.int .i64, .str, .str, .str, .int .i64, .str, .str, .str, .int .i64, .str, .str, .str])), _⟩, ⟨(x13 : Int), _⟩, ⟨(x14 : Int), _⟩, _⟩ => x12.length - x14.toNat
def lstWrite_0 : LoopS := mkR [4, 12, 13, 14] [4] [2, 3] [.v false [.str], .v false [.sl [.int .i64, .str, .str, .str, .int .i64, .str, .str, .str, .int .i64, .str, .str, .str]], .v false [.int .i64], .v false [.int .i64]] (fun r => .chk (lktWrite_0 r) (lgtWrite_0 r))
def LtWrite : Ls := [(5, lstWrite_0)]
def StWrite := mkS [(false, [.sl [.int .i64, .str, .str, .str, .int .i64, .str, .str, .str, .int .i64, .str, .str, .str]])] fun ⟨⟨(l : List (RowE [.int .i64, .str, .str, .str, .int .i64, .str, .str, .str, .int .i64, .str, .str, .str])), _⟩, _⟩ => .chk (szL l) (.brP (4096 < l.length) (.leaf (.val (.tup [.d (.str []), .d (.int .i64 3)]))) (.br (triL l) (.leaf (.val (.tup [.d (.str (writeT l)), .d (.int .i64 0)]))) (.leaf (.val (.tup [.d (.str []), .d (.int .i64 2)])))))
theorem lttWrite_0 (out : List UInt8) (x12 : List (RowE [.int .i64, .str, .str, .str, .int .i64, .str, .str, .str, .int .i64, .str, .str, .str])) (x13 : Int) (x14 : Int) : evRound T (En (Er3_Read)) (Ln (LtWrite)) (loopAt 0 (loops (bodyOf Try.f25))) (lstWrite_0) [.val (.d (.str  out)), .val (.d (.sl [.int .i64, .str, .str, .str, .int .i64, .str, .str, .str, .int .i64, .str, .str, .str] x12)), .val (.d (.int .i64 x13)), .val (.d (.int .i64 x14))] =
    br (decide (x14 < x13))
  (chk ((0 : Int) ≤ x14 ∧ x14 < (↑x12.length : Int))
    (chk (sz3 (140737488355328 : Nat) ((getR t3S x12 x14).fst, (getR t3S x12 x14).snd.fst, (getR t3S x12 x14).snd.snd.fst, (getR t3S x12 x14).snd.snd.snd.fst, (getR t3S x12 x14).snd.snd.snd.snd.fst, (getR t3S x12 x14).snd.snd.snd.snd.snd.fst, (getR t3S x12 x14).snd.snd.snd.snd.snd.snd.fst, (getR t3S x12 x14).snd.snd.snd.snd.snd.snd.snd.fst, (getR t3S x12 x14).snd.snd.snd.snd.snd.snd.snd.snd.fst, (getR t3S x12 x14).snd.snd.snd.snd.snd.snd.snd.snd.snd.fst, (getR t3S x12 x14).snd.snd.snd.snd.snd.snd.snd.snd.snd.snd.fst, (getR t3S x12 x14).snd.snd.snd.snd.snd.snd.snd.snd.snd.snd.snd.fst, ()))
      (br (tri ((getR t3S x12 x14).fst, (getR t3S x12 x14).snd.fst, (getR t3S x12 x14).snd.snd.fst, (getR t3S x12 x14).snd.snd.snd.fst, (getR t3S x12 x14).snd.snd.snd.snd.fst, (getR t3S x12 x14).snd.snd.snd.snd.snd.fst, (getR t3S x12 x14).snd.snd.snd.snd.snd.snd.fst, (getR t3S x12 x14).snd.snd.snd.snd.snd.snd.snd.fst, (getR t3S x12 x14).snd.snd.snd.snd.snd.snd.snd.snd.fst, (getR t3S x12 x14).snd.snd.snd.snd.snd.snd.snd.snd.snd.fst, (getR t3S x12 x14).snd.snd.snd.snd.snd.snd.snd.snd.snd.snd.fst, (getR t3S x12 x14).snd.snd.snd.snd.snd.snd.snd.snd.snd.snd.snd.fst, ()))
        (chk ((↑out.length : Int) + (↑(List.length (text3 ((getR t3S x12 x14).fst, (getR t3S x12 x14).snd.fst, (getR t3S x12 x14).snd.snd.fst, (getR t3S x12 x14).snd.snd.snd.fst, (getR t3S x12 x14).snd.snd.snd.snd.fst, (getR t3S x12 x14).snd.snd.snd.snd.snd.fst, (getR t3S x12 x14).snd.snd.snd.snd.snd.snd.fst, (getR t3S x12 x14).snd.snd.snd.snd.snd.snd.snd.fst, (getR t3S x12 x14).snd.snd.snd.snd.snd.snd.snd.snd.fst, (getR t3S x12 x14).snd.snd.snd.snd.snd.snd.snd.snd.snd.fst, (getR t3S x12 x14).snd.snd.snd.snd.snd.snd.snd.snd.snd.snd.fst, (getR t3S x12 x14).snd.snd.snd.snd.snd.snd.snd.snd.snd.snd.snd.fst, ()))) : Int) ≤ maxI)
          (some (Rnd.again [SV.val (AV.d (D.str (out ++ text3 ((getR t3S x12 x14).fst, (getR t3S x12 x14).snd.fst, (getR t3S x12 x14).snd.snd.fst, (getR t3S x12 x14).snd.snd.snd.fst, (getR t3S x12 x14).snd.snd.snd.snd.fst, (getR t3S x12 x14).snd.snd.snd.snd.snd.fst, (getR t3S x12 x14).snd.snd.snd.snd.snd.snd.fst, (getR t3S x12 x14).snd.snd.snd.snd.snd.snd.snd.fst, (getR t3S x12 x14).snd.snd.snd.snd.snd.snd.snd.snd.fst, (getR t3S x12 x14).snd.snd.snd.snd.snd.snd.snd.snd.snd.fst, (getR t3S x12 x14).snd.snd.snd.snd.snd.snd.snd.snd.snd.snd.fst, (getR t3S x12 x14).snd.snd.snd.snd.snd.snd.snd.snd.snd.snd.snd.fst, ())))), SV.val (AV.d (D.sl t3S x12)), SV.val (AV.d (D.int IntKind.i64 x13)), SV.val (AV.d (D.int IntKind.i64 (IntKind.i64.wrap (x14 + (1 : Int)))))])))
        (some (Rnd.out Ex.ret [SV.val (AV.d (D.str [])), SV.val (AV.d (D.int IntKind.i64 (2 : Int)))])))))
  (some (Rnd.out (Ex.exit (0 : Nat)) [SV.val (AV.d (D.str out))])) := by kernel_rfl
theorem loktWrite_0 : LoopOK T (En (Er3_Read)) (Ln (LtWrite)) (loopAt 0 (loops (bodyOf Try.f25))) := by
  refine loop_ok (live := [4, 12, 13, 14]) (outs := [4]) (rets := [2, 3]) (ks := [.v false [.str], .v false [.sl [.int .i64, .str, .str, .str, .int .i64, .str, .str, .str, .int .i64, .str, .str, .str]], .v false [.int .i64], .v false [.int .i64]]) (G := lgtWrite_0) (lktWrite_0) (lmtWrite_0) (by kernel_rfl) ?_
  rintro ⟨⟨(out : List UInt8), _⟩, ⟨(x12 : List (RowE [.int .i64, .str, .str, .str, .int .i64, .str, .str, .str, .int .i64, .str, .str, .str])), _⟩, ⟨(x13 : Int), _⟩, ⟨(x14 : Int), _⟩, _⟩ x hok hx
  refine Leads.of_eq (lttWrite_0 out x12 x13 x14) ?_
  obtain ⟨h0, rfl, h2, h3, h4⟩ := hok
  obtain ⟨m, rfl⟩ := Int.eq_ofNat_of_zero_le h0
  simp only [lgtWrite_0, Int.toNat_natCast] at hx h4
  rcases drop_cases x12 m with ⟨hle, hd⟩ | ⟨t, hlt, hd, hb⟩
  · rw [hd] at hx
    have := Out_leaf (Out_tt hx)
    refine Leads.brD (fun q => by omega) (fun _ => Leads.one (Goes.out ?_))
    rw [this]; simp [writeT]
  · rw [getR_of hb]
    rw [hd, triL_cons, writeT_cons] at hx
    refine Leads.brD (fun _ => Leads.chk ⟨by omega, by omega⟩ fun _ => Leads.chk (h3 t (List.mem_of_getElem? hb)) fun _ => Leads.br (fun z => ?_) (fun z => Leads.one (Goes.out ?_))) (fun q => by omega)
    · have z : tri t = true := z
      have hle := text3_le z
      rw [z, Bool.true_and] at hx
      refine Leads.chk ?_ fun _ => Leads.one ?_
      · show (out.length : Int) + ((text3 t).length : Int) ≤ maxI
        simp only [maxI]; omega
      · rw [wrap64 (by omega) (by omega)]
        refine Goes.again (ks := [.v false [.str], .v false [.sl [.int .i64, .str, .str, .str, .int .i64, .str, .str, .str, .int .i64, .str, .str, .str]], .v false [.int .i64], .v false [.int .i64]]) ((_, ()), (_, ()), (_, ()), (_, ()), ()) rfl ?_ ?_ ?_
        · refine ⟨by omega, rfl, h2, h3, ?_⟩
          show (out ++ text3 t).length + _ ≤ _
          rw [toNat_add1, List.length_append]; omega
        · simp only [lmtWrite_0, toNat_add1, Int.toNat_natCast]; omega
        · simp only [lgtWrite_0, toNat_add1]
          rcases hx with ⟨y, hx⟩ | ⟨y, hx⟩
          · refine .inl ⟨y, ?_⟩
            have := Out_leaf hx
            rw [this]
            show _ = _
            rw [List.append_assoc]
          · exact .inr ⟨y, hx⟩
    · have z : tri t = false := z
      rw [z, Bool.false_and] at hx
      exact Out_leaf (Out_ff hx)
theorem ttWrite (l : List (RowE [.int .i64, .str, .str, .str, .int .i64, .str, .str, .str, .int .i64, .str, .str, .str])) : evF T (En (Er3_Read)) (Ln (LtWrite)) Try.f25 [.d (.sl [.int .i64, .str, .str, .str, .int .i64, .str, .str, .str, .int .i64, .str, .str, .str] l)] =
    br (decide ((↑l.length : Int) > (4096 : Int))) (some (SV.val (AV.tup [AV.d (D.str []), AV.d (D.int IntKind.i64 (3 : Int))]))) (chk (lktWrite_0 (([], ()), (l, ()), ((↑l.length : Int), ()), ((0 : Int), ()), ())) (br (triL (List.drop (Int.toNat (0 : Int)) l)) (some (SV.val (AV.tup [AV.d (D.str ([] ++ writeT (List.drop (Int.toNat (0 : Int)) l))), AV.d (D.int IntKind.i64 (0 : Int))]))) (some (SV.val (AV.tup [AV.d (D.str []), AV.d (D.int IntKind.i64 (2 : Int))]))))) := by kernel_rfl
theorem sattWrite : Sat P 25 (StWrite) := by
  refine sat_mk (LT := Ln (LtWrite)) hC okr3_Read mixed Try.func25 (by kernel_rfl) (c := bodyOf Try.f25) (by kernel_rfl) (by kernel_rfl) ?_ (loops1 (by kernel_rfl) (loktWrite_0))
  rintro ⟨⟨(l : List (RowE [.int .i64, .str, .str, .str, .int .i64, .str, .str, .str, .int .i64, .str, .str, .str])), _⟩, _⟩ sv h
  refine Leads.eq (Leads.of_eq (ttWrite l) ?_)
  obtain ⟨hs, h⟩ := h
  rcases Out_brP h with ⟨q, h⟩ | ⟨q, h⟩
  · have h := Out_leaf h
    exact Leads.brD (fun _ => Leads.one (by rw [h])) (fun z => absurd (by omega) z)
  refine Leads.brD (fun z => absurd z (by omega)) (fun _ => Leads.chk ⟨by omega, rfl, by omega, hs, by simp; omega⟩ fun _ => ?_)
  rcases Out_br h with ⟨z, h⟩ | ⟨z, h⟩
  · have h := Out_leaf h
    refine Leads.br (fun _ => Leads.one (by rw [h]; rfl)) (fun y => ?_)
    have y : triL l = false := y
    rw [z] at y; cases y
  · have h := Out_leaf h
    refine Leads.br (fun y => ?_) (fun _ => Leads.one (by rw [h]))
    have y : triL l = true := y
    rw [z] at y; cases y
def EtWrite : Es := (25, StWrite) :: Er3_Read
theorem oktWrite : SatE P (En (EtWrite)) := SatE.cons (sattWrite) okr3_Read
/-! ### legation/legationref03.Write -/
def lkr3_Write_0 : St [.v false [.sl [.int .i64, .str, .str, .str, .int .i64, .str, .str, .str, .int .i64, .str, .str, .str]], .v false [.str], .v false [.int .i64]] → Prop := fun ⟨⟨(l : List (RowE [.int .i64, .str, .str, .str, .int .i64, .str, .str, .str, .int .i64, .str, .str, .str])), _⟩, ⟨(out : List UInt8), _⟩, ⟨(i : Int), _⟩, _⟩ => 0 ≤ i ∧ i ≤ (l.length : Int) ∧ l.length ≤ 4096 ∧ triL (l.drop i.toNat) = true ∧ out.length + 60005 * (l.length - i.toNat) ≤ 1000000000
def lgr3_Write_0 : St [.v false [.sl [.int .i64, .str, .str, .str, .int .i64, .str, .str, .str, .int .i64, .str, .str, .str]], .v false [.str], .v false [.int .i64]] → Tr (Ex × List SV) := fun ⟨⟨(l : List (RowE [.int .i64, .str, .str, .str, .int .i64, .str, .str, .str, .int .i64, .str, .str, .str])), _⟩, ⟨(out : List UInt8), _⟩, ⟨(i : Int), _⟩, _⟩ => .leaf (.exit 0, [.val (.d (.str  (out ++ writeT (l.drop i.toNat))))])
def lmr3_Write_0 : St [.v false [.sl [.int .i64, .str, .str, .str, .int .i64, .str, .str, .str, .int .i64, .str, .str, .str]], .v false [.str], .v false [.int .i64]] → Nat := fun ⟨⟨(l : List (RowE [.int .i64, .str, .str, .str, .int .i64, .str, .str, .str, .int .i64, .str, .str, .str])), _⟩, ⟨(out : List UInt8), _⟩, ⟨(i : Int), _⟩, _⟩ => l.length - i.toNat
def lsr3_Write_0 : LoopS := mkR [0, 3, 4] [3] [] [.v false [.sl [.int .i64, .str, .str, .str, .int .i64, .str, .str, .str, .int .i64, .str, .str, .str]], .v false [.str], .v false [.int .i64]] (fun r => .chk (lkr3_Write_0 r) (lgr3_Write_0 r))
def Lr3_Write : Ls := [(3, lsr3_Write_0)]
def Sr3_Write := mkS [(false, [.sl [.int .i64, .str, .str, .str, .int .i64, .str, .str, .str, .int .i64, .str, .str, .str]])] fun ⟨⟨(l : List (RowE [.int .i64, .str, .str, .str, .int .i64, .str, .str, .str, .int .i64, .str, .str, .str])), _⟩, _⟩ => .chk (l.length ≤ 4096 ∧ triL l = true) (.leaf (.val (.d (.str (writeT l)))))
theorem ltr3_Write_0 (l : List (RowE [.int .i64, .str, .str, .str, .int .i64, .str, .str, .str, .int .i64, .str, .str, .str])) (out : List UInt8) (i : Int) : evRound T (En (EtWrite)) (Ln (Lr3_Write)) (loopAt 0 (loops (bodyOf Try.f26))) (lsr3_Write_0) [.val (.d (.sl [.int .i64, .str, .str, .str, .int .i64, .str, .str, .str, .int .i64, .str, .str, .str] l)), .val (.d (.str  out)), .val (.d (.int .i64 i))] =
    br (decide (i < (↑l.length : Int)))
  (chk ((0 : Int) ≤ i ∧ i < (↑l.length : Int))
    (chk (tri ((getR t3S l i).fst, (getR t3S l i).snd.fst, (getR t3S l i).snd.snd.fst, (getR t3S l i).snd.snd.snd.fst, (getR t3S l i).snd.snd.snd.snd.fst, (getR t3S l i).snd.snd.snd.snd.snd.fst, (getR t3S l i).snd.snd.snd.snd.snd.snd.fst, (getR t3S l i).snd.snd.snd.snd.snd.snd.snd.fst, (getR t3S l i).snd.snd.snd.snd.snd.snd.snd.snd.fst, (getR t3S l i).snd.snd.snd.snd.snd.snd.snd.snd.snd.fst, (getR t3S l i).snd.snd.snd.snd.snd.snd.snd.snd.snd.snd.fst, (getR t3S l i).snd.snd.snd.snd.snd.snd.snd.snd.snd.snd.snd.fst, ()) = true)
      (chk ((↑out.length : Int) + (↑(List.length (text3 ((getR t3S l i).fst, (getR t3S l i).snd.fst, (getR t3S l i).snd.snd.fst, (getR t3S l i).snd.snd.snd.fst, (getR t3S l i).snd.snd.snd.snd.fst, (getR t3S l i).snd.snd.snd.snd.snd.fst, (getR t3S l i).snd.snd.snd.snd.snd.snd.fst, (getR t3S l i).snd.snd.snd.snd.snd.snd.snd.fst, (getR t3S l i).snd.snd.snd.snd.snd.snd.snd.snd.fst, (getR t3S l i).snd.snd.snd.snd.snd.snd.snd.snd.snd.fst, (getR t3S l i).snd.snd.snd.snd.snd.snd.snd.snd.snd.snd.fst, (getR t3S l i).snd.snd.snd.snd.snd.snd.snd.snd.snd.snd.snd.fst, ()))) : Int) ≤ maxI)
        (some (Rnd.again [SV.val (AV.d (D.sl t3S l)), SV.val (AV.d (D.str (out ++ text3 ((getR t3S l i).fst, (getR t3S l i).snd.fst, (getR t3S l i).snd.snd.fst, (getR t3S l i).snd.snd.snd.fst, (getR t3S l i).snd.snd.snd.snd.fst, (getR t3S l i).snd.snd.snd.snd.snd.fst, (getR t3S l i).snd.snd.snd.snd.snd.snd.fst, (getR t3S l i).snd.snd.snd.snd.snd.snd.snd.fst, (getR t3S l i).snd.snd.snd.snd.snd.snd.snd.snd.fst, (getR t3S l i).snd.snd.snd.snd.snd.snd.snd.snd.snd.fst, (getR t3S l i).snd.snd.snd.snd.snd.snd.snd.snd.snd.snd.fst, (getR t3S l i).snd.snd.snd.snd.snd.snd.snd.snd.snd.snd.snd.fst, ())))), SV.val (AV.d (D.int IntKind.i64 (IntKind.i64.wrap (i + (1 : Int)))))])))))
  (some (Rnd.out (Ex.exit (0 : Nat)) [SV.val (AV.d (D.str out))])) := by kernel_rfl
theorem lokr3_Write_0 : LoopOK T (En (EtWrite)) (Ln (Lr3_Write)) (loopAt 0 (loops (bodyOf Try.f26))) := by
  refine loop_ok (live := [0, 3, 4]) (outs := [3]) (rets := []) (ks := [.v false [.sl [.int .i64, .str, .str, .str, .int .i64, .str, .str, .str, .int .i64, .str, .str, .str]], .v false [.str], .v false [.int .i64]]) (G := lgr3_Write_0) (lkr3_Write_0) (lmr3_Write_0) (by kernel_rfl) ?_
  rintro ⟨⟨(l : List (RowE [.int .i64, .str, .str, .str, .int .i64, .str, .str, .str, .int .i64, .str, .str, .str])), _⟩, ⟨(out : List UInt8), _⟩, ⟨(i : Int), _⟩, _⟩ x hok hx
  refine Leads.of_eq (ltr3_Write_0 l out i) ?_
  obtain ⟨h0, h1, h2, h3, h4⟩ := hok
  obtain ⟨m, rfl⟩ := Int.eq_ofNat_of_zero_le h0
  simp only [lgr3_Write_0, Int.toNat_natCast] at hx h3 h4
  rcases drop_cases l m with ⟨hle, hd⟩ | ⟨t, hlt, hd, hb⟩
  · rw [hd] at hx
    have := Out_leaf hx
    refine Leads.brD (fun q => by omega) (fun _ => Leads.one (Goes.out ?_))
    rw [this]; simp [writeT]
  · rw [getR_of hb]
    rw [hd, writeT_cons] at hx
    rw [hd, triL_cons, Bool.and_eq_true] at h3
    have hle := text3_le h3.1
    refine Leads.brD (fun _ => Leads.chk ⟨by omega, by omega⟩ fun _ => Leads.chk h3.1 fun _ => Leads.chk ?_ fun _ => Leads.one ?_) (fun q => by omega)
    · show (out.length : Int) + ((text3 t).length : Int) ≤ maxI
      simp only [maxI]; omega
    · rw [wrap64 (by omega) (by omega)]
      refine Goes.again (ks := [.v false [.sl [.int .i64, .str, .str, .str, .int .i64, .str, .str, .str, .int .i64, .str, .str, .str]], .v false [.str], .v false [.int .i64]]) ((_, ()), (_, ()), (_, ()), ()) rfl ?_ ?_ ?_
      · refine ⟨by omega, by omega, h2, ?_, ?_⟩
        · rw [toNat_add1]; exact h3.2
        · show (out ++ text3 t).length + _ ≤ _
          rw [toNat_add1, List.length_append]; omega
      · simp only [lmr3_Write_0, toNat_add1, Int.toNat_natCast]; omega
      · simp only [lgr3_Write_0, toNat_add1]
        have := Out_leaf hx
        rw [this]
        show _ = _
        rw [List.append_assoc]
theorem tr3_Write (l : List (RowE [.int .i64, .str, .str, .str, .int .i64, .str, .str, .str, .int .i64, .str, .str, .str])) : evF T (En (EtWrite)) (Ln (Lr3_Write)) Try.f26 [.d (.sl [.int .i64, .str, .str, .str, .int .i64, .str, .str, .str, .int .i64, .str, .str, .str] l)] =
    chk (lkr3_Write_0 ((l, ()), ([], ()), ((0 : Int), ()), ())) (some (SV.val (AV.d (D.str ([] ++ writeT (List.drop (Int.toNat (0 : Int)) l)))))) := by kernel_rfl
theorem satr3_Write : Sat P 26 (Sr3_Write) := by
  refine sat_mk (LT := Ln (Lr3_Write)) hC oktWrite mixed Try.func26 (by kernel_rfl) (c := bodyOf Try.f26) (by kernel_rfl) (by kernel_rfl) ?_ (loops1 (by kernel_rfl) (lokr3_Write_0))
  rintro ⟨⟨(l : List (RowE [.int .i64, .str, .str, .str, .int .i64, .str, .str, .str, .int .i64, .str, .str, .str])), _⟩, _⟩ sv h
  refine Leads.eq (Leads.of_eq (tr3_Write l) ?_)
  obtain ⟨⟨h1, h2⟩, h⟩ := h
  have h := Out_leaf h
  refine Leads.chk ⟨by omega, by omega, h1, h2, by simp; omega⟩ fun _ => Leads.one ?_
  rw [h]; rfl
def Er3_Write : Es := (26, Sr3_Write) :: EtWrite
theorem okr3_Write : SatE P (En (Er3_Write)) := SatE.cons (satr3_Write) oktWrite
end Go.Proofs.Ytglchbjdjnffcaa.T3
