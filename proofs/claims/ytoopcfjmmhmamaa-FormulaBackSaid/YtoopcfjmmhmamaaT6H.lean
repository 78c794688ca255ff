/- Part of a proof of the seat's statements: no statement by itself. -/
import Derived.Test.YtoopcfjmmhmamaaT6G
set_option maxRecDepth 100000
open Go.Proofs.Ytoopcfjmmhmamaa.Lg Go Go.Proofs.Ytoopcfjmmhmamaa.Sp
open Go.Proofs
namespace Go.Proofs.Ytoopcfjmmhmamaa.T6


/-! ### slices.Index[[]string,string] -/
def lkslIndex_0 : St [.v false [.sl [.str]], .v false [.str], .v false [.int .i64], .v false [.int .i64]] → Prop := fun ⟨⟨(s : List (RowE [.str])), _⟩, ⟨(v : List UInt8), _⟩, ⟨(x7 : Int), _⟩, ⟨(x8 : Int), _⟩, _⟩ => x7 = (s.length : Int) ∧ 0 ≤ x8 ∧ x8 ≤ x7 ∧ s.length ≤ 140737488355328
def lgslIndex_0 : St [.v false [.sl [.str]], .v false [.str], .v false [.int .i64], .v false [.int .i64]] → Tr (Ex × List SV) := fun ⟨⟨(s : List (RowE [.str])), _⟩, ⟨(v : List UInt8), _⟩, ⟨(x7 : Int), _⟩, ⟨(x8 : Int), _⟩, _⟩ => .brP (idxS (s.drop x8.toNat) v x8 < 0) (.leaf (.exit 0, [])) (.leaf (.ret, [.val (.d (.int .i64 (idxS (s.drop x8.toNat) v x8)))]))
def lmslIndex_0 : St [.v false [.sl [.str]], .v false [.str], .v false [.int .i64], .v false [.int .i64]] → Nat := fun ⟨⟨(s : List (RowE [.str])), _⟩, ⟨(v : List UInt8), _⟩, ⟨(x7 : Int), _⟩, ⟨(x8 : Int), _⟩, _⟩ => s.length - x8.toNat
def lsslIndex_0 : LoopS := mkR [0, 1, 7, 8] [] [4] [.v false [.sl [.str]], .v false [.str], .v false [.int .i64], .v false [.int .i64]] (fun r => .chk (lkslIndex_0 r) (lgslIndex_0 r))
def LslIndex : Ls := [(2, lsslIndex_0)]
def SslIndex := mkS [(false, [.sl [.str]]), (false, [.str])] fun ⟨⟨(s : List (RowE [.str])), _⟩, ⟨(v : List UInt8), _⟩, _⟩ => .chk (s.length ≤ 140737488355328) (.leaf (.val (.d (.int .i64 (idxS s v 0)))))
theorem ltslIndex_0 (s : List (RowE [.str])) (v : List UInt8) (x7 : Int) (x8 : Int) : evRound T (Ep (Er_Text)) (Ln (LslIndex)) (loopAt 0 (loops (bodyOf Try.f46))) (lsslIndex_0) [.val (.d (.sl [.str] s)), .val (.d (.str  v)), .val (.d (.int .i64 x7)), .val (.d (.int .i64 x8))] =
    br (decide (x8 < x7)) (chk ((0 : Int) ≤ x8 ∧ x8 < (↑s.length : Int)) (br (v == (getR [Sh.str] s x8).fst) (some (Rnd.out Ex.ret [SV.val (AV.d (D.int IntKind.i64 x8))])) (some (Rnd.again [SV.val (AV.d (D.sl [Sh.str] s)), SV.val (AV.d (D.str v)), SV.val (AV.d (D.int IntKind.i64 x7)), SV.val (AV.d (D.int IntKind.i64 (IntKind.i64.wrap (x8 + (1 : Int)))))])))) (some (Rnd.out (Ex.exit (0 : Nat)) [])) := by kernel_rfl
theorem lokslIndex_0 : LoopOK T (Ep (Er_Text)) (Ln (LslIndex)) (loopAt 0 (loops (bodyOf Try.f46))) := by
  refine loop_ok (live := [0, 1, 7, 8]) (outs := []) (rets := [4]) (ks := [.v false [.sl [.str]], .v false [.str], .v false [.int .i64], .v false [.int .i64]]) (G := lgslIndex_0) (lkslIndex_0) (lmslIndex_0) (by kernel_rfl) ?_
  rintro ⟨⟨(s : List (RowE [.str])), _⟩, ⟨(v : List UInt8), _⟩, ⟨(x7 : Int), _⟩, ⟨(x8 : Int), _⟩, _⟩ x hok hx
  refine Leads.of_eq (ltslIndex_0 s v x7 x8) ?_
  obtain ⟨e7, h0, h1, hl⟩ := hok
  have e7 : x7 = (s.length : Int) := e7
  subst e7
  obtain ⟨i, rfl⟩ := Int.eq_ofNat_of_zero_le h0
  simp only [lgslIndex_0, Int.toNat_natCast] at hx
  refine Leads.brD (fun lt => Leads.chk ⟨h0, lt⟩ fun _ => ?_) (fun ge => Leads.one (Goes.out ?_))
  · have lt' : i < s.length := by omega
    rw [txt_at lt', idxS] at hx
    rw [wrap64 (by omega) (by omega)]
    refine Leads.brE (fun w => Leads.one (Goes.out ?_)) (fun w => Leads.one ?_)
    · rw [if_pos w] at hx
      rw [Out_leaf (Out_neg (by omega) hx)]
    · rw [if_neg w] at hx
      refine Goes.again (ks := [.v false [.sl [.str]], .v false [.str], .v false [.int .i64], .v false [.int .i64]]) ((s, ()), (v, ()), ((s.length : Int), ()), ((i : Int) + 1, ()), ()) rfl ?_ ?_ ?_
      · exact ⟨rfl, (by omega : 0 ≤ (i : Int) + 1), (by omega : (i : Int) + 1 ≤ (s.length : Int)), hl⟩
      · show s.length - ((i : Int) + 1).toNat < s.length - (i : Int).toNat
        simp only [toNat_add1, Int.toNat_natCast]; omega
      · simp only [lgslIndex_0, toNat_add1]; exact hx
  · rw [List.drop_of_length_le (by omega), idxS] at hx
    rw [Out_leaf (Out_pos (by decide) hx)]
theorem tslIndex (s : List (RowE [.str])) (v : List UInt8) : evF T (Ep (Er_Text)) (Ln (LslIndex)) Try.f46 [.d (.sl [.str] s), .d (.str v)] =
    chk (lkslIndex_0 ((s, ()), (v, ()), ((↑s.length : Int), ()), ((0 : Int), ()), ())) (brP (idxS (List.drop (Int.toNat (0 : Int)) s) v (0 : Int) < (0 : Int)) (some (SV.val (AV.d (D.int IntKind.i64 (-1 : Int))))) (some (SV.val (AV.d (D.int IntKind.i64 (idxS (List.drop (Int.toNat (0 : Int)) s) v (0 : Int))))))) := by kernel_rfl
theorem satslIndex : Sat P 46 (SslIndex) := by
  refine sat_mk (LT := Ln (LslIndex)) hC (SatE.ep okr_Text) mixed Try.func46 (by kernel_rfl) (c := bodyOf Try.f46) (by kernel_rfl) (by kernel_rfl) ?_ (loops1 (by kernel_rfl) (lokslIndex_0))
  rintro ⟨⟨(s : List (RowE [.str])), _⟩, ⟨(v : List UInt8), _⟩, _⟩ sv h
  refine Leads.eq (Leads.of_eq (tslIndex s v) ?_)
  obtain ⟨hl, h⟩ := h
  have h := Out_leaf h
  subst h
  refine Leads.chk ⟨rfl, by decide, Int.natCast_nonneg _, hl⟩ fun _ => Leads.brP (fun w => Leads.one ?_) (fun w => Leads.one rfl)
  have w : idxS s v 0 < 0 := w
  have key : ∀ (l : List (RowE [.str])) (i : Int), 0 ≤ i → idxS l v i < 0 → idxS l v i = -1 := by
    intro l
    induction l with
    | nil => exact fun _ _ _ => rfl
    | cons r l ih =>
      intro i h0 h1
      rw [idxS] at h1 ⊢
      split at h1
      · omega
      · rename_i e; rw [if_neg e]; exact ih (i + 1) (by omega) h1
  rw [key s 0 (by decide) w]
def EslIndex : Es := (46, (SslIndex)) :: Er_Text
theorem okslIndex : SatE P (En (EslIndex)) := SatE.cons (satslIndex) okr_Text
/-! ### slices.Contains[[]string,string] -/
def LslCont : Ls := []
def SslCont := mkS [(false, [.sl [.str]]), (false, [.str])] fun ⟨⟨(s : List (RowE [.str])), _⟩, ⟨(v : List UInt8), _⟩, _⟩ => .chk (s.length ≤ 140737488355328) (bl (hasS s v))
theorem tslCont (s : List (RowE [.str])) (v : List UInt8) : evF T (Ep (EslIndex)) (Ln (LslCont)) Try.f30 [.d (.sl [.str] s), .d (.str v)] =
    chk (s.length ≤ (140737488355328 : Nat)) (some (SV.val (AV.d (D.bool (decide (idxS s v (0 : Int) ≥ (0 : Int))))))) := by kernel_rfl
theorem satslCont : Sat P 30 (SslCont) := by
  refine sat_mk (LT := Ln (LslCont)) hC (SatE.ep okslIndex) mixed Try.func30 (by kernel_rfl) (c := bodyOf Try.f30) (by kernel_rfl) (by kernel_rfl) ?_ (loops0 (by kernel_rfl))
  rintro ⟨⟨(s : List (RowE [.str])), _⟩, ⟨(v : List UInt8), _⟩, _⟩ sv h
  refine Leads.eq (Leads.of_eq (tslCont s v) ?_)
  obtain ⟨hl, h⟩ := h
  have h := Out_leaf h
  subst h
  exact Leads.chk hl fun _ => Leads.one (by rw [idxS_has s v 0 (by decide)])
def EslCont : Es := (30, (SslCont)) :: EslIndex
theorem okslCont : SatE P (En (EslCont)) := SatE.cons (satslCont) okslIndex
/-! ### legation/legationref03.In -/
def lkr_In_0 : St [.v false [.sl [.str]], .v false [.str], .v false [.int .i64]] → Prop := fun ⟨⟨(l : List (RowE [.str])), _⟩, ⟨(s : List UInt8), _⟩, ⟨(i : Int), _⟩, _⟩ => 0 ≤ i ∧ i ≤ l.length ∧ l.length ≤ 140737488355328
def lgr_In_0 : St [.v false [.sl [.str]], .v false [.str], .v false [.int .i64]] → Tr (Ex × List SV) := fun ⟨⟨(l : List (RowE [.str])), _⟩, ⟨(s : List UInt8), _⟩, ⟨(i : Int), _⟩, _⟩ => .br (hasS (l.drop i.toNat) s) (.leaf (.ret, [.val (.d (.bool  (true)))])) (.leaf (.exit 0, []))
def lmr_In_0 : St [.v false [.sl [.str]], .v false [.str], .v false [.int .i64]] → Nat := fun ⟨⟨(l : List (RowE [.str])), _⟩, ⟨(s : List UInt8), _⟩, ⟨(i : Int), _⟩, _⟩ => l.length - i.toNat
def lsr_In_0 : LoopS := mkR [0, 1, 5] [] [4] [.v false [.sl [.str]], .v false [.str], .v false [.int .i64]] (fun r => .chk (lkr_In_0 r) (lgr_In_0 r))
def Lr_In : Ls := [(2, lsr_In_0)]
def Sr_In := mkS [(false, [.sl [.str]]), (false, [.str])] fun ⟨⟨(l : List (RowE [.str])), _⟩, ⟨(s : List UInt8), _⟩, _⟩ => .chk (l.length ≤ 140737488355328) (bl (hasS l s))
theorem ltr_In_0 (l : List (RowE [.str])) (s : List UInt8) (i : Int) : evRound T (Ep (EslCont)) (Ln (Lr_In)) (loopAt 0 (loops (bodyOf Try.f31))) (lsr_In_0) [.val (.d (.sl [.str] l)), .val (.d (.str  s)), .val (.d (.int .i64 i))] =
    br (decide (i < (↑l.length : Int))) (chk ((0 : Int) ≤ i ∧ i < (↑l.length : Int)) (br ((getR [Sh.str] l i).fst == s) (some (Rnd.out Ex.ret [SV.val (AV.d (D.bool true))])) (some (Rnd.again [SV.val (AV.d (D.sl [Sh.str] l)), SV.val (AV.d (D.str s)), SV.val (AV.d (D.int IntKind.i64 (IntKind.i64.wrap (i + (1 : Int)))))])))) (some (Rnd.out (Ex.exit (0 : Nat)) [])) := by kernel_rfl
theorem lokr_In_0 : LoopOK T (Ep (EslCont)) (Ln (Lr_In)) (loopAt 0 (loops (bodyOf Try.f31))) := by
  refine loop_ok (live := [0, 1, 5]) (outs := []) (rets := [4]) (ks := [.v false [.sl [.str]], .v false [.str], .v false [.int .i64]]) (G := lgr_In_0) (lkr_In_0) (lmr_In_0) (by kernel_rfl) ?_
  rintro ⟨⟨(l : List (RowE [.str])), _⟩, ⟨(s : List UInt8), _⟩, ⟨(i : Int), _⟩, _⟩ x hok hx
  refine Leads.of_eq (ltr_In_0 l s i) ?_
  obtain ⟨h0, h1, hl⟩ := hok
  obtain ⟨i, rfl⟩ := Int.eq_ofNat_of_zero_le h0
  simp only [lgr_In_0, Int.toNat_natCast] at hx
  refine Leads.brD (fun lt => Leads.chk ⟨h0, lt⟩ fun _ => ?_) (fun ge => Leads.one (Goes.out ?_))
  · have lt' : i < l.length := by omega
    rw [txt_at lt', hasS_cons] at hx
    rw [wrap64 (by omega) (by omega)]
    refine Leads.brE (fun w => Leads.one (Goes.out ?_)) (fun w => Leads.one ?_)
    · rw [show ((getR [.str] l (i : Int)).1 == s) = true from beq_iff_eq.2 w] at hx
      rw [Out_leaf (Out_tt hx)]
    · rw [show ((getR [.str] l (i : Int)).1 == s) = false from beq_eq_false_iff_ne.2 w] at hx
      refine Goes.again (ks := [.v false [.sl [.str]], .v false [.str], .v false [.int .i64]]) ((l, ()), (s, ()), ((i : Int) + 1, ()), ()) rfl ?_ ?_ ?_
      · exact ⟨(by omega : 0 ≤ (i : Int) + 1), (by omega : (i : Int) + 1 ≤ (l.length : Int)), hl⟩
      · show l.length - ((i : Int) + 1).toNat < l.length - (i : Int).toNat
        simp only [toNat_add1, Int.toNat_natCast]; omega
      · simp only [lgr_In_0, toNat_add1]; exact hx
  · rw [List.drop_of_length_le (by omega)] at hx
    rw [Out_leaf (Out_ff hx)]
theorem tr_In (l : List (RowE [.str])) (s : List UInt8) : evF T (Ep (EslCont)) (Ln (Lr_In)) Try.f31 [.d (.sl [.str] l), .d (.str s)] =
    chk (lkr_In_0 ((l, ()), (s, ()), ((0 : Int), ()), ())) (br (hasS (List.drop (Int.toNat (0 : Int)) l) s) (some (SV.val (AV.d (D.bool true)))) (some (SV.val (AV.d (D.bool false))))) := by kernel_rfl
theorem satr_In : Sat P 31 (Sr_In) := by
  refine sat_mk (LT := Ln (Lr_In)) hC (SatE.ep okslCont) mixed Try.func31 (by kernel_rfl) (c := bodyOf Try.f31) (by kernel_rfl) (by kernel_rfl) ?_ (loops1 (by kernel_rfl) (lokr_In_0))
  rintro ⟨⟨(l : List (RowE [.str])), _⟩, ⟨(s : List UInt8), _⟩, _⟩ sv h
  refine Leads.eq (Leads.of_eq (tr_In l s) ?_)
  obtain ⟨hl, h⟩ := h
  have h := Out_leaf h
  subst h
  refine Leads.chk ⟨by decide, Int.natCast_nonneg _, hl⟩ fun _ => Leads.br (fun w => Leads.one ?_) (fun w => Leads.one ?_)
  · have w : hasS l s = true := w
    rw [w]
  · have w : hasS l s = false := w
    rw [w]
def Er_In : Es := (31, (Sr_In)) :: EslCont
theorem okr_In : SatE P (En (Er_In)) := SatE.cons (satr_In) okslCont
/-! ### legation/legationref03.SameTexts -/
def lkr3_SameTexts_0 : St [.v false [.sl [.str]], .v false [.sl [.str]], .v false [.int .i64]] → Prop := fun ⟨⟨(a : List (RowE [.str])), _⟩, ⟨(b : List (RowE [.str])), _⟩, ⟨(i : Int), _⟩, _⟩ => 0 ≤ i ∧ i ≤ (a.length : Int) ∧ a.length = b.length ∧ a.length ≤ 1152921504606846976
def lgr3_SameTexts_0 : St [.v false [.sl [.str]], .v false [.sl [.str]], .v false [.int .i64]] → Tr (Ex × List SV) := fun ⟨⟨(a : List (RowE [.str])), _⟩, ⟨(b : List (RowE [.str])), _⟩, ⟨(i : Int), _⟩, _⟩ => .br (sameT1 (a.drop i.toNat) (b.drop i.toNat)) (.leaf (.exit 0, [])) (.leaf (.ret, [.val (.d (.bool  (false)))]))
def lmr3_SameTexts_0 : St [.v false [.sl [.str]], .v false [.sl [.str]], .v false [.int .i64]] → Nat := fun ⟨⟨(a : List (RowE [.str])), _⟩, ⟨(b : List (RowE [.str])), _⟩, ⟨(i : Int), _⟩, _⟩ => a.length - i.toNat
def lsr3_SameTexts_0 : LoopS := mkR [0, 1, 5] [] [4] [.v false [.sl [.str]], .v false [.sl [.str]], .v false [.int .i64]] (fun r => .chk (lkr3_SameTexts_0 r) (lgr3_SameTexts_0 r))
def Lr3_SameTexts : Ls := [(4, lsr3_SameTexts_0)]
def Sr3_SameTexts := mkS [(false, [.sl [.str]]), (false, [.sl [.str]])] fun ⟨⟨(a : List (RowE [.str])), _⟩, ⟨(b : List (RowE [.str])), _⟩, _⟩ => .chk (a.length ≤ 1152921504606846976 ∧ b.length ≤ 1152921504606846976) (bl (sameX a b))
theorem ltr3_SameTexts_0 (a : List (RowE [.str])) (b : List (RowE [.str])) (i : Int) : evRound T (Ep (Er_In)) (Ln (Lr3_SameTexts)) (loopAt 0 (loops (bodyOf Try.f17))) (lsr3_SameTexts_0) [.val (.d (.sl [.str] a)), .val (.d (.sl [.str] b)), .val (.d (.int .i64 i))] =
    br (decide (i < (↑a.length : Int))) (chk ((0 : Int) ≤ i ∧ i < (↑a.length : Int)) (chk ((0 : Int) ≤ i ∧ i < (↑b.length : Int)) (br (!(getR [Sh.str] a i).fst == (getR [Sh.str] b i).fst) (some (Rnd.out Ex.ret [SV.val (AV.d (D.bool false))])) (some (Rnd.again [SV.val (AV.d (D.sl [Sh.str] a)), SV.val (AV.d (D.sl [Sh.str] b)), SV.val (AV.d (D.int IntKind.i64 (IntKind.i64.wrap (i + (1 : Int)))))]))))) (some (Rnd.out (Ex.exit (0 : Nat)) [])) := by kernel_rfl
theorem lokr3_SameTexts_0 : LoopOK T (Ep (Er_In)) (Ln (Lr3_SameTexts)) (loopAt 0 (loops (bodyOf Try.f17))) := by
  refine loop_ok (live := [0, 1, 5]) (outs := []) (rets := [4]) (ks := [.v false [.sl [.str]], .v false [.sl [.str]], .v false [.int .i64]]) (G := lgr3_SameTexts_0) (lkr3_SameTexts_0) (lmr3_SameTexts_0) (by kernel_rfl) ?_
  rintro ⟨⟨(a : List (RowE [.str])), _⟩, ⟨(b : List (RowE [.str])), _⟩, ⟨(i : Int), _⟩, _⟩ x hok hx
  refine Leads.of_eq (ltr3_SameTexts_0 a b i) ?_
  obtain ⟨h0, h1, h2, h3⟩ := hok
  obtain ⟨m, rfl⟩ := Int.eq_ofNat_of_zero_le h0
  simp only [lgr3_SameTexts_0, Int.toNat_natCast] at hx
  rcases drop_cases a m with ⟨hle, hd⟩ | ⟨x1, hlt, hd, hb⟩
  · rw [hd] at hx
    exact Leads.brD (fun q => by omega) (fun _ => Leads.one (Goes.out (Out_leaf (Out_tt hx))))
  rcases drop_cases b m with ⟨hle', hd'⟩ | ⟨x2, hlt', hd', hb'⟩
  · omega
  rw [hd, hd'] at hx
  simp only [sameT1] at hx
  rw [getR_of hb, getR_of hb', wrap64 (by omega) (by omega)]
  refine Leads.brD (fun _ => Leads.chk (by omega) fun _ => Leads.chk (by omega) fun _ => Leads.br (fun e1 => Leads.one (Goes.out ?_)) (fun e1 => Leads.one ?_)) (fun q => by omega)
  · have e1 : (x1.1 == x2.1) = false := by have e1 : (x1.1 != x2.1) = true := e1; simpa using e1
    rw [e1] at hx
    exact Out_leaf (Out_ff hx)
  · have e1 : (x1.1 == x2.1) = true := by have e1 : (x1.1 != x2.1) = false := e1; simpa using e1
    rw [e1, Bool.true_and] at hx
    refine Goes.again (ks := [.v false [.sl [.str]], .v false [.sl [.str]], .v false [.int .i64]]) ((_, ()), (_, ()), (_, ()), ()) rfl ?_ ?_ ?_
    · exact ⟨by omega, by omega, h2, h3⟩
    · simp only [lmr3_SameTexts_0]; omega
    · simp only [lgr3_SameTexts_0, toNat_add1]; exact hx
theorem tr3_SameTexts (a : List (RowE [.str])) (b : List (RowE [.str])) : evF T (Ep (Er_In)) (Ln (Lr3_SameTexts)) Try.f17 [.d (.sl [.str] a), .d (.sl [.str] b)] =
    br ((↑a.length : Int) != (↑b.length : Int)) (some (SV.val (AV.d (D.bool false)))) (chk (lkr3_SameTexts_0 ((a, ()), (b, ()), ((0 : Int), ()), ())) (br (sameT1 (List.drop (Int.toNat (0 : Int)) a) (List.drop (Int.toNat (0 : Int)) b)) (some (SV.val (AV.d (D.bool true)))) (some (SV.val (AV.d (D.bool false)))))) := by kernel_rfl
theorem satr3_SameTexts : Sat P 17 (Sr3_SameTexts) := by
  refine sat_mk (LT := Ln (Lr3_SameTexts)) hC (SatE.ep okr_In) mixed Try.func17 (by kernel_rfl) (c := bodyOf Try.f17) (by kernel_rfl) (by kernel_rfl) ?_ (loops1 (by kernel_rfl) (lokr3_SameTexts_0))
  rintro ⟨⟨(a : List (RowE [.str])), _⟩, ⟨(b : List (RowE [.str])), _⟩, _⟩ sv h
  refine Leads.eq (Leads.of_eq (tr3_SameTexts a b) ?_)
  obtain ⟨⟨hs1, hs2⟩, h⟩ := h
  have h := Out_leaf h
  refine Leads.brN (fun e => Leads.chk ⟨by omega, by omega, by omega, hs1⟩ fun _ => Leads.br (fun z => Leads.one ?_) (fun z => Leads.one ?_)) (fun e => Leads.one ?_)
  · have z : sameT1 a b = true := z
    have e : (a.length : Int) = b.length := e
    rw [h, sameX, z, decide_eq_true (by omega)]; rfl
  · have z : sameT1 a b = false := z
    rw [h, sameX, z]; simp
  · have e : ¬ (a.length : Int) = b.length := e
    rw [h, sameX, decide_eq_false (by omega)]; rfl
def Er3_SameTexts : Es := (17, (Sr3_SameTexts)) :: Er_In
theorem okr3_SameTexts : SatE P (En (Er3_SameTexts)) := SatE.cons (satr3_SameTexts) okr_In
/-! ### legation/formula.Vars -/
def lkf_Vars_0 : St [.a [.str], .v false [.sl [.int .i64, .int .i64, .str, .str, .str, .str, .int .i64]], .v false [.int .i64], .v false [.int .i64]] → Prop := fun ⟨(out : List (RowE [.str])), ⟨(x6 : List (RowE [.int .i64, .int .i64, .str, .str, .str, .str, .int .i64])), _⟩, ⟨(x7 : Int), _⟩, ⟨(x8 : Int), _⟩, _⟩ => x7 = (x6.length : Int) ∧ 0 ≤ x8 ∧ x8 ≤ x7 ∧ x6.length ≤ 1599289640401 ∧ (out.length : Int) ≤ x8
def lgf_Vars_0 : St [.a [.str], .v false [.sl [.int .i64, .int .i64, .str, .str, .str, .str, .int .i64]], .v false [.int .i64], .v false [.int .i64]] → Tr (Ex × List SV) := fun ⟨(out : List (RowE [.str])), ⟨(x6 : List (RowE [.int .i64, .int .i64, .str, .str, .str, .str, .int .i64])), _⟩, ⟨(x7 : Int), _⟩, ⟨(x8 : Int), _⟩, _⟩ => .leaf (.exit 0, [.app [.str] (vrF (x6.drop x8.toNat) out)])
def lmf_Vars_0 : St [.a [.str], .v false [.sl [.int .i64, .int .i64, .str, .str, .str, .str, .int .i64]], .v false [.int .i64], .v false [.int .i64]] → Nat := fun ⟨(out : List (RowE [.str])), ⟨(x6 : List (RowE [.int .i64, .int .i64, .str, .str, .str, .str, .int .i64])), _⟩, ⟨(x7 : Int), _⟩, ⟨(x8 : Int), _⟩, _⟩ => x6.length - x8.toNat
def lsf_Vars_0 : LoopS := mkR [3, 6, 7, 8] [3] [] [.a [.str], .v false [.sl [.int .i64, .int .i64, .str, .str, .str, .str, .int .i64]], .v false [.int .i64], .v false [.int .i64]] (fun r => .chk (lkf_Vars_0 r) (lgf_Vars_0 r))
def Lf_Vars : Ls := [(3, lsf_Vars_0)]
def Sf_Vars := mkS [(false, [.sl [.int .i64, .int .i64, .str, .str, .str, .str, .int .i64]])] fun ⟨⟨(f : List (RowE [.int .i64, .int .i64, .str, .str, .str, .str, .int .i64])), _⟩, _⟩ => .chk (f.length ≤ 1599289640401) (.leaf (.app [.str] (vrF f [])))
theorem ltf_Vars_0 (out : List (RowE [.str])) (x6 : List (RowE [.int .i64, .int .i64, .str, .str, .str, .str, .int .i64])) (x7 : Int) (x8 : Int) : evRound T (Ep (Er3_SameTexts)) (Ln (Lf_Vars)) (loopAt 0 (loops (bodyOf Try.f18))) (lsf_Vars_0) [.app [.str] out, .val (.d (.sl [.int .i64, .int .i64, .str, .str, .str, .str, .int .i64] x6)), .val (.d (.int .i64 x7)), .val (.d (.int .i64 x8))] =
    br (decide (x8 < x7)) (chk ((0 : Int) ≤ x8 ∧ x8 < (↑x6.length : Int)) (br ((getR ptS x6 x8).fst == (2 : Int)) (chk (out.length ≤ (140737488355328 : Nat)) (br (!hasS out (getR ptS x6 x8).snd.snd.snd.snd.snd.fst) (chk (((↑out.length : Int) + (↑[((getR ptS x6 x8).snd.snd.snd.snd.snd.fst, ())].length : Int)) * (↑(16 : Nat) : Int) < lim) (some (Rnd.again [SV.app [Sh.str] (out ++ [((getR ptS x6 x8).snd.snd.snd.snd.snd.fst, ())]), SV.val (AV.d (D.sl ptS x6)), SV.val (AV.d (D.int IntKind.i64 x7)), SV.val (AV.d (D.int IntKind.i64 (IntKind.i64.wrap (x8 + (1 : Int)))))]))) (some (Rnd.again [SV.app [Sh.str] out, SV.val (AV.d (D.sl ptS x6)), SV.val (AV.d (D.int IntKind.i64 x7)), SV.val (AV.d (D.int IntKind.i64 (IntKind.i64.wrap (x8 + (1 : Int)))))])))) (br ((getR ptS x6 x8).fst == (3 : Int)) (chk (out.length ≤ (140737488355328 : Nat)) (br (!hasS out (getR ptS x6 x8).snd.snd.snd.snd.snd.fst) (chk (((↑out.length : Int) + (↑[((getR ptS x6 x8).snd.snd.snd.snd.snd.fst, ())].length : Int)) * (↑(16 : Nat) : Int) < lim) (some (Rnd.again [SV.app [Sh.str] (out ++ [((getR ptS x6 x8).snd.snd.snd.snd.snd.fst, ())]), SV.val (AV.d (D.sl ptS x6)), SV.val (AV.d (D.int IntKind.i64 x7)), SV.val (AV.d (D.int IntKind.i64 (IntKind.i64.wrap (x8 + (1 : Int)))))]))) (some (Rnd.again [SV.app [Sh.str] out, SV.val (AV.d (D.sl ptS x6)), SV.val (AV.d (D.int IntKind.i64 x7)), SV.val (AV.d (D.int IntKind.i64 (IntKind.i64.wrap (x8 + (1 : Int)))))])))) (some (Rnd.again [SV.app [Sh.str] out, SV.val (AV.d (D.sl ptS x6)), SV.val (AV.d (D.int IntKind.i64 x7)), SV.val (AV.d (D.int IntKind.i64 (IntKind.i64.wrap (x8 + (1 : Int)))))]))))) (some (Rnd.out (Ex.exit (0 : Nat)) [SV.app [Sh.str] out])) := by kernel_rfl
theorem lokf_Vars_0 : LoopOK T (Ep (Er3_SameTexts)) (Ln (Lf_Vars)) (loopAt 0 (loops (bodyOf Try.f18))) := by
  refine loop_ok (live := [3, 6, 7, 8]) (outs := [3]) (rets := []) (ks := [.a [.str], .v false [.sl [.int .i64, .int .i64, .str, .str, .str, .str, .int .i64]], .v false [.int .i64], .v false [.int .i64]]) (G := lgf_Vars_0) (lkf_Vars_0) (lmf_Vars_0) (by kernel_rfl) ?_
  rintro ⟨(out : List (RowE [.str])), ⟨(x6 : List (RowE [.int .i64, .int .i64, .str, .str, .str, .str, .int .i64])), _⟩, ⟨(x7 : Int), _⟩, ⟨(x8 : Int), _⟩, _⟩ x hok hx
  refine Leads.of_eq (ltf_Vars_0 out x6 x7 x8) ?_
  obtain ⟨e7, h0, h1, hl, ho⟩ := hok
  have e7 : x7 = (x6.length : Int) := e7
  subst e7
  obtain rfl := Out_leaf hx
  obtain ⟨i, rfl⟩ := Int.eq_ofNat_of_zero_le h0
  simp only [Int.toNat_natCast]
  refine Leads.brD (fun lt => ?_) (fun ge => Leads.one (Goes.out ?_))
  · have lt' : i < x6.length := by omega
    rw [wrap64 (by omega) (by omega)]
    refine Leads.chk ⟨h0, lt⟩ fun _ => Leads.brE (fun k => ?_) (fun k2 => Leads.brE (fun k => ?_) (fun k3 => Leads.one ?_))
    · have k : (getR ptS x6 (i : Int)).1 = 2 := k
      refine Leads.chk (by omega) fun _ => Leads.brG (fun w => Leads.one ?_) (fun w => Leads.chk (by simp only [List.length_cons, List.length_nil, lim]; omega) fun _ => Leads.one ?_)
      · refine Goes.again (ks := [.a [.str], .v false [.sl [.int .i64, .int .i64, .str, .str, .str, .str, .int .i64]], .v false [.int .i64], .v false [.int .i64]]) (out, (x6, ()), ((x6.length : Int), ()), ((i : Int) + 1, ()), ()) rfl ?_ ?_ ?_
        · exact ⟨rfl, (by omega : 0 ≤ (i : Int) + 1), (by omega : (i : Int) + 1 ≤ (x6.length : Int)), hl, by show ((out).length : Int) ≤ (i : Int) + 1; omega⟩
        · show x6.length - ((i : Int) + 1).toNat < x6.length - (i : Int).toNat
          simp only [toNat_add1, Int.toNat_natCast]; omega
        · show _ = _
          rw [toNat_add1, part_at lt', vrF_out (fun _ => w)]
      · refine Goes.again (ks := [.a [.str], .v false [.sl [.int .i64, .int .i64, .str, .str, .str, .str, .int .i64]], .v false [.int .i64], .v false [.int .i64]]) ((out ++ [((getR ptS x6 (i : Int)).2.2.2.2.2.1, ())] : List (RowE [.str])), (x6, ()), ((x6.length : Int), ()), ((i : Int) + 1, ()), ()) rfl ?_ ?_ ?_
        · exact ⟨rfl, (by omega : 0 ≤ (i : Int) + 1), (by omega : (i : Int) + 1 ≤ (x6.length : Int)), hl, by show (((out ++ [((getR ptS x6 (i : Int)).2.2.2.2.2.1, ())] : List (RowE [.str]))).length : Int) ≤ (i : Int) + 1; simp only [List.length_append, List.length_cons, List.length_nil]; omega⟩
        · show x6.length - ((i : Int) + 1).toNat < x6.length - (i : Int).toNat
          simp only [toNat_add1, Int.toNat_natCast]; omega
        · show _ = _
          rw [toNat_add1, part_at lt', vrF_in (isV_2 k) w]
    · have k : (getR ptS x6 (i : Int)).1 = 3 := k
      refine Leads.chk (by omega) fun _ => Leads.brG (fun w => Leads.one ?_) (fun w => Leads.chk (by simp only [List.length_cons, List.length_nil, lim]; omega) fun _ => Leads.one ?_)
      · refine Goes.again (ks := [.a [.str], .v false [.sl [.int .i64, .int .i64, .str, .str, .str, .str, .int .i64]], .v false [.int .i64], .v false [.int .i64]]) (out, (x6, ()), ((x6.length : Int), ()), ((i : Int) + 1, ()), ()) rfl ?_ ?_ ?_
        · exact ⟨rfl, (by omega : 0 ≤ (i : Int) + 1), (by omega : (i : Int) + 1 ≤ (x6.length : Int)), hl, by show ((out).length : Int) ≤ (i : Int) + 1; omega⟩
        · show x6.length - ((i : Int) + 1).toNat < x6.length - (i : Int).toNat
          simp only [toNat_add1, Int.toNat_natCast]; omega
        · show _ = _
          rw [toNat_add1, part_at lt', vrF_out (fun _ => w)]
      · refine Goes.again (ks := [.a [.str], .v false [.sl [.int .i64, .int .i64, .str, .str, .str, .str, .int .i64]], .v false [.int .i64], .v false [.int .i64]]) ((out ++ [((getR ptS x6 (i : Int)).2.2.2.2.2.1, ())] : List (RowE [.str])), (x6, ()), ((x6.length : Int), ()), ((i : Int) + 1, ()), ()) rfl ?_ ?_ ?_
        · exact ⟨rfl, (by omega : 0 ≤ (i : Int) + 1), (by omega : (i : Int) + 1 ≤ (x6.length : Int)), hl, by show (((out ++ [((getR ptS x6 (i : Int)).2.2.2.2.2.1, ())] : List (RowE [.str]))).length : Int) ≤ (i : Int) + 1; simp only [List.length_append, List.length_cons, List.length_nil]; omega⟩
        · show x6.length - ((i : Int) + 1).toNat < x6.length - (i : Int).toNat
          simp only [toNat_add1, Int.toNat_natCast]; omega
        · show _ = _
          rw [toNat_add1, part_at lt', vrF_in (isV_3 k) w]
    · refine Goes.again (ks := [.a [.str], .v false [.sl [.int .i64, .int .i64, .str, .str, .str, .str, .int .i64]], .v false [.int .i64], .v false [.int .i64]]) (out, (x6, ()), ((x6.length : Int), ()), ((i : Int) + 1, ()), ()) rfl ?_ ?_ ?_
      · exact ⟨rfl, (by omega : 0 ≤ (i : Int) + 1), (by omega : (i : Int) + 1 ≤ (x6.length : Int)), hl, by show ((out).length : Int) ≤ (i : Int) + 1; omega⟩
      · show x6.length - ((i : Int) + 1).toNat < x6.length - (i : Int).toNat
        simp only [toNat_add1, Int.toNat_natCast]; omega
      · show _ = _
        rw [toNat_add1, part_at lt', vrF_out (fun z => absurd z (isV_no k2 k3))]
  · rw [List.drop_of_length_le (by omega)]; rfl
theorem tf_Vars (f : List (RowE [.int .i64, .int .i64, .str, .str, .str, .str, .int .i64])) : evF T (Ep (Er3_SameTexts)) (Ln (Lf_Vars)) Try.f18 [.d (.sl [.int .i64, .int .i64, .str, .str, .str, .str, .int .i64] f)] =
    chk (lkf_Vars_0 ([], (f, ()), ((↑f.length : Int), ()), ((0 : Int), ()), ())) (some (SV.app [Sh.str] (vrF (List.drop (Int.toNat (0 : Int)) f) []))) := by kernel_rfl
theorem satf_Vars : Sat P 18 (Sf_Vars) := by
  refine sat_mk (LT := Ln (Lf_Vars)) hC (SatE.ep okr3_SameTexts) mixed Try.func18 (by kernel_rfl) (c := bodyOf Try.f18) (by kernel_rfl) (by kernel_rfl) ?_ (loops1 (by kernel_rfl) (lokf_Vars_0))
  rintro ⟨⟨(f : List (RowE [.int .i64, .int .i64, .str, .str, .str, .str, .int .i64])), _⟩, _⟩ sv h
  refine Leads.eq (Leads.of_eq (tf_Vars f) ?_)
  obtain ⟨hl, h⟩ := h
  have h := Out_leaf h
  subst h
  exact Leads.chk ⟨rfl, by decide, Int.natCast_nonneg _, hl, by decide⟩ fun _ => Leads.one rfl
def Ef_Vars : Es := (18, (Sf_Vars)) :: Er3_SameTexts
theorem okf_Vars : SatE P (En (Ef_Vars)) := SatE.cons (satf_Vars) okr3_SameTexts
/-! ### legation/legationref06.Vars -/
def lkr_Vars_0 : St [.v false [.sl [.int .i64, .int .i64, .str, .str, .str, .str, .int .i64]], .a [.str], .v false [.int .i64]] → Prop := fun ⟨⟨(f : List (RowE [.int .i64, .int .i64, .str, .str, .str, .str, .int .i64])), _⟩, (out : List (RowE [.str])), ⟨(i : Int), _⟩, _⟩ => 0 ≤ i ∧ i ≤ f.length ∧ f.length ≤ 1599289640401 ∧ (out.length : Int) ≤ i
def lgr_Vars_0 : St [.v false [.sl [.int .i64, .int .i64, .str, .str, .str, .str, .int .i64]], .a [.str], .v false [.int .i64]] → Tr (Ex × List SV) := fun ⟨⟨(f : List (RowE [.int .i64, .int .i64, .str, .str, .str, .str, .int .i64])), _⟩, (out : List (RowE [.str])), ⟨(i : Int), _⟩, _⟩ => .leaf (.exit 0, [.app [.str] (vrF (f.drop i.toNat) out)])
def lmr_Vars_0 : St [.v false [.sl [.int .i64, .int .i64, .str, .str, .str, .str, .int .i64]], .a [.str], .v false [.int .i64]] → Nat := fun ⟨⟨(f : List (RowE [.int .i64, .int .i64, .str, .str, .str, .str, .int .i64])), _⟩, (out : List (RowE [.str])), ⟨(i : Int), _⟩, _⟩ => f.length - i.toNat
def lsr_Vars_0 : LoopS := mkR [0, 3, 4] [3] [] [.v false [.sl [.int .i64, .int .i64, .str, .str, .str, .str, .int .i64]], .a [.str], .v false [.int .i64]] (fun r => .chk (lkr_Vars_0 r) (lgr_Vars_0 r))
def Lr_Vars : Ls := [(3, lsr_Vars_0)]
def Sr_Vars := mkS [(false, [.sl [.int .i64, .int .i64, .str, .str, .str, .str, .int .i64]])] fun ⟨⟨(f : List (RowE [.int .i64, .int .i64, .str, .str, .str, .str, .int .i64])), _⟩, _⟩ => .chk (f.length ≤ 1599289640401) (.leaf (.app [.str] (vrF f [])))
theorem ltr_Vars_0 (f : List (RowE [.int .i64, .int .i64, .str, .str, .str, .str, .int .i64])) (out : List (RowE [.str])) (i : Int) : evRound T (Ep (Ef_Vars)) (Ln (Lr_Vars)) (loopAt 0 (loops (bodyOf Try.f19))) (lsr_Vars_0) [.val (.d (.sl [.int .i64, .int .i64, .str, .str, .str, .str, .int .i64] f)), .app [.str] out, .val (.d (.int .i64 i))] =
    br (decide (i < (↑f.length : Int))) (chk ((0 : Int) ≤ i ∧ i < (↑f.length : Int)) (br ((getR ptS f i).fst == (2 : Int)) (chk ((0 : Int) ≤ i ∧ i < (↑f.length : Int)) (chk (out.length ≤ (140737488355328 : Nat)) (br (!hasS out (getR ptS f i).snd.snd.snd.snd.snd.fst) (chk ((0 : Int) ≤ i ∧ i < (↑f.length : Int)) (chk (((↑out.length : Int) + (↑[((getR ptS f i).snd.snd.snd.snd.snd.fst, ())].length : Int)) * (↑(16 : Nat) : Int) < lim) (some (Rnd.again [SV.val (AV.d (D.sl ptS f)), SV.app [Sh.str] (out ++ [((getR ptS f i).snd.snd.snd.snd.snd.fst, ())]), SV.val (AV.d (D.int IntKind.i64 (IntKind.i64.wrap (i + (1 : Int)))))])))) (some (Rnd.again [SV.val (AV.d (D.sl ptS f)), SV.app [Sh.str] out, SV.val (AV.d (D.int IntKind.i64 (IntKind.i64.wrap (i + (1 : Int)))))]))))) (chk ((0 : Int) ≤ i ∧ i < (↑f.length : Int)) (br ((getR ptS f i).fst == (3 : Int)) (chk ((0 : Int) ≤ i ∧ i < (↑f.length : Int)) (chk (out.length ≤ (140737488355328 : Nat)) (br (!hasS out (getR ptS f i).snd.snd.snd.snd.snd.fst) (chk ((0 : Int) ≤ i ∧ i < (↑f.length : Int)) (chk (((↑out.length : Int) + (↑[((getR ptS f i).snd.snd.snd.snd.snd.fst, ())].length : Int)) * (↑(16 : Nat) : Int) < lim) (some (Rnd.again [SV.val (AV.d (D.sl ptS f)), SV.app [Sh.str] (out ++ [((getR ptS f i).snd.snd.snd.snd.snd.fst, ())]), SV.val (AV.d (D.int IntKind.i64 (IntKind.i64.wrap (i + (1 : Int)))))])))) (some (Rnd.again [SV.val (AV.d (D.sl ptS f)), SV.app [Sh.str] out, SV.val (AV.d (D.int IntKind.i64 (IntKind.i64.wrap (i + (1 : Int)))))]))))) (some (Rnd.again [SV.val (AV.d (D.sl ptS f)), SV.app [Sh.str] out, SV.val (AV.d (D.int IntKind.i64 (IntKind.i64.wrap (i + (1 : Int)))))])))))) (some (Rnd.out (Ex.exit (0 : Nat)) [SV.app [Sh.str] out])) := by kernel_rfl
theorem lokr_Vars_0 : LoopOK T (Ep (Ef_Vars)) (Ln (Lr_Vars)) (loopAt 0 (loops (bodyOf Try.f19))) := by
  refine loop_ok (live := [0, 3, 4]) (outs := [3]) (rets := []) (ks := [.v false [.sl [.int .i64, .int .i64, .str, .str, .str, .str, .int .i64]], .a [.str], .v false [.int .i64]]) (G := lgr_Vars_0) (lkr_Vars_0) (lmr_Vars_0) (by kernel_rfl) ?_
  rintro ⟨⟨(f : List (RowE [.int .i64, .int .i64, .str, .str, .str, .str, .int .i64])), _⟩, (out : List (RowE [.str])), ⟨(i : Int), _⟩, _⟩ x hok hx
  refine Leads.of_eq (ltr_Vars_0 f out i) ?_
  obtain ⟨h0, h1, hl, ho⟩ := hok
  obtain rfl := Out_leaf hx
  obtain ⟨i, rfl⟩ := Int.eq_ofNat_of_zero_le h0
  simp only [Int.toNat_natCast]
  refine Leads.brD (fun lt => ?_) (fun ge => Leads.one (Goes.out ?_))
  · have lt' : i < f.length := by omega
    rw [wrap64 (by omega) (by omega)]
    refine Leads.chk ⟨h0, lt⟩ fun _ => Leads.brE (fun k => ?_) (fun k2 => Leads.chk ⟨h0, lt⟩ fun _ => Leads.brE (fun k => ?_) (fun k3 => Leads.one ?_))
    · have k : (getR ptS f (i : Int)).1 = 2 := k
      refine Leads.chk ⟨h0, lt⟩ fun _ => Leads.chk (by omega) fun _ => Leads.brG (fun w => Leads.one ?_) (fun w => Leads.chk ⟨h0, lt⟩ fun _ => Leads.chk (by simp only [List.length_cons, List.length_nil, lim]; omega) fun _ => Leads.one ?_)
      · refine Goes.again (ks := [.v false [.sl [.int .i64, .int .i64, .str, .str, .str, .str, .int .i64]], .a [.str], .v false [.int .i64]]) ((f, ()), out, ((i : Int) + 1, ()), ()) rfl ?_ ?_ ?_
        · exact ⟨(by omega : 0 ≤ (i : Int) + 1), (by omega : (i : Int) + 1 ≤ (f.length : Int)), hl, by show ((out).length : Int) ≤ (i : Int) + 1; omega⟩
        · show f.length - ((i : Int) + 1).toNat < f.length - (i : Int).toNat
          simp only [toNat_add1, Int.toNat_natCast]; omega
        · show _ = _
          rw [toNat_add1, part_at lt', vrF_out (fun _ => w)]
      · refine Goes.again (ks := [.v false [.sl [.int .i64, .int .i64, .str, .str, .str, .str, .int .i64]], .a [.str], .v false [.int .i64]]) ((f, ()), (out ++ [((getR ptS f (i : Int)).2.2.2.2.2.1, ())] : List (RowE [.str])), ((i : Int) + 1, ()), ()) rfl ?_ ?_ ?_
        · exact ⟨(by omega : 0 ≤ (i : Int) + 1), (by omega : (i : Int) + 1 ≤ (f.length : Int)), hl, by show (((out ++ [((getR ptS f (i : Int)).2.2.2.2.2.1, ())] : List (RowE [.str]))).length : Int) ≤ (i : Int) + 1; simp only [List.length_append, List.length_cons, List.length_nil]; omega⟩
        · show f.length - ((i : Int) + 1).toNat < f.length - (i : Int).toNat
          simp only [toNat_add1, Int.toNat_natCast]; omega
        · show _ = _
          rw [toNat_add1, part_at lt', vrF_in (isV_2 k) w]
    · have k : (getR ptS f (i : Int)).1 = 3 := k
      refine Leads.chk ⟨h0, lt⟩ fun _ => Leads.chk (by omega) fun _ => Leads.brG (fun w => Leads.one ?_) (fun w => Leads.chk ⟨h0, lt⟩ fun _ => Leads.chk (by simp only [List.length_cons, List.length_nil, lim]; omega) fun _ => Leads.one ?_)
      · refine Goes.again (ks := [.v false [.sl [.int .i64, .int .i64, .str, .str, .str, .str, .int .i64]], .a [.str], .v false [.int .i64]]) ((f, ()), out, ((i : Int) + 1, ()), ()) rfl ?_ ?_ ?_
        · exact ⟨(by omega : 0 ≤ (i : Int) + 1), (by omega : (i : Int) + 1 ≤ (f.length : Int)), hl, by show ((out).length : Int) ≤ (i : Int) + 1; omega⟩
        · show f.length - ((i : Int) + 1).toNat < f.length - (i : Int).toNat
          simp only [toNat_add1, Int.toNat_natCast]; omega
        · show _ = _
          rw [toNat_add1, part_at lt', vrF_out (fun _ => w)]
      · refine Goes.again (ks := [.v false [.sl [.int .i64, .int .i64, .str, .str, .str, .str, .int .i64]], .a [.str], .v false [.int .i64]]) ((f, ()), (out ++ [((getR ptS f (i : Int)).2.2.2.2.2.1, ())] : List (RowE [.str])), ((i : Int) + 1, ()), ()) rfl ?_ ?_ ?_
        · exact ⟨(by omega : 0 ≤ (i : Int) + 1), (by omega : (i : Int) + 1 ≤ (f.length : Int)), hl, by show (((out ++ [((getR ptS f (i : Int)).2.2.2.2.2.1, ())] : List (RowE [.str]))).length : Int) ≤ (i : Int) + 1; simp only [List.length_append, List.length_cons, List.length_nil]; omega⟩
        · show f.length - ((i : Int) + 1).toNat < f.length - (i : Int).toNat
          simp only [toNat_add1, Int.toNat_natCast]; omega
        · show _ = _
          rw [toNat_add1, part_at lt', vrF_in (isV_3 k) w]
    · refine Goes.again (ks := [.v false [.sl [.int .i64, .int .i64, .str, .str, .str, .str, .int .i64]], .a [.str], .v false [.int .i64]]) ((f, ()), out, ((i : Int) + 1, ()), ()) rfl ?_ ?_ ?_
      · exact ⟨(by omega : 0 ≤ (i : Int) + 1), (by omega : (i : Int) + 1 ≤ (f.length : Int)), hl, by show ((out).length : Int) ≤ (i : Int) + 1; omega⟩
      · show f.length - ((i : Int) + 1).toNat < f.length - (i : Int).toNat
        simp only [toNat_add1, Int.toNat_natCast]; omega
      · show _ = _
        rw [toNat_add1, part_at lt', vrF_out (fun z => absurd z (isV_no k2 k3))]
  · rw [List.drop_of_length_le (by omega)]; rfl
theorem tr_Vars (f : List (RowE [.int .i64, .int .i64, .str, .str, .str, .str, .int .i64])) : evF T (Ep (Ef_Vars)) (Ln (Lr_Vars)) Try.f19 [.d (.sl [.int .i64, .int .i64, .str, .str, .str, .str, .int .i64] f)] =
    chk (lkr_Vars_0 ((f, ()), [], ((0 : Int), ()), ())) (some (SV.app [Sh.str] (vrF (List.drop (Int.toNat (0 : Int)) f) []))) := by kernel_rfl
theorem satr_Vars : Sat P 19 (Sr_Vars) := by
  refine sat_mk (LT := Ln (Lr_Vars)) hC (SatE.ep okf_Vars) mixed Try.func19 (by kernel_rfl) (c := bodyOf Try.f19) (by kernel_rfl) (by kernel_rfl) ?_ (loops1 (by kernel_rfl) (lokr_Vars_0))
  rintro ⟨⟨(f : List (RowE [.int .i64, .int .i64, .str, .str, .str, .str, .int .i64])), _⟩, _⟩ sv h
  refine Leads.eq (Leads.of_eq (tr_Vars f) ?_)
  obtain ⟨hl, h⟩ := h
  have h := Out_leaf h
  subst h
  exact Leads.chk ⟨by decide, Int.natCast_nonneg _, hl, by decide⟩ fun _ => Leads.one rfl
def Er_Vars : Es := (19, (Sr_Vars)) :: Ef_Vars
theorem okr_Vars : SatE P (En (Er_Vars)) := SatE.cons (satr_Vars) okf_Vars
/-! ### legation/legationlaw06.FormulaTexts -/
def Ll5 : Ls := []
def Sl5 := mkS [(false, [.sl [.int .i64, .int .i64, .str, .str, .str, .str, .int .i64]])] fun ⟨⟨(f : List (RowE [.int .i64, .int .i64, .str, .str, .str, .str, .int .i64])), _⟩, _⟩ => .chk (allPt f ∧ f.length ≤ 1599289640401) (bl true)
theorem tl5 (f : List (RowE [.int .i64, .int .i64, .str, .str, .str, .str, .int .i64])) : evF T (Ep (Er_Vars)) (Ln (Ll5)) Try.f6 [.d (.sl [.int .i64, .int .i64, .str, .str, .str, .str, .int .i64] f)] =
    chk (allPt f) (chk (allPt f) (br (checkS f != checkS f) (some (SV.val (AV.d (D.bool false)))) (chk (f.length ≤ (1599289640401 : Nat)) (chk (f.length ≤ (1599289640401 : Nat)) (chk (List.length (vrF f []) ≤ (1152921504606846976 : Nat) ∧ List.length (vrF f []) ≤ (1152921504606846976 : Nat)) (br (!sameX (vrF f []) (vrF f [])) (some (SV.val (AV.d (D.bool false)))) (br (checkS f != (0 : Int)) (br ((if checkS f = (0 : Int) then textF f else []) == []) (some (SV.val (AV.d (D.bool true)))) (some (SV.val (AV.d (D.bool false))))) (chk (allPt f ∧ checkS f = (0 : Int)) (br ((if checkS f = (0 : Int) then textF f else []) == textF f) (some (SV.val (AV.d (D.bool true)))) (some (SV.val (AV.d (D.bool false))))))))))))) := by kernel_rfl
theorem satl5 : Sat P 6 (Sl5) := by
  refine sat_mk (LT := Ln (Ll5)) hC (SatE.ep okr_Vars) mixed Try.func6 (by kernel_rfl) (c := bodyOf Try.f6) (by kernel_rfl) (by kernel_rfl) ?_ (loops0 (by kernel_rfl))
  rintro ⟨⟨(f : List (RowE [.int .i64, .int .i64, .str, .str, .str, .str, .int .i64])), _⟩, _⟩ sv h
  refine Leads.eq (Leads.of_eq (tl5 f) ?_)
  obtain ⟨⟨ha, hl⟩, h⟩ := h
  have h := Out_leaf h
  subst h
  have hv := vrF_len f []
  simp only [List.length_nil, Nat.zero_add] at hv
  have hv : (vrF f []).length ≤ 1152921504606846976 := by omega
  refine Leads.chk ha fun _ => Leads.chk ha fun _ => Leads.brN (fun _ => Leads.chk hl fun _ => Leads.chk hl fun _ => Leads.chk ⟨hv, hv⟩ fun _ => Leads.brG (fun _ => Leads.brN (fun c => ?_) (fun c => ?_)) (fun z => absurd (sameX_refl (vrF f [])) (by rw [show sameX (vrF f []) (vrF f []) = false from z]; decide))) (fun z => absurd rfl z)
  · have c : checkS f = 0 := c
    exact Leads.chk ⟨ha, c⟩ fun _ => Leads.brE (fun _ => Leads.one rfl) (fun z => absurd (if_pos c) z)
  · have c : ¬ checkS f = 0 := c
    exact Leads.brE (fun _ => Leads.one rfl) (fun z => absurd (if_neg c) z)
def El5 : Es := (6, (Sl5)) :: Er_Vars
theorem okl5 : SatE P (En (El5)) := SatE.cons (satl5) okr_Vars
end Go.Proofs.Ytoopcfjmmhmamaa.T6
