/- Part of a proof of the seat's statements: no statement by itself. -/
import Derived.Test.YtfpojhphmgnfhaaQ7F
import Derived.Test.YtfpojhphmgnfhaaSpU
set_option maxRecDepth 100000
open Go.Proofs.Ytfpojhphmgnfhaa.Lg Go Go.Proofs.Ytfpojhphmgnfhaa.Sp
open Go.Proofs
namespace Go.Proofs.Ytfpojhphmgnfhaa.T7


/-! ### slices.Index[[]string,string] -/
def lkslIndex_0 : St [.v false [.sl [.str]], .v false [.str], .v false [.int .i64], .v false [.int .i64]] → Prop := fun ⟨⟨(s : List (RowE [.str])), _⟩, ⟨(v : List UInt8), _⟩, ⟨(x7 : Int), _⟩, ⟨(x8 : Int), _⟩, _⟩ => x7 = (s.length : Int) ∧ 0 ≤ x8 ∧ x8 ≤ x7 ∧ s.length ≤ 140737488355328
def lgslIndex_0 : St [.v false [.sl [.str]], .v false [.str], .v false [.int .i64], .v false [.int .i64]] → Tr (Ex × List SV) := fun ⟨⟨(s : List (RowE [.str])), _⟩, ⟨(v : List UInt8), _⟩, ⟨(x7 : Int), _⟩, ⟨(x8 : Int), _⟩, _⟩ => .brP (idxS (s.drop x8.toNat) v x8 < 0) (.leaf (.exit 0, [])) (.leaf (.ret, [.val (.d (.int .i64 (idxS (s.drop x8.toNat) v x8)))]))
def lmslIndex_0 : St [.v false [.sl [.str]], .v false [.str], .v false [.int .i64], .v false [.int .i64]] → Nat := fun ⟨⟨(s : List (RowE [.str])), _⟩, ⟨(v : List UInt8), _⟩, ⟨(x7 : Int), _⟩, ⟨(x8 : Int), _⟩, _⟩ => s.length - x8.toNat
def lsslIndex_0 : LoopS := mkR [0, 1, 7, 8] [] [4] [.v false [.sl [.str]], .v false [.str], .v false [.int .i64], .v false [.int .i64]] (fun r => .chk (lkslIndex_0 r) (lgslIndex_0 r))
def LslIndex : Ls := [(2, lsslIndex_0)]
def SslIndex := mkS [(false, [.sl [.str]]), (false, [.str])] fun ⟨⟨(s : List (RowE [.str])), _⟩, ⟨(v : List UInt8), _⟩, _⟩ => .chk (s.length ≤ 140737488355328) (.leaf (.val (.d (.int .i64 (idxS s v 0)))))
theorem ltslIndex_0 (s : List (RowE [.str])) (v : List UInt8) (x7 : Int) (x8 : Int) : evRound T (Ep (Er3_SameTexts)) (Ln (LslIndex)) (loopAt 0 (loops (bodyOf Try.f66))) (lsslIndex_0) [.val (.d (.sl [.str] s)), .val (.d (.str  v)), .val (.d (.int .i64 x7)), .val (.d (.int .i64 x8))] =
    br (decide (x8 < x7)) (chk ((0 : Int) ≤ x8 ∧ x8 < (↑s.length : Int)) (br (v == (getR [Sh.str] s x8).fst) (some (Rnd.out Ex.ret [SV.val (AV.d (D.int IntKind.i64 x8))])) (some (Rnd.again [SV.val (AV.d (D.sl [Sh.str] s)), SV.val (AV.d (D.str v)), SV.val (AV.d (D.int IntKind.i64 x7)), SV.val (AV.d (D.int IntKind.i64 (IntKind.i64.wrap (x8 + (1 : Int)))))])))) (some (Rnd.out (Ex.exit (0 : Nat)) [])) := by kernel_rfl
theorem lokslIndex_0 : LoopOK T (Ep (Er3_SameTexts)) (Ln (LslIndex)) (loopAt 0 (loops (bodyOf Try.f66))) := by
  refine loop_ok (live := [0, 1, 7, 8]) (outs := []) (rets := [4]) (ks := [.v false [.sl [.str]], .v false [.str], .v false [.int .i64], .v false [.int .i64]]) (G := lgslIndex_0) (lkslIndex_0) (lmslIndex_0) (by kernel_rfl) ?_
  rintro ⟨⟨(s : List (RowE [.str])), _⟩, ⟨(v : List UInt8), _⟩, ⟨(x7 : Int), _⟩, ⟨(x8 : Int), _⟩, _⟩ x hok hx
  refine Leads.of_eq (ltslIndex_0 s v x7 x8) ?_
  obtain ⟨e7, h0, h1, hl⟩ := hok
  have e7 : x7 = (s.length : Int) := e7
  subst e7
  obtain ⟨i, rfl⟩ := Int.eq_ofNat_of_zero_le h0
  simp only [lgslIndex_0, Int.toNat_natCast] at hx
  refine Leads.brD (fun lt => Leads.chk ⟨h0, lt⟩ fun _ => ?_) (fun ge => Leads.one (Goes.out ?_))
  · have lt' : i < s.length := by omega
    rw [txt_at lt', idxS] at hx
    rw [wrap64 (by omega) (by omega)]
    refine Leads.brE (fun w => Leads.one (Goes.out ?_)) (fun w => Leads.one ?_)
    · rw [if_pos w] at hx
      rw [Out_leaf (Out_neg (by omega) hx)]
    · rw [if_neg w] at hx
      refine Goes.again (ks := [.v false [.sl [.str]], .v false [.str], .v false [.int .i64], .v false [.int .i64]]) ((s, ()), (v, ()), ((s.length : Int), ()), ((i : Int) + 1, ()), ()) rfl ?_ ?_ ?_
      · exact ⟨rfl, (by omega : 0 ≤ (i : Int) + 1), (by omega : (i : Int) + 1 ≤ (s.length : Int)), hl⟩
      · show s.length - ((i : Int) + 1).toNat < s.length - (i : Int).toNat
        simp only [toNat_add1, Int.toNat_natCast]; omega
      · simp only [lgslIndex_0, toNat_add1]; exact hx
  · rw [List.drop_of_length_le (by omega), idxS] at hx
    rw [Out_leaf (Out_pos (by decide) hx)]
theorem tslIndex (s : List (RowE [.str])) (v : List UInt8) : evF T (Ep (Er3_SameTexts)) (Ln (LslIndex)) Try.f66 [.d (.sl [.str] s), .d (.str v)] =
    chk (lkslIndex_0 ((s, ()), (v, ()), ((↑s.length : Int), ()), ((0 : Int), ()), ())) (brP (idxS (List.drop (Int.toNat (0 : Int)) s) v (0 : Int) < (0 : Int)) (some (SV.val (AV.d (D.int IntKind.i64 (-1 : Int))))) (some (SV.val (AV.d (D.int IntKind.i64 (idxS (List.drop (Int.toNat (0 : Int)) s) v (0 : Int))))))) := by kernel_rfl
theorem satslIndex : Sat P 66 (SslIndex) := by
  refine sat_mk (LT := Ln (LslIndex)) hC (SatE.ep okr3_SameTexts) mixed Try.func66 (by kernel_rfl) (c := bodyOf Try.f66) (by kernel_rfl) (by kernel_rfl) ?_ (loops1 (by kernel_rfl) (lokslIndex_0))
  rintro ⟨⟨(s : List (RowE [.str])), _⟩, ⟨(v : List UInt8), _⟩, _⟩ sv h
  refine Leads.eq (Leads.of_eq (tslIndex s v) ?_)
  obtain ⟨hl, h⟩ := h
  have h := Out_leaf h
  subst h
  refine Leads.chk ⟨rfl, by decide, Int.natCast_nonneg _, hl⟩ fun _ => Leads.brP (fun w => Leads.one ?_) (fun w => Leads.one rfl)
  have w : idxS s v 0 < 0 := w
  have key : ∀ (l : List (RowE [.str])) (i : Int), 0 ≤ i → idxS l v i < 0 → idxS l v i = -1 := by
    intro l
    induction l with
    | nil => exact fun _ _ _ => rfl
    | cons r l ih =>
      intro i h0 h1
      rw [idxS] at h1 ⊢
      split at h1
      · omega
      · rename_i e; rw [if_neg e]; exact ih (i + 1) (by omega) h1
  rw [key s 0 (by decide) w]
def EslIndex : Es := (66, (SslIndex)) :: Er3_SameTexts
theorem okslIndex : SatE P (En (EslIndex)) := SatE.cons (satslIndex) okr3_SameTexts
/-! ### slices.Contains[[]string,string] -/
def LslCont : Ls := []
def SslCont := mkS [(false, [.sl [.str]]), (false, [.str])] fun ⟨⟨(s : List (RowE [.str])), _⟩, ⟨(v : List UInt8), _⟩, _⟩ => .chk (s.length ≤ 140737488355328) (bl (hasS s v))
theorem tslCont (s : List (RowE [.str])) (v : List UInt8) : evF T (Ep (EslIndex)) (Ln (LslCont)) Try.f44 [.d (.sl [.str] s), .d (.str v)] =
    chk (s.length ≤ (140737488355328 : Nat)) (some (SV.val (AV.d (D.bool (decide (idxS s v (0 : Int) ≥ (0 : Int))))))) := by kernel_rfl
theorem satslCont : Sat P 44 (SslCont) := by
  refine sat_mk (LT := Ln (LslCont)) hC (SatE.ep okslIndex) mixed Try.func44 (by kernel_rfl) (c := bodyOf Try.f44) (by kernel_rfl) (by kernel_rfl) ?_ (loops0 (by kernel_rfl))
  rintro ⟨⟨(s : List (RowE [.str])), _⟩, ⟨(v : List UInt8), _⟩, _⟩ sv h
  refine Leads.eq (Leads.of_eq (tslCont s v) ?_)
  obtain ⟨hl, h⟩ := h
  have h := Out_leaf h
  subst h
  exact Leads.chk hl fun _ => Leads.one (by rw [idxS_has s v 0 (by decide)])
def EslCont : Es := (44, (SslCont)) :: EslIndex
theorem okslCont : SatE P (En (EslCont)) := SatE.cons (satslCont) okslIndex
/-! ### legation/legationref03.In -/
def lkr_In_0 : St [.v false [.sl [.str]], .v false [.str], .v false [.int .i64]] → Prop := fun ⟨⟨(l : List (RowE [.str])), _⟩, ⟨(s : List UInt8), _⟩, ⟨(i : Int), _⟩, _⟩ => 0 ≤ i ∧ i ≤ l.length ∧ l.length ≤ 140737488355328
def lgr_In_0 : St [.v false [.sl [.str]], .v false [.str], .v false [.int .i64]] → Tr (Ex × List SV) := fun ⟨⟨(l : List (RowE [.str])), _⟩, ⟨(s : List UInt8), _⟩, ⟨(i : Int), _⟩, _⟩ => .br (hasS (l.drop i.toNat) s) (.leaf (.ret, [.val (.d (.bool  (true)))])) (.leaf (.exit 0, []))
def lmr_In_0 : St [.v false [.sl [.str]], .v false [.str], .v false [.int .i64]] → Nat := fun ⟨⟨(l : List (RowE [.str])), _⟩, ⟨(s : List UInt8), _⟩, ⟨(i : Int), _⟩, _⟩ => l.length - i.toNat
def lsr_In_0 : LoopS := mkR [0, 1, 5] [] [4] [.v false [.sl [.str]], .v false [.str], .v false [.int .i64]] (fun r => .chk (lkr_In_0 r) (lgr_In_0 r))
def Lr_In : Ls := [(2, lsr_In_0)]
def Sr_In := mkS [(false, [.sl [.str]]), (false, [.str])] fun ⟨⟨(l : List (RowE [.str])), _⟩, ⟨(s : List UInt8), _⟩, _⟩ => .chk (l.length ≤ 140737488355328) (bl (hasS l s))
theorem ltr_In_0 (l : List (RowE [.str])) (s : List UInt8) (i : Int) : evRound T (Ep (EslCont)) (Ln (Lr_In)) (loopAt 0 (loops (bodyOf Try.f17))) (lsr_In_0) [.val (.d (.sl [.str] l)), .val (.d (.str  s)), .val (.d (.int .i64 i))] =
    br (decide (i < (↑l.length : Int))) (chk ((0 : Int) ≤ i ∧ i < (↑l.length : Int)) (br ((getR [Sh.str] l i).fst == s) (some (Rnd.out Ex.ret [SV.val (AV.d (D.bool true))])) (some (Rnd.again [SV.val (AV.d (D.sl [Sh.str] l)), SV.val (AV.d (D.str s)), SV.val (AV.d (D.int IntKind.i64 (IntKind.i64.wrap (i + (1 : Int)))))])))) (some (Rnd.out (Ex.exit (0 : Nat)) [])) := by kernel_rfl
theorem lokr_In_0 : LoopOK T (Ep (EslCont)) (Ln (Lr_In)) (loopAt 0 (loops (bodyOf Try.f17))) := by
  refine loop_ok (live := [0, 1, 5]) (outs := []) (rets := [4]) (ks := [.v false [.sl [.str]], .v false [.str], .v false [.int .i64]]) (G := lgr_In_0) (lkr_In_0) (lmr_In_0) (by kernel_rfl) ?_
  rintro ⟨⟨(l : List (RowE [.str])), _⟩, ⟨(s : List UInt8), _⟩, ⟨(i : Int), _⟩, _⟩ x hok hx
  refine Leads.of_eq (ltr_In_0 l s i) ?_
  obtain ⟨h0, h1, hl⟩ := hok
  obtain ⟨i, rfl⟩ := Int.eq_ofNat_of_zero_le h0
  simp only [lgr_In_0, Int.toNat_natCast] at hx
  refine Leads.brD (fun lt => Leads.chk ⟨h0, lt⟩ fun _ => ?_) (fun ge => Leads.one (Goes.out ?_))
  · have lt' : i < l.length := by omega
    rw [txt_at lt', hasS_cons] at hx
    rw [wrap64 (by omega) (by omega)]
    refine Leads.brE (fun w => Leads.one (Goes.out ?_)) (fun w => Leads.one ?_)
    · rw [show ((getR [.str] l (i : Int)).1 == s) = true from beq_iff_eq.2 w] at hx
      rw [Out_leaf (Out_tt hx)]
    · rw [show ((getR [.str] l (i : Int)).1 == s) = false from beq_eq_false_iff_ne.2 w] at hx
      refine Goes.again (ks := [.v false [.sl [.str]], .v false [.str], .v false [.int .i64]]) ((l, ()), (s, ()), ((i : Int) + 1, ()), ()) rfl ?_ ?_ ?_
      · exact ⟨(by omega : 0 ≤ (i : Int) + 1), (by omega : (i : Int) + 1 ≤ (l.length : Int)), hl⟩
      · show l.length - ((i : Int) + 1).toNat < l.length - (i : Int).toNat
        simp only [toNat_add1, Int.toNat_natCast]; omega
      · simp only [lgr_In_0, toNat_add1]; exact hx
  · rw [List.drop_of_length_le (by omega)] at hx
    rw [Out_leaf (Out_ff hx)]
theorem tr_In (l : List (RowE [.str])) (s : List UInt8) : evF T (Ep (EslCont)) (Ln (Lr_In)) Try.f17 [.d (.sl [.str] l), .d (.str s)] =
    chk (lkr_In_0 ((l, ()), (s, ()), ((0 : Int), ()), ())) (br (hasS (List.drop (Int.toNat (0 : Int)) l) s) (some (SV.val (AV.d (D.bool true)))) (some (SV.val (AV.d (D.bool false))))) := by kernel_rfl
theorem satr_In : Sat P 17 (Sr_In) := by
  refine sat_mk (LT := Ln (Lr_In)) hC (SatE.ep okslCont) mixed Try.func17 (by kernel_rfl) (c := bodyOf Try.f17) (by kernel_rfl) (by kernel_rfl) ?_ (loops1 (by kernel_rfl) (lokr_In_0))
  rintro ⟨⟨(l : List (RowE [.str])), _⟩, ⟨(s : List UInt8), _⟩, _⟩ sv h
  refine Leads.eq (Leads.of_eq (tr_In l s) ?_)
  obtain ⟨hl, h⟩ := h
  have h := Out_leaf h
  subst h
  refine Leads.chk ⟨by decide, Int.natCast_nonneg _, hl⟩ fun _ => Leads.br (fun w => Leads.one ?_) (fun w => Leads.one ?_)
  · have w : hasS l s = true := w
    rw [w]
  · have w : hasS l s = false := w
    rw [w]
def Er_In : Es := (17, (Sr_In)) :: EslCont
theorem okr_In : SatE P (En (Er_In)) := SatE.cons (satr_In) okslCont
/-! ### legation/legationref03.more -/
def Lr_more : Ls := []
def Sr_more := mkO [true, false] [.a [.str], .v true tmS] fun ⟨(l : List (RowE [.str])), (t : RowE tmS), _⟩ => .chk (l.length ≤ 1000000) (.leaf (.app [.str] (moreS l t), []))
theorem tr_more (l : List (RowE [.str])) (t : RowE tmS) : evFO T (Ep (Er_In)) (Ln (Lr_more)) Try.f97 [.app [.str] l, .val (.agg (rowD tmS t))] =
    br (t.fst != (4 : Int)) (some (SV.app [Sh.str] l, [])) (chk (l.length ≤ (140737488355328 : Nat)) (br (hasS l t.snd.fst) (some (SV.app [Sh.str] l, [])) (chk (((↑l.length : Int) + (↑[(t.snd.fst, ())].length : Int)) * (↑(16 : Nat) : Int) < lim) (some (SV.app [Sh.str] (l ++ [(t.snd.fst, ())]), []))))) := by kernel_rfl
theorem satr_more : SatO P 97 (Sr_more) := by
  refine sat_mkO (LT := Ln (Lr_more)) hC (SatE.ep okr_In) mixed Try.func97 (by kernel_rfl) (c := bodyOf Try.f97) (by kernel_rfl) (by kernel_rfl) ?_ (loops0 (by kernel_rfl))
  rintro ⟨(l : List (RowE [.str])), (t : RowE tmS), _⟩ sv h
  refine Leads.eq (Leads.of_eq (tr_more l t) ?_)
  obtain ⟨hl, h⟩ := h
  have h := Out_leaf h
  subst h
  refine Leads.brN (fun k => Leads.chk (by omega) fun _ => Leads.br (fun w => Leads.one ?_) (fun w => Leads.chk (by simp only [List.length_cons, List.length_nil, lim]; omega) fun _ => Leads.one ?_)) (fun k => Leads.one ?_)
  · rw [moreS_no (fun _ => w)]
  · rw [moreS_yes k w]
  · rw [moreS_no (fun z => absurd z k)]
def Er_more : Es := (97, .o (Sr_more)) :: Er_In
theorem okr_more : SatE P (En (Er_more)) := SatE.consO (satr_more) okr_In
/-! ### legation/legationref03.Vars -/
def Lr_Vars : Ls := []
def Sr_Vars := mkS [(true, t3S)] fun ⟨(t : RowE t3S), _⟩ => .leaf (.app [.str] (varsS t))
theorem tr_Vars (t : RowE t3S) : evF T (Ep (Er_more)) (Ln (Lr_Vars)) Try.f83 [.agg (rowD t3S t)] =
    chk ((List.nil (α := RowE [.int .u8])).length ≤ (1000000 : Nat)) (chk ((moreS [] (t.fst, t.snd.fst, t.snd.snd.fst, t.snd.snd.snd.fst, ())).length ≤ (1000000 : Nat)) (chk ((moreS (moreS [] (t.fst, t.snd.fst, t.snd.snd.fst, t.snd.snd.snd.fst, ())) (t.snd.snd.snd.snd.fst, t.snd.snd.snd.snd.snd.fst, t.snd.snd.snd.snd.snd.snd.fst, t.snd.snd.snd.snd.snd.snd.snd.fst, ())).length ≤ (1000000 : Nat)) (some (SV.app [Sh.str] (moreS (moreS (moreS [] (t.fst, t.snd.fst, t.snd.snd.fst, t.snd.snd.snd.fst, ())) (t.snd.snd.snd.snd.fst, t.snd.snd.snd.snd.snd.fst, t.snd.snd.snd.snd.snd.snd.fst, t.snd.snd.snd.snd.snd.snd.snd.fst, ())) t.snd.snd.snd.snd.snd.snd.snd.snd))))) := by kernel_rfl
theorem satr_Vars : Sat P 83 (Sr_Vars) := by
  refine sat_mk (LT := Ln (Lr_Vars)) hC (SatE.ep okr_more) mixed Try.func83 (by kernel_rfl) (c := bodyOf Try.f83) (by kernel_rfl) (by kernel_rfl) ?_ (loops0 (by kernel_rfl))
  rintro ⟨(t : RowE t3S), _⟩ sv h
  refine Leads.eq (Leads.of_eq (tr_Vars t) ?_)
  have h := Out_leaf h
  subst h
  have h1 := moreS_len [] (tS t)
  have h2 := moreS_len (moreS [] (tS t)) (tP t)
  simp only [List.length_nil] at h1
  exact Leads.chk (by decide) fun _ => Leads.chk (show (moreS [] (tS t)).length ≤ 1000000 by omega) fun _ => Leads.chk (show (moreS (moreS [] (tS t)) (tP t)).length ≤ 1000000 by omega) fun _ => Leads.one rfl
def Er_Vars : Es := (83, (Sr_Vars)) :: Er_more
theorem okr_Vars : SatE P (En (Er_Vars)) := SatE.cons (satr_Vars) okr_more
/-! ### legation/triples.Vars -/
def lst_Vars_0 : LoopS := mkU 4
def Lt_Vars : Ls := [(3, lst_Vars_0)]
def St_Vars := mkS [(true, t3S)] fun ⟨(t : RowE t3S), _⟩ => .leaf (.app [.str] (varsS t))
theorem tt_Vars (t : RowE t3S) : evF T (Ep (Er_Vars)) (Ln (Lt_Vars)) Try.f84 [.agg (rowD t3S t)] =
    chk ((0 : Int) ≤ (0 : Int) ∧ (0 : Int) < (↑(3 : Nat) : Int))
  (br (t.fst == (4 : Int))
    (chk ((List.nil (α := RowE [.int .u8])).length ≤ (140737488355328 : Nat))
      (br (!hasS [] t.snd.fst) (chk (((↑(List.nil (α := RowE [.int .u8])).length : Int) + (↑[(t.snd.fst, ())].length : Int)) * (↑(16 : Nat) : Int) < lim) (chk ((0 : Int) ≤ (1 : Int) ∧ (1 : Int) < (↑(3 : Nat) : Int)) (br (t.snd.snd.snd.snd.fst == (4 : Int)) (chk (([] ++ [(t.snd.fst, ())]).length ≤ (140737488355328 : Nat)) (br (!hasS ([] ++ [(t.snd.fst, ())]) t.snd.snd.snd.snd.snd.fst) (chk (((↑([] ++ [(t.snd.fst, ())]).length : Int) + (↑[(t.snd.snd.snd.snd.snd.fst, ())].length : Int)) * (↑(16 : Nat) : Int) < lim) (chk ((0 : Int) ≤ (2 : Int) ∧ (2 : Int) < (↑(3 : Nat) : Int)) (br (t.snd.snd.snd.snd.snd.snd.snd.snd.fst == (4 : Int)) (chk (([] ++ [(t.snd.fst, ())] ++ [(t.snd.snd.snd.snd.snd.fst, ())]).length ≤ (140737488355328 : Nat)) (br (!hasS ([] ++ [(t.snd.fst, ())] ++ [(t.snd.snd.snd.snd.snd.fst, ())]) t.snd.snd.snd.snd.snd.snd.snd.snd.snd.fst) (chk (((↑([] ++ [(t.snd.fst, ())] ++ [(t.snd.snd.snd.snd.snd.fst, ())]).length : Int) + (↑[(t.snd.snd.snd.snd.snd.snd.snd.snd.snd.fst, ())].length : Int)) * (↑(16 : Nat) : Int) < lim) (some (SV.app [Sh.str] ([] ++ [(t.snd.fst, ())] ++ [(t.snd.snd.snd.snd.snd.fst, ())] ++ [(t.snd.snd.snd.snd.snd.snd.snd.snd.snd.fst, ())])))) (some (SV.app [Sh.str] ([] ++ [(t.snd.fst, ())] ++ [(t.snd.snd.snd.snd.snd.fst, ())]))))) (some (SV.app [Sh.str] ([] ++ [(t.snd.fst, ())] ++ [(t.snd.snd.snd.snd.snd.fst, ())])))))) (chk ((0 : Int) ≤ (2 : Int) ∧ (2 : Int) < (↑(3 : Nat) : Int)) (br (t.snd.snd.snd.snd.snd.snd.snd.snd.fst == (4 : Int)) (chk (([] ++ [(t.snd.fst, ())]).length ≤ (140737488355328 : Nat)) (br (!hasS ([] ++ [(t.snd.fst, ())]) t.snd.snd.snd.snd.snd.snd.snd.snd.snd.fst) (chk (((↑([] ++ [(t.snd.fst, ())]).length : Int) + (↑[(t.snd.snd.snd.snd.snd.snd.snd.snd.snd.fst, ())].length : Int)) * (↑(16 : Nat) : Int) < lim) (some (SV.app [Sh.str] ([] ++ [(t.snd.fst, ())] ++ [(t.snd.snd.snd.snd.snd.snd.snd.snd.snd.fst, ())])))) (some (SV.app [Sh.str] ([] ++ [(t.snd.fst, ())]))))) (some (SV.app [Sh.str] ([] ++ [(t.snd.fst, ())]))))))) (chk ((0 : Int) ≤ (2 : Int) ∧ (2 : Int) < (↑(3 : Nat) : Int)) (br (t.snd.snd.snd.snd.snd.snd.snd.snd.fst == (4 : Int)) (chk (([] ++ [(t.snd.fst, ())]).length ≤ (140737488355328 : Nat)) (br (!hasS ([] ++ [(t.snd.fst, ())]) t.snd.snd.snd.snd.snd.snd.snd.snd.snd.fst) (chk (((↑([] ++ [(t.snd.fst, ())]).length : Int) + (↑[(t.snd.snd.snd.snd.snd.snd.snd.snd.snd.fst, ())].length : Int)) * (↑(16 : Nat) : Int) < lim) (some (SV.app [Sh.str] ([] ++ [(t.snd.fst, ())] ++ [(t.snd.snd.snd.snd.snd.snd.snd.snd.snd.fst, ())])))) (some (SV.app [Sh.str] ([] ++ [(t.snd.fst, ())]))))) (some (SV.app [Sh.str] ([] ++ [(t.snd.fst, ())]))))))))
        (chk ((0 : Int) ≤ (1 : Int) ∧ (1 : Int) < (↑(3 : Nat) : Int)) (br (t.snd.snd.snd.snd.fst == (4 : Int)) (chk ((List.nil (α := RowE [.int .u8])).length ≤ (140737488355328 : Nat)) (br (!hasS [] t.snd.snd.snd.snd.snd.fst) (chk (((↑(List.nil (α := RowE [.int .u8])).length : Int) + (↑[(t.snd.snd.snd.snd.snd.fst, ())].length : Int)) * (↑(16 : Nat) : Int) < lim) (chk ((0 : Int) ≤ (2 : Int) ∧ (2 : Int) < (↑(3 : Nat) : Int)) (br (t.snd.snd.snd.snd.snd.snd.snd.snd.fst == (4 : Int)) (chk (([] ++ [(t.snd.snd.snd.snd.snd.fst, ())]).length ≤ (140737488355328 : Nat)) (br (!hasS ([] ++ [(t.snd.snd.snd.snd.snd.fst, ())]) t.snd.snd.snd.snd.snd.snd.snd.snd.snd.fst) (chk (((↑([] ++ [(t.snd.snd.snd.snd.snd.fst, ())]).length : Int) + (↑[(t.snd.snd.snd.snd.snd.snd.snd.snd.snd.fst, ())].length : Int)) * (↑(16 : Nat) : Int) < lim) (some (SV.app [Sh.str] ([] ++ [(t.snd.snd.snd.snd.snd.fst, ())] ++ [(t.snd.snd.snd.snd.snd.snd.snd.snd.snd.fst, ())])))) (some (SV.app [Sh.str] ([] ++ [(t.snd.snd.snd.snd.snd.fst, ())]))))) (some (SV.app [Sh.str] ([] ++ [(t.snd.snd.snd.snd.snd.fst, ())])))))) (chk ((0 : Int) ≤ (2 : Int) ∧ (2 : Int) < (↑(3 : Nat) : Int)) (br (t.snd.snd.snd.snd.snd.snd.snd.snd.fst == (4 : Int)) (chk ((List.nil (α := RowE [.int .u8])).length ≤ (140737488355328 : Nat)) (br (!hasS [] t.snd.snd.snd.snd.snd.snd.snd.snd.snd.fst) (chk (((↑(List.nil (α := RowE [.int .u8])).length : Int) + (↑[(t.snd.snd.snd.snd.snd.snd.snd.snd.snd.fst, ())].length : Int)) * (↑(16 : Nat) : Int) < lim) (some (SV.app [Sh.str] ([] ++ [(t.snd.snd.snd.snd.snd.snd.snd.snd.snd.fst, ())])))) (some (SV.app [Sh.str] [])))) (some (SV.app [Sh.str] [])))))) (chk ((0 : Int) ≤ (2 : Int) ∧ (2 : Int) < (↑(3 : Nat) : Int)) (br (t.snd.snd.snd.snd.snd.snd.snd.snd.fst == (4 : Int)) (chk ((List.nil (α := RowE [.int .u8])).length ≤ (140737488355328 : Nat)) (br (!hasS [] t.snd.snd.snd.snd.snd.snd.snd.snd.snd.fst) (chk (((↑(List.nil (α := RowE [.int .u8])).length : Int) + (↑[(t.snd.snd.snd.snd.snd.snd.snd.snd.snd.fst, ())].length : Int)) * (↑(16 : Nat) : Int) < lim) (some (SV.app [Sh.str] ([] ++ [(t.snd.snd.snd.snd.snd.snd.snd.snd.snd.fst, ())])))) (some (SV.app [Sh.str] [])))) (some (SV.app [Sh.str] []))))))))
    (chk ((0 : Int) ≤ (1 : Int) ∧ (1 : Int) < (↑(3 : Nat) : Int)) (br (t.snd.snd.snd.snd.fst == (4 : Int)) (chk ((List.nil (α := RowE [.int .u8])).length ≤ (140737488355328 : Nat)) (br (!hasS [] t.snd.snd.snd.snd.snd.fst) (chk (((↑(List.nil (α := RowE [.int .u8])).length : Int) + (↑[(t.snd.snd.snd.snd.snd.fst, ())].length : Int)) * (↑(16 : Nat) : Int) < lim) (chk ((0 : Int) ≤ (2 : Int) ∧ (2 : Int) < (↑(3 : Nat) : Int)) (br (t.snd.snd.snd.snd.snd.snd.snd.snd.fst == (4 : Int)) (chk (([] ++ [(t.snd.snd.snd.snd.snd.fst, ())]).length ≤ (140737488355328 : Nat)) (br (!hasS ([] ++ [(t.snd.snd.snd.snd.snd.fst, ())]) t.snd.snd.snd.snd.snd.snd.snd.snd.snd.fst) (chk (((↑([] ++ [(t.snd.snd.snd.snd.snd.fst, ())]).length : Int) + (↑[(t.snd.snd.snd.snd.snd.snd.snd.snd.snd.fst, ())].length : Int)) * (↑(16 : Nat) : Int) < lim) (some (SV.app [Sh.str] ([] ++ [(t.snd.snd.snd.snd.snd.fst, ())] ++ [(t.snd.snd.snd.snd.snd.snd.snd.snd.snd.fst, ())])))) (some (SV.app [Sh.str] ([] ++ [(t.snd.snd.snd.snd.snd.fst, ())]))))) (some (SV.app [Sh.str] ([] ++ [(t.snd.snd.snd.snd.snd.fst, ())])))))) (chk ((0 : Int) ≤ (2 : Int) ∧ (2 : Int) < (↑(3 : Nat) : Int)) (br (t.snd.snd.snd.snd.snd.snd.snd.snd.fst == (4 : Int)) (chk ((List.nil (α := RowE [.int .u8])).length ≤ (140737488355328 : Nat)) (br (!hasS [] t.snd.snd.snd.snd.snd.snd.snd.snd.snd.fst) (chk (((↑(List.nil (α := RowE [.int .u8])).length : Int) + (↑[(t.snd.snd.snd.snd.snd.snd.snd.snd.snd.fst, ())].length : Int)) * (↑(16 : Nat) : Int) < lim) (some (SV.app [Sh.str] ([] ++ [(t.snd.snd.snd.snd.snd.snd.snd.snd.snd.fst, ())])))) (some (SV.app [Sh.str] [])))) (some (SV.app [Sh.str] [])))))) (chk ((0 : Int) ≤ (2 : Int) ∧ (2 : Int) < (↑(3 : Nat) : Int)) (br (t.snd.snd.snd.snd.snd.snd.snd.snd.fst == (4 : Int)) (chk ((List.nil (α := RowE [.int .u8])).length ≤ (140737488355328 : Nat)) (br (!hasS [] t.snd.snd.snd.snd.snd.snd.snd.snd.snd.fst) (chk (((↑(List.nil (α := RowE [.int .u8])).length : Int) + (↑[(t.snd.snd.snd.snd.snd.snd.snd.snd.snd.fst, ())].length : Int)) * (↑(16 : Nat) : Int) < lim) (some (SV.app [Sh.str] ([] ++ [(t.snd.snd.snd.snd.snd.snd.snd.snd.snd.fst, ())])))) (some (SV.app [Sh.str] [])))) (some (SV.app [Sh.str] []))))))) := by kernel_rfl
theorem satt_Vars : Sat P 84 (St_Vars) := by
  refine sat_mk (LT := Ln (Lt_Vars)) hC (SatE.ep okr_Vars) mixed Try.func84 (by kernel_rfl) (c := bodyOf Try.f84) (by kernel_rfl) (by kernel_rfl) ?_ (loops1 (by kernel_rfl) (loopU (n := 4) (c := loopAt 0 (loops (bodyOf Try.f84))) (by kernel_rfl)))
  rintro ⟨(t : RowE t3S), _⟩ sv h
  refine Leads.eq (Leads.of_eq (tt_Vars t) ?_)
  have h := Out_leaf h
  subst h
  have e0 : ∀ a, hasS [] a = false := fun _ => rfl
  repeat' (first | refine Leads.brD (fun _ => ?_) (fun _ => ?_) | refine Leads.brE (fun _ => ?_) (fun _ => ?_) | refine Leads.brN (fun _ => ?_) (fun _ => ?_) | refine Leads.brM (fun _ => ?_) (fun _ => ?_) | refine Leads.brG (fun _ => ?_) (fun _ => ?_) | refine Leads.br (fun _ => ?_) (fun _ => ?_) | refine Leads.chk ?_ (fun _ => ?_) | refine Leads.one ?_ | refine Leads.brP (fun _ => ?_) (fun _ => ?_))
  all_goals first | decide | (simp only [List.length_append, List.length_cons, List.length_nil, lim]; omega) | skip
  all_goals (refine congrArg (SV.app [.str]) ?_; simp_all [varsS, moreS, tS, tP, tO])
def Et_Vars : Es := (84, (St_Vars)) :: Er_Vars
theorem okt_Vars : SatE P (En (Et_Vars)) := SatE.cons (satt_Vars) okr_Vars

end Go.Proofs.Ytfpojhphmgnfhaa.T7
