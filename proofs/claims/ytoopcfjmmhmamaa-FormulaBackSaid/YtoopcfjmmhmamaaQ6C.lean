/- Part of a proof of the seat's statements: no statement by itself. -/
import Derived.Test.YtoopcfjmmhmamaaQ6B
import Derived.Test.YtoopcfjmmhmamaaLgF
import Derived.Test.YtoopcfjmmhmamaaSpC
section
set_option maxRecDepth 100000
open Go.Proofs.Ytoopcfjmmhmamaa.Lg Go Go.Proofs.Ytoopcfjmmhmamaa.Sp
open Go.Proofs
namespace Go.Proofs.Ytoopcfjmmhmamaa.T6


abbrev tmS : List Sh := [.int .i64, .str, .str, .str]
/-! ### legation/legationref01.escaped -/
def lkr1_escaped_0 : St [.v false [.str], .v false [.str], .v false [.int .i64]] → Prop := fun ⟨⟨(s : List UInt8), _⟩, ⟨(out : List UInt8), _⟩, ⟨(i : Int), _⟩, _⟩ => 0 ≤ i ∧ i ≤ (s.length : Int) ∧ s.length ≤ 1152921504606846976 ∧ out.length + 2 * (s.length - i.toNat) ≤ 2 * 1152921504606846976
def lgr1_escaped_0 : St [.v false [.str], .v false [.str], .v false [.int .i64]] → Tr (Ex × List SV) := fun ⟨⟨(s : List UInt8), _⟩, ⟨(out : List UInt8), _⟩, ⟨(i : Int), _⟩, _⟩ => .leaf (.exit 0, [.val (.d (.str  (out ++ esc (s.drop i.toNat))))])
def lmr1_escaped_0 : St [.v false [.str], .v false [.str], .v false [.int .i64]] → Nat := fun ⟨⟨(s : List UInt8), _⟩, ⟨(out : List UInt8), _⟩, ⟨(i : Int), _⟩, _⟩ => s.length - i.toNat
def lsr1_escaped_0 : LoopS := mkR [0, 3, 4] [3] [] [.v false [.str], .v false [.str], .v false [.int .i64]] (fun r => .chk (lkr1_escaped_0 r) (lgr1_escaped_0 r))
def Lr1_escaped : Ls := [(3, lsr1_escaped_0)]
def Sr1_escaped := mkS [(false, [.str])] fun ⟨⟨(s : List UInt8), _⟩, _⟩ => .chk (s.length ≤ 1152921504606846976) (.leaf (.val (.d (.str (esc s)))))
theorem ltr1_escaped_0 (s : List UInt8) (out : List UInt8) (i : Int) : evRound T (En (E16)) (Ln (Lr1_escaped)) (loopAt 0 (loops (bodyOf Try.f59))) (lsr1_escaped_0) [.val (.d (.str  s)), .val (.d (.str  out)), .val (.d (.int .i64 i))] =
    br (decide (i < (↑s.length : Int))) (chk ((0 : Int) ≤ i ∧ i < (↑s.length : Int)) (br (byteAt s i == (34 : Int)) (chk ((↑out.length : Int) + (↑[(92 : UInt8), (34 : UInt8)].length : Int) ≤ maxI) (some (Rnd.again [SV.val (AV.d (D.str s)), SV.val (AV.d (D.str (out ++ [(92 : UInt8), (34 : UInt8)]))), SV.val (AV.d (D.int IntKind.i64 (IntKind.i64.wrap (i + (1 : Int)))))]))) (br (byteAt s i == (92 : Int)) (chk ((↑out.length : Int) + (↑[(92 : UInt8), (92 : UInt8)].length : Int) ≤ maxI) (some (Rnd.again [SV.val (AV.d (D.str s)), SV.val (AV.d (D.str (out ++ [(92 : UInt8), (92 : UInt8)]))), SV.val (AV.d (D.int IntKind.i64 (IntKind.i64.wrap (i + (1 : Int)))))]))) (br (byteAt s i == (10 : Int)) (chk ((↑out.length : Int) + (↑[(92 : UInt8), (110 : UInt8)].length : Int) ≤ maxI) (some (Rnd.again [SV.val (AV.d (D.str s)), SV.val (AV.d (D.str (out ++ [(92 : UInt8), (110 : UInt8)]))), SV.val (AV.d (D.int IntKind.i64 (IntKind.i64.wrap (i + (1 : Int)))))]))) (br (byteAt s i == (9 : Int)) (chk ((↑out.length : Int) + (↑[(92 : UInt8), (116 : UInt8)].length : Int) ≤ maxI) (some (Rnd.again [SV.val (AV.d (D.str s)), SV.val (AV.d (D.str (out ++ [(92 : UInt8), (116 : UInt8)]))), SV.val (AV.d (D.int IntKind.i64 (IntKind.i64.wrap (i + (1 : Int)))))]))) (chk ((0 : Int) ≤ i ∧ i ≤ IntKind.i64.wrap (i + (1 : Int)) ∧ IntKind.i64.wrap (i + (1 : Int)) ≤ (↑s.length : Int)) (chk ((↑out.length : Int) + (↑(List.drop i.toNat (List.take (IntKind.i64.wrap (i + (1 : Int))).toNat s)).length : Int) ≤ maxI) (some (Rnd.again [SV.val (AV.d (D.str s)), SV.val (AV.d (D.str (out ++ List.drop i.toNat (List.take (IntKind.i64.wrap (i + (1 : Int))).toNat s)))), SV.val (AV.d (D.int IntKind.i64 (IntKind.i64.wrap (i + (1 : Int)))))]))))))))) (some (Rnd.out (Ex.exit (0 : Nat)) [SV.val (AV.d (D.str out))])) := by kernel_rfl
theorem lokr1_escaped_0 : LoopOK T (En (E16)) (Ln (Lr1_escaped)) (loopAt 0 (loops (bodyOf Try.f59))) := by
  refine loop_ok (live := [0, 3, 4]) (outs := [3]) (rets := []) (ks := [.v false [.str], .v false [.str], .v false [.int .i64]]) (G := lgr1_escaped_0) (lkr1_escaped_0) (lmr1_escaped_0) (by kernel_rfl) ?_
  rintro ⟨⟨(s : List UInt8), _⟩, ⟨(out : List UInt8), _⟩, ⟨(i : Int), _⟩, _⟩ x hok hx
  refine Leads.of_eq (ltr1_escaped_0 s out i) ?_
  obtain ⟨h0, h1, h2, h3⟩ := hok
  obtain ⟨m, rfl⟩ := Int.eq_ofNat_of_zero_le h0
  obtain rfl := Out_leaf hx
  simp only [Int.toNat_natCast] at *
  rcases drop_cases s m with ⟨hle, hd⟩ | ⟨b, hlt, hd, hb⟩
  · refine Leads.brD (fun q => by omega) (fun _ => Leads.one (Goes.out ?_))
    rw [hd]; simp [esc]
  · rw [byteAt_of hb, wrap64 (by omega) (by omega), toNat_add1, hd]
    have hl : (escB b).length ≤ 2 := escB_le b
    have ht : (s.take (m + 1)).drop m = [b] := take_drop_one hb
    rw [ht]
    repeat' (first | refine Leads.brD (fun _ => ?_) (fun _ => ?_) | refine Leads.brE (fun _ => ?_) (fun _ => ?_) | refine Leads.brN (fun _ => ?_) (fun _ => ?_) | refine Leads.brM (fun _ => ?_) (fun _ => ?_) | refine Leads.brG (fun _ => ?_) (fun _ => ?_) | refine Leads.br (fun _ => ?_) (fun _ => ?_) | refine Leads.chk ?_ (fun _ => ?_) | refine Leads.one ?_ | refine Leads.brP (fun _ => ?_) (fun _ => ?_))
    all_goals first | omega | (simp only [List.length_cons, List.length_nil, maxI]; omega) | skip
    all_goals (refine Goes.again (ks := [.v false [.str], .v false [.str], .v false [.int .i64]]) ((_, ()), (_, ()), (_, ()), ()) rfl ?_ ?_ ?_)
    all_goals first | (simp only [lmr1_escaped_0]; omega) | (simp only [lkr1_escaped_0, List.length_append, List.length_cons, List.length_nil]; omega) | skip
    all_goals (show _ = _; simp only [toNat_add1, esc, List.append_assoc]; rw [escB_eq]; simp only [u, *]; try rfl)
theorem tr1_escaped (s : List UInt8) : evF T (En (E16)) (Ln (Lr1_escaped)) Try.f59 [.d (.str s)] =
    chk (lkr1_escaped_0 ((s, ()), ([], ()), ((0 : Int), ()), ())) (some (SV.val (AV.d (D.str ([] ++ esc (List.drop (Int.toNat (0 : Int)) s)))))) := by kernel_rfl
theorem satr1_escaped : Sat P 59 (Sr1_escaped) := by
  refine sat_mk (LT := Ln (Lr1_escaped)) hC ok16 mixed Try.func59 (by kernel_rfl) (c := bodyOf Try.f59) (by kernel_rfl) (by kernel_rfl) ?_ (loops1 (by kernel_rfl) (lokr1_escaped_0))
  rintro ⟨⟨(s : List UInt8), _⟩, _⟩ sv h
  refine Leads.eq (Leads.of_eq (tr1_escaped s) ?_)
  obtain ⟨hs, h⟩ := h
  obtain rfl := Out_leaf h
  exact Leads.chk ⟨by omega, by omega, hs, by simp; omega⟩ (fun _ => Leads.one rfl)
def Er1_escaped : Es := (59, Sr1_escaped) :: E16
theorem okr1_escaped : SatE P (En (Er1_escaped)) := SatE.cons (satr1_escaped) ok16
/-! ### legation/legationref01.Text -/
def Lr1_Text : Ls := []
def Sr1_Text := mkS [(true, tmS)] fun ⟨(t : RowE tmS), _⟩ => .chk (t.2.1.length ≤ 1152921504606846976 ∧ t.2.2.1.length ≤ 1152921504606846976 ∧ t.2.2.2.1.length ≤ 1152921504606846976 ∧ (t.1 = 2 → t.2.2.1 = [] ∨ t.2.2.2.1 = [])) (.leaf (.val (.d (.str (textT t)))))
theorem tr1_Text (t : RowE tmS) : evF T (En (Er1_escaped)) (Ln (Lr1_Text)) Try.f47 [.agg (rowD tmS t)] =
    br (t.fst == (1 : Int)) (chk ((↑[(60 : UInt8)].length : Int) + (↑(List.length t.snd.fst) : Int) ≤ maxI) (chk ((↑([(60 : UInt8)] ++ t.snd.fst).length : Int) + (↑[(62 : UInt8)].length : Int) ≤ maxI) (some (SV.val (AV.d (D.str ([(60 : UInt8)] ++ t.snd.fst ++ [(62 : UInt8)]))))))) (br (t.fst == (3 : Int)) (chk ((↑[(95 : UInt8), (58 : UInt8)].length : Int) + (↑(List.length t.snd.fst) : Int) ≤ maxI) (some (SV.val (AV.d (D.str ([(95 : UInt8), (58 : UInt8)] ++ t.snd.fst)))))) (br (t.fst == (4 : Int)) (chk ((↑[(63 : UInt8)].length : Int) + (↑(List.length t.snd.fst) : Int) ≤ maxI) (some (SV.val (AV.d (D.str ([(63 : UInt8)] ++ t.snd.fst)))))) (br (t.fst == (2 : Int)) (chk (List.length t.snd.fst ≤ (1152921504606846976 : Nat)) (chk ((↑[(34 : UInt8)].length : Int) + (↑(List.length (esc t.snd.fst)) : Int) ≤ maxI) (chk ((↑([(34 : UInt8)] ++ esc t.snd.fst).length : Int) + (↑[(34 : UInt8)].length : Int) ≤ maxI) (br (!t.snd.snd.fst == []) (chk ((↑([(34 : UInt8)] ++ esc t.snd.fst ++ [(34 : UInt8)]).length : Int) + (↑[(94 : UInt8), (94 : UInt8), (60 : UInt8)].length : Int) ≤ maxI) (chk ((↑([(34 : UInt8)] ++ esc t.snd.fst ++ [(34 : UInt8)] ++ [(94 : UInt8), (94 : UInt8), (60 : UInt8)]).length : Int) + (↑(List.length t.snd.snd.fst) : Int) ≤ maxI) (chk ((↑([(34 : UInt8)] ++ esc t.snd.fst ++ [(34 : UInt8)] ++ [(94 : UInt8), (94 : UInt8), (60 : UInt8)] ++ t.snd.snd.fst).length : Int) + (↑[(62 : UInt8)].length : Int) ≤ maxI) (some (SV.val (AV.d (D.str ([(34 : UInt8)] ++ esc t.snd.fst ++ [(34 : UInt8)] ++ [(94 : UInt8), (94 : UInt8), (60 : UInt8)] ++ t.snd.snd.fst ++ [(62 : UInt8)])))))))) (br (!t.snd.snd.snd.fst == []) (chk ((↑([(34 : UInt8)] ++ esc t.snd.fst ++ [(34 : UInt8)]).length : Int) + (↑[(64 : UInt8)].length : Int) ≤ maxI) (chk ((↑([(34 : UInt8)] ++ esc t.snd.fst ++ [(34 : UInt8)] ++ [(64 : UInt8)]).length : Int) + (↑(List.length t.snd.snd.snd.fst) : Int) ≤ maxI) (some (SV.val (AV.d (D.str ([(34 : UInt8)] ++ esc t.snd.fst ++ [(34 : UInt8)] ++ [(64 : UInt8)] ++ t.snd.snd.snd.fst))))))) (some (SV.val (AV.d (D.str ([(34 : UInt8)] ++ esc t.snd.fst ++ [(34 : UInt8)])))))))))) (some (SV.val (AV.d (D.str []))))))) := by kernel_rfl
theorem satr1_Text : Sat P 47 (Sr1_Text) := by
  refine sat_mk (LT := Ln (Lr1_Text)) hC okr1_escaped mixed Try.func47 (by kernel_rfl) (c := bodyOf Try.f47) (by kernel_rfl) (by kernel_rfl) ?_ (loops0 (by kernel_rfl))
  rintro ⟨(t : RowE tmS), _⟩ sv h
  refine Leads.eq (Leads.of_eq (tr1_Text t) ?_)
  obtain ⟨⟨h1, h2, h3, h4⟩, h⟩ := h
  obtain rfl := Out_leaf h
  clear h
  have he := esc_le t.2.1
  repeat' (first | refine Leads.brD (fun _ => ?_) (fun _ => ?_) | refine Leads.brE (fun _ => ?_) (fun _ => ?_) | refine Leads.brN (fun _ => ?_) (fun _ => ?_) | refine Leads.brM (fun _ => ?_) (fun _ => ?_) | refine Leads.brG (fun _ => ?_) (fun _ => ?_) | refine Leads.br (fun _ => ?_) (fun _ => ?_) | refine Leads.chk ?_ (fun _ => ?_) | refine Leads.one ?_ | refine Leads.brP (fun _ => ?_) (fun _ => ?_))
  all_goals first | omega | (simp only [List.length_append, List.length_cons, List.length_nil, maxI]; omega) | skip
  all_goals first | (simp_all [textT, textS, quotedS]; done) | (rcases h4 (by assumption) with q | q <;> (simp_all [textT, textS, quotedS]; done))
def Er1_Text : Es := (47, Sr1_Text) :: Er1_escaped
theorem okr1_Text : SatE P (En (Er1_Text)) := SatE.cons (satr1_Text) okr1_escaped
/-! ### legation/legationref01.place -/
def lkr1_place_0 : St [.v false [.str], .v false [.int .u8], .v false [.int .i64]] → Prop := fun ⟨⟨(s : List UInt8), _⟩, ⟨(b : Int), _⟩, ⟨(i : Int), _⟩, _⟩ => 0 ≤ i ∧ i ≤ (s.length : Int) ∧ s.length ≤ 1152921504606846976 ∧ 0 ≤ b ∧ b < 256
def lgr1_place_0 : St [.v false [.str], .v false [.int .u8], .v false [.int .i64]] → Tr (Ex × List SV) := fun ⟨⟨(s : List UInt8), _⟩, ⟨(b : Int), _⟩, ⟨(i : Int), _⟩, _⟩ => .brP (0 ≤ Lib.indexByte (s.drop i.toNat) b.toNat.toUInt8) (.leaf (.ret, [.val (.d (.int .i64 (i + Lib.indexByte (s.drop i.toNat) b.toNat.toUInt8)))])) (.leaf (.exit 0, []))
def lmr1_place_0 : St [.v false [.str], .v false [.int .u8], .v false [.int .i64]] → Nat := fun ⟨⟨(s : List UInt8), _⟩, ⟨(b : Int), _⟩, ⟨(i : Int), _⟩, _⟩ => s.length - i.toNat
def lsr1_place_0 : LoopS := mkR [0, 1, 5] [] [4] [.v false [.str], .v false [.int .u8], .v false [.int .i64]] (fun r => .chk (lkr1_place_0 r) (lgr1_place_0 r))
def Lr1_place : Ls := [(2, lsr1_place_0)]
def Sr1_place := mkS [(false, [.str]), (false, [.int .u8])] fun ⟨⟨(s : List UInt8), _⟩, ⟨(b : Int), _⟩, _⟩ => .chk (s.length ≤ 1152921504606846976 ∧ 0 ≤ b ∧ b < 256) (ii (Lib.indexByte s b.toNat.toUInt8))
theorem ltr1_place_0 (s : List UInt8) (b : Int) (i : Int) : evRound T (En (Er1_Text)) (Ln (Lr1_place)) (loopAt 0 (loops (bodyOf Try.f67))) (lsr1_place_0) [.val (.d (.str  s)), .val (.d (.int .u8 b)), .val (.d (.int .i64 i))] =
    br (decide (i < (↑s.length : Int))) (chk ((0 : Int) ≤ i ∧ i < (↑s.length : Int)) (br (byteAt s i == b) (some (Rnd.out Ex.ret [SV.val (AV.d (D.int IntKind.i64 i))])) (some (Rnd.again [SV.val (AV.d (D.str s)), SV.val (AV.d (D.int IntKind.u8 b)), SV.val (AV.d (D.int IntKind.i64 (IntKind.i64.wrap (i + (1 : Int)))))])))) (some (Rnd.out (Ex.exit (0 : Nat)) [])) := by kernel_rfl
theorem lokr1_place_0 : LoopOK T (En (Er1_Text)) (Ln (Lr1_place)) (loopAt 0 (loops (bodyOf Try.f67))) := by
  refine loop_ok (live := [0, 1, 5]) (outs := []) (rets := [4]) (ks := [.v false [.str], .v false [.int .u8], .v false [.int .i64]]) (G := lgr1_place_0) (lkr1_place_0) (lmr1_place_0) (by kernel_rfl) ?_
  rintro ⟨⟨(s : List UInt8), _⟩, ⟨(b : Int), _⟩, ⟨(i : Int), _⟩, _⟩ x hok hx
  refine Leads.of_eq (ltr1_place_0 s b i) ?_
  obtain ⟨h0, h1, h2, h3, h4⟩ := hok
  obtain ⟨m, rfl⟩ := Int.eq_ofNat_of_zero_le h0
  obtain ⟨c, rfl⟩ : ∃ c : UInt8, b = u c := ⟨b.toNat.toUInt8, by simp [u]; omega⟩
  simp only [lgr1_place_0, Int.toNat_natCast, u_toU8] at hx
  rcases drop_cases s m with ⟨hle, hd⟩ | ⟨b, hlt, hd, hb⟩
  · refine Leads.brD (fun q => by omega) (fun _ => Leads.one (Goes.out ?_))
    rw [hd] at hx
    exact Out_leaf (Out_neg (by simp [Lib.indexByte]) hx)
  · rw [byteAt_u hb, wrap64 (by omega) (by omega)]
    rw [hd] at hx
    simp only [Lib.indexByte] at hx
    repeat' (first | refine Leads.brD (fun _ => ?_) (fun _ => ?_) | refine Leads.brE (fun _ => ?_) (fun _ => ?_) | refine Leads.brN (fun _ => ?_) (fun _ => ?_) | refine Leads.brM (fun _ => ?_) (fun _ => ?_) | refine Leads.brG (fun _ => ?_) (fun _ => ?_) | refine Leads.br (fun _ => ?_) (fun _ => ?_) | refine Leads.chk ?_ (fun _ => ?_) | refine Leads.one ?_ | refine Leads.brP (fun _ => ?_) (fun _ => ?_))
    all_goals first | omega | skip
    · rename_i q
      obtain rfl : b = c := u_inj q
      simp only [beq_self_eq_true, if_true] at hx
      obtain rfl := Out_leaf (Out_pos (by omega) hx); exact Goes.out (by simp)
    · rename_i q
      have q' : (b == c) = false := by simp; rintro rfl; exact q rfl
      refine Goes.again (ks := [.v false [.str], .v false [.int .u8], .v false [.int .i64]]) ((_, ()), (_, ()), (_, ()), ()) rfl ?_ ?_ ?_
      · exact ⟨by omega, by omega, h2, h3, h4⟩
      · simp only [lmr1_place_0]; omega
      · have hg := Lib.indexByte_ge (s.drop (m + 1)) c
        simp only [lgr1_place_0, toNat_add1, u_toU8, u_toU8']
        rw [q'] at hx
        simp only [Bool.false_eq_true, if_false] at hx
        by_cases z : Lib.indexByte (s.drop (m + 1)) c = -1
        · rw [z] at hx ⊢; exact .inr ⟨by omega, Out_neg (by simp) hx⟩
        · have e1 : (Lib.indexByte (s.drop (m + 1)) c == -1) = false := by simpa using z
          rw [e1] at hx
          simp only [Bool.false_eq_true, if_false] at hx
          refine .inl ⟨by omega, ?_⟩
          replace hx := Out_pos (by omega) hx
          rw [show (m : Int) + 1 + Lib.indexByte (s.drop (m + 1)) c = (m : Int) + (Lib.indexByte (s.drop (m + 1)) c + 1) by omega]
          exact hx
theorem tr1_place (s : List UInt8) (b : Int) : evF T (En (Er1_Text)) (Ln (Lr1_place)) Try.f67 [.d (.str s), .d (.int .u8 b)] =
    chk (lkr1_place_0 ((s, ()), (b, ()), ((0 : Int), ()), ())) (brP ((0 : Int) ≤ Lib.indexByte (List.drop (Int.toNat (0 : Int)) s) b.toNat.toUInt8) (some (SV.val (AV.d (D.int IntKind.i64 ((0 : Int) + Lib.indexByte (List.drop (Int.toNat (0 : Int)) s) b.toNat.toUInt8))))) (some (SV.val (AV.d (D.int IntKind.i64 (-1 : Int)))))) := by kernel_rfl
theorem satr1_place : Sat P 67 (Sr1_place) := by
  refine sat_mk (LT := Ln (Lr1_place)) hC okr1_Text mixed Try.func67 (by kernel_rfl) (c := bodyOf Try.f67) (by kernel_rfl) (by kernel_rfl) ?_ (loops1 (by kernel_rfl) (lokr1_place_0))
  rintro ⟨⟨(s : List UInt8), _⟩, ⟨(b : Int), _⟩, _⟩ sv h
  refine Leads.eq (Leads.of_eq (tr1_place s b) ?_)
  obtain ⟨⟨h1, h2, h3⟩, h⟩ := h
  obtain rfl := Out_leaf h
  have hg := Lib.indexByte_ge s b.toNat.toUInt8
  refine Leads.chk ⟨by omega, by omega, h1, h2, h3⟩ (fun _ => Leads.brP (fun _ => Leads.one ?_) (fun q => Leads.one ?_))
  · simp
  · rw [show List.drop (Int.toNat 0) s = s from rfl] at q
    rw [show Lib.indexByte s b.toNat.toUInt8 = -1 by omega]
def Er1_place : Es := (67, Sr1_place) :: Er1_Text
theorem okr1_place : SatE P (En (Er1_place)) := SatE.cons (satr1_place) okr1_Text
/-! ### legation/legationref01.closing -/
def lkr1_closing_0 : St [.v false [.str], .v false [.int .i64]] → Prop := fun ⟨⟨(s : List UInt8), _⟩, ⟨(i : Int), _⟩, _⟩ => 0 ≤ i ∧ i ≤ (s.length : Int) + 1 ∧ s.length ≤ 1152921504606846976
def lgr1_closing_0 : St [.v false [.str], .v false [.int .i64]] → Tr (Ex × List SV) := fun ⟨⟨(s : List UInt8), _⟩, ⟨(i : Int), _⟩, _⟩ => .brP (run (s.drop i.toNat) < (s.drop i.toNat).length) (.leaf (.ret, [.val (.d (.int .i64 (i + (run (s.drop i.toNat) : Nat))))])) (.leaf (.exit 0, []))
def lmr1_closing_0 : St [.v false [.str], .v false [.int .i64]] → Nat := fun ⟨⟨(s : List UInt8), _⟩, ⟨(i : Int), _⟩, _⟩ => s.length + 1 - i.toNat
def lsr1_closing_0 : LoopS := mkR [0, 3] [] [2] [.v false [.str], .v false [.int .i64]] (fun r => .chk (lkr1_closing_0 r) (lgr1_closing_0 r))
def Lr1_closing : Ls := [(2, lsr1_closing_0)]
def Sr1_closing := mkS [(false, [.str])] fun ⟨⟨(s : List UInt8), _⟩, _⟩ => .chk (s.length ≤ 1152921504606846976) (.brP (run (s.drop 1) < (s.drop 1).length) (ii (1 + (run (s.drop 1) : Nat))) (ii (-1)))
theorem ltr1_closing_0 (s : List UInt8) (i : Int) : evRound T (En (Er1_place)) (Ln (Lr1_closing)) (loopAt 0 (loops (bodyOf Try.f74))) (lsr1_closing_0) [.val (.d (.str  s)), .val (.d (.int .i64 i))] =
    br (decide (i < (↑s.length : Int))) (chk ((0 : Int) ≤ i ∧ i < (↑s.length : Int)) (br (byteAt s i == (92 : Int)) (some (Rnd.again [SV.val (AV.d (D.str s)), SV.val (AV.d (D.int IntKind.i64 (IntKind.i64.wrap (IntKind.i64.wrap (i + (1 : Int)) + (1 : Int)))))])) (chk ((0 : Int) ≤ i ∧ i < (↑s.length : Int)) (br (byteAt s i == (34 : Int)) (some (Rnd.out Ex.ret [SV.val (AV.d (D.int IntKind.i64 i))])) (some (Rnd.again [SV.val (AV.d (D.str s)), SV.val (AV.d (D.int IntKind.i64 (IntKind.i64.wrap (i + (1 : Int)))))])))))) (some (Rnd.out (Ex.exit (0 : Nat)) [])) := by kernel_rfl
theorem lokr1_closing_0 : LoopOK T (En (Er1_place)) (Ln (Lr1_closing)) (loopAt 0 (loops (bodyOf Try.f74))) := by
  refine loop_ok (live := [0, 3]) (outs := []) (rets := [2]) (ks := [.v false [.str], .v false [.int .i64]]) (G := lgr1_closing_0) (lkr1_closing_0) (lmr1_closing_0) (by kernel_rfl) ?_
  rintro ⟨⟨(s : List UInt8), _⟩, ⟨(i : Int), _⟩, _⟩ x hok hx
  refine Leads.of_eq (ltr1_closing_0 s i) ?_
  obtain ⟨h0, h1, h2⟩ := hok
  obtain ⟨m, rfl⟩ := Int.eq_ofNat_of_zero_le h0
  simp only [lgr1_closing_0, Int.toNat_natCast] at hx
  rcases drop_cases s m with ⟨hle, hd⟩ | ⟨b, hlt, hd, hb⟩
  · refine Leads.brD (fun q => by omega) (fun _ => Leads.one (Goes.out ?_))
    rw [hd] at hx
    exact Out_leaf (Out_neg (by simp) hx)
  · rw [byteAt_u hb, wrap64 (x := (m : Int) + 1) (by omega) (by omega), wrap64 (by omega) (by omega)]
    rw [hd] at hx
    by_cases q1 : u b = 92
    · have q1' : ((b.toNat : Nat) : Int) = 92 := q1
      rw [q1]
      refine Leads.brD (fun _ => ?_) (fun q => by omega)
      refine Leads.chk (by omega) (fun _ => Leads.brE (fun _ => Leads.one ?_) (fun q => absurd rfl q))
      refine Goes.again (ks := [.v false [.str], .v false [.int .i64]]) ((_, ()), (_, ()), ()) rfl ?_ ?_ ?_
      · exact ⟨by omega, by omega, h2⟩
      · simp only [lmr1_closing_0]; omega
      · have e : ((m : Int) + 1 + 1).toNat = m + 2 := by omega
        simp only [lgr1_closing_0, e]
        rcases drop_cases s (m + 1) with ⟨hle, hd2⟩ | ⟨c, hlt2, hd2, hc⟩
        · rw [hd2] at hx
          rw [List.drop_of_length_le (by omega)]
          exact .inr ⟨by simp, Out_neg (by simp [run, q1]) hx⟩
        · rw [hd2] at hx
          have er : run (b :: c :: s.drop (m + 1 + 1)) = run (s.drop (m + 2)) + 2 := by simp [run, q1]
          rw [er] at hx
          simp only [List.length_cons, show m + 1 + 1 = m + 2 from rfl] at hx
          rw [show (run (s.drop (m + 2)) + 2 < (s.drop (m + 2)).length + 1 + 1) = (run (s.drop (m + 2)) < (s.drop (m + 2)).length) by rw [eq_iff_iff]; omega] at hx
          rw [show (m : Int) + ((run (s.drop (m + 2)) + 2 : Nat) : Int) = (m : Int) + 1 + 1 + (run (s.drop (m + 2)) : Nat) by omega] at hx
          exact hx
    · by_cases q2 : u b = 34
      · rw [q2]
        refine Leads.brD (fun _ => Leads.chk (by omega) (fun _ => Leads.brE (fun q => by omega) (fun _ => Leads.chk (by omega) (fun _ => Leads.brE (fun _ => Leads.one (Goes.out ?_)) (fun q => absurd rfl q))))) (fun q => by omega)
        rw [run_q _ q2] at hx
        obtain rfl := Out_leaf (Out_pos (by simp) hx); simp
      · refine Leads.brD (fun _ => Leads.chk (by omega) (fun _ => Leads.brE (fun q => absurd q q1) (fun _ => Leads.chk (by omega) (fun _ => Leads.brE (fun q => absurd q q2) (fun _ => Leads.one ?_))))) (fun q => by omega)
        refine Goes.again (ks := [.v false [.str], .v false [.int .i64]]) ((_, ()), (_, ()), ()) rfl ?_ ?_ ?_
        · exact ⟨by omega, by omega, h2⟩
        · simp only [lmr1_closing_0]; omega
        · simp only [lgr1_closing_0, toNat_add1]
          rw [run_o _ q2 q1] at hx
          simp only [List.length_cons] at hx
          rw [show (run (s.drop (m + 1)) + 1 < (s.drop (m + 1)).length + 1) = (run (s.drop (m + 1)) < (s.drop (m + 1)).length) by rw [eq_iff_iff]; omega] at hx
          rw [show (m : Int) + ((run (s.drop (m + 1)) + 1 : Nat) : Int) = (m : Int) + 1 + (run (s.drop (m + 1)) : Nat) by omega] at hx
          exact hx
theorem tr1_closing (s : List UInt8) : evF T (En (Er1_place)) (Ln (Lr1_closing)) Try.f74 [.d (.str s)] =
    chk (lkr1_closing_0 ((s, ()), ((1 : Int), ()), ())) (brP (run (List.drop (Int.toNat (1 : Int)) s) < (List.drop (Int.toNat (1 : Int)) s).length) (some (SV.val (AV.d (D.int IntKind.i64 ((1 : Int) + (↑(run (List.drop (Int.toNat (1 : Int)) s)) : Int)))))) (some (SV.val (AV.d (D.int IntKind.i64 (-1 : Int)))))) := by kernel_rfl
theorem satr1_closing : Sat P 74 (Sr1_closing) := by
  refine sat_mk (LT := Ln (Lr1_closing)) hC okr1_place mixed Try.func74 (by kernel_rfl) (c := bodyOf Try.f74) (by kernel_rfl) (by kernel_rfl) ?_ (loops1 (by kernel_rfl) (lokr1_closing_0))
  rintro ⟨⟨(s : List UInt8), _⟩, _⟩ sv h
  refine Leads.eq (Leads.of_eq (tr1_closing s) ?_)
  obtain ⟨h1, h⟩ := h
  refine Leads.chk ⟨by omega, by omega, h1⟩ (fun _ => ?_)
  rcases Out_brP h with ⟨q, h⟩ | ⟨q, h⟩
  · obtain rfl := Out_leaf h
    exact Leads.brP (fun _ => Leads.one rfl) (fun z => absurd q z)
  · obtain rfl := Out_leaf h
    exact Leads.brP (fun z => absurd z q) (fun _ => Leads.one rfl)
def Er1_closing : Es := (74, Sr1_closing) :: Er1_place
theorem okr1_closing : SatE P (En (Er1_closing)) := SatE.cons (satr1_closing) okr1_place
/-! ### legation/legationref01.nameLen -/
def lkr1_nameLen_0 : St [.v false [.str], .v false [.int .i64]] → Prop := fun ⟨⟨(s : List UInt8), _⟩, ⟨(n : Int), _⟩, _⟩ => 0 ≤ n ∧ n ≤ (named s : Int) ∧ s.length ≤ 1152921504606846976
def lgr1_nameLen_0 : St [.v false [.str], .v false [.int .i64]] → Tr (Ex × List SV) := fun ⟨⟨(s : List UInt8), _⟩, ⟨(n : Int), _⟩, _⟩ => .leaf (.exit 0, [.val (.d (.int .i64 ((named s : Int))))])
def lmr1_nameLen_0 : St [.v false [.str], .v false [.int .i64]] → Nat := fun ⟨⟨(s : List UInt8), _⟩, ⟨(n : Int), _⟩, _⟩ => 33 - n.toNat
def lsr1_nameLen_0 : LoopS := mkR [0, 3] [3] [] [.v false [.str], .v false [.int .i64]] (fun r => .chk (lkr1_nameLen_0 r) (lgr1_nameLen_0 r))
def Lr1_nameLen : Ls := [(2, lsr1_nameLen_0)]
def Sr1_nameLen := mkS [(false, [.str])] fun ⟨⟨(s : List UInt8), _⟩, _⟩ => .chk (s.length ≤ 1152921504606846976) (ii (named s))
theorem ltr1_nameLen_0 (s : List UInt8) (n : Int) : evRound T (En (Er1_closing)) (Ln (Lr1_nameLen)) (loopAt 0 (loops (bodyOf Try.f69))) (lsr1_nameLen_0) [.val (.d (.str  s)), .val (.d (.int .i64 n))] =
    br (decide (n < (↑s.length : Int))) (br (decide (n < (32 : Int))) (chk ((0 : Int) ≤ IntKind.i64.wrap (n + (1 : Int)) ∧ IntKind.i64.wrap (n + (1 : Int)) ≤ (↑s.length : Int)) (chk ((List.take (IntKind.i64.wrap (n + (1 : Int))).toNat s).length ≤ Big) (br (isName (List.take (IntKind.i64.wrap (n + (1 : Int))).toNat s)) (some (Rnd.again [SV.val (AV.d (D.str s)), SV.val (AV.d (D.int IntKind.i64 (IntKind.i64.wrap (n + (1 : Int)))))])) (some (Rnd.out (Ex.exit (0 : Nat)) [SV.val (AV.d (D.int IntKind.i64 n))]))))) (some (Rnd.out (Ex.exit (0 : Nat)) [SV.val (AV.d (D.int IntKind.i64 n))]))) (some (Rnd.out (Ex.exit (0 : Nat)) [SV.val (AV.d (D.int IntKind.i64 n))])) := by kernel_rfl
theorem lokr1_nameLen_0 : LoopOK T (En (Er1_closing)) (Ln (Lr1_nameLen)) (loopAt 0 (loops (bodyOf Try.f69))) := by
  refine loop_ok (live := [0, 3]) (outs := [3]) (rets := []) (ks := [.v false [.str], .v false [.int .i64]]) (G := lgr1_nameLen_0) (lkr1_nameLen_0) (lmr1_nameLen_0) (by kernel_rfl) ?_
  rintro ⟨⟨(s : List UInt8), _⟩, ⟨(n : Int), _⟩, _⟩ x hok hx
  refine Leads.of_eq (ltr1_nameLen_0 s n) ?_
  obtain ⟨h0, h1, h2⟩ := hok
  obtain rfl := Out_leaf hx
  obtain ⟨m, rfl⟩ := Int.eq_ofNat_of_zero_le h0
  have hn := named_le s
  have hn2 := named_le32 s
  rw [wrap64 (by omega) (by omega), toNat_add1]
  refine Leads.brD (fun q => Leads.brD (fun q2 => Leads.chk (by omega) (fun _ => Leads.chk ?_ (fun _ => ?_))) (fun q2 => Leads.one (Goes.out ?_))) (fun q => Leads.one (Goes.out ?_))
  · simp [Big]; omega
  · rw [isName_take (by omega)]
    refine Leads.brD (fun q3 => Leads.one ?_) (fun q3 => Leads.one (Goes.out ?_))
    · refine Goes.again (ks := [.v false [.str], .v false [.int .i64]]) ((_, ()), (_, ()), ()) rfl ?_ ?_ ?_
      · exact ⟨by omega, by omega, h2⟩
      · simp only [lmr1_nameLen_0]; omega
      · rfl
    · rw [show (named s : Int) = m by omega]
  · rw [show (named s : Int) = m by omega]
  · rw [show (named s : Int) = m by omega]
theorem tr1_nameLen (s : List UInt8) : evF T (En (Er1_closing)) (Ln (Lr1_nameLen)) Try.f69 [.d (.str s)] =
    chk (lkr1_nameLen_0 ((s, ()), ((0 : Int), ()), ())) (some (SV.val (AV.d (D.int IntKind.i64 (↑(named s) : Int))))) := by kernel_rfl
theorem satr1_nameLen : Sat P 69 (Sr1_nameLen) := by
  refine sat_mk (LT := Ln (Lr1_nameLen)) hC okr1_closing mixed Try.func69 (by kernel_rfl) (c := bodyOf Try.f69) (by kernel_rfl) (by kernel_rfl) ?_ (loops1 (by kernel_rfl) (lokr1_nameLen_0))
  rintro ⟨⟨(s : List UInt8), _⟩, _⟩ sv h
  refine Leads.eq (Leads.of_eq (tr1_nameLen s) ?_)
  obtain ⟨hs, h⟩ := h
  obtain rfl := Out_leaf h
  exact Leads.chk ⟨by omega, by omega, hs⟩ (fun _ => Leads.one rfl)
def Er1_nameLen : Es := (69, Sr1_nameLen) :: Er1_closing
theorem okr1_nameLen : SatE P (En (Er1_nameLen)) := SatE.cons (satr1_nameLen) okr1_closing
/-! ### legation/legationref01.unescaped -/
def lkr1_unescaped_0 : St [.v false [.str], .v false [.str], .v false [.int .i64]] → Prop := fun ⟨⟨(s : List UInt8), _⟩, ⟨(out : List UInt8), _⟩, ⟨(i : Int), _⟩, _⟩ => 0 ≤ i ∧ i ≤ (s.length : Int) ∧ s.length ≤ 1152921504606846976 ∧ out.length + (s.length - i.toNat) ≤ 2 * 1152921504606846976
def lgr1_unescaped_0 : St [.v false [.str], .v false [.str], .v false [.int .i64]] → Tr (Ex × List SV) := fun ⟨⟨(s : List UInt8), _⟩, ⟨(out : List UInt8), _⟩, ⟨(i : Int), _⟩, _⟩ => .br (unescS (s.drop i.toNat)).isSome (.leaf (.exit 0, [.val (.d (.str  (out ++ (unescS (s.drop i.toNat)).getD [])))])) (.leaf (.ret, [.val (.d (.str  ([]))), .val (.d (.bool  (false)))]))
def lmr1_unescaped_0 : St [.v false [.str], .v false [.str], .v false [.int .i64]] → Nat := fun ⟨⟨(s : List UInt8), _⟩, ⟨(out : List UInt8), _⟩, ⟨(i : Int), _⟩, _⟩ => s.length - i.toNat
def lsr1_unescaped_0 : LoopS := mkR [0, 4, 5] [4] [2, 3] [.v false [.str], .v false [.str], .v false [.int .i64]] (fun r => .chk (lkr1_unescaped_0 r) (lgr1_unescaped_0 r))
def Lr1_unescaped : Ls := [(3, lsr1_unescaped_0)]
def Sr1_unescaped := mkS [(false, [.str])] fun ⟨⟨(s : List UInt8), _⟩, _⟩ => .chk (s.length ≤ 1152921504606846976) (.br (unescS s).isSome (.leaf (.val (.tup [.d (.str ((unescS s).getD [])), .d (.bool true)]))) (.leaf (.val (.tup [.d (.str []), .d (.bool false)]))))
theorem ltr1_unescaped_0 (s : List UInt8) (out : List UInt8) (i : Int) : evRound T (En (Er1_nameLen)) (Ln (Lr1_unescaped)) (loopAt 0 (loops (bodyOf Try.f75))) (lsr1_unescaped_0) [.val (.d (.str  s)), .val (.d (.str  out)), .val (.d (.int .i64 i))] =
    br (decide (i < (↑s.length : Int)))
  (chk ((0 : Int) ≤ i ∧ i < (↑s.length : Int))
    (br (byteAt s i != (92 : Int)) (chk ((0 : Int) ≤ i ∧ i < (↑s.length : Int)) (br (byteAt s i == (34 : Int)) (some (Rnd.out Ex.ret [SV.val (AV.d (D.str [])), SV.val (AV.d (D.bool false))])) (chk ((0 : Int) ≤ i ∧ i < (↑s.length : Int)) (br (byteAt s i == (10 : Int)) (some (Rnd.out Ex.ret [SV.val (AV.d (D.str [])), SV.val (AV.d (D.bool false))])) (chk ((0 : Int) ≤ i ∧ i < (↑s.length : Int)) (br (byteAt s i == (9 : Int)) (some (Rnd.out Ex.ret [SV.val (AV.d (D.str [])), SV.val (AV.d (D.bool false))])) (chk ((0 : Int) ≤ i ∧ i ≤ IntKind.i64.wrap (i + (1 : Int)) ∧ IntKind.i64.wrap (i + (1 : Int)) ≤ (↑s.length : Int)) (chk ((↑out.length : Int) + (↑(List.drop i.toNat (List.take (IntKind.i64.wrap (i + (1 : Int))).toNat s)).length : Int) ≤ maxI) (some (Rnd.again [SV.val (AV.d (D.str s)), SV.val (AV.d (D.str (out ++ List.drop i.toNat (List.take (IntKind.i64.wrap (i + (1 : Int))).toNat s)))), SV.val (AV.d (D.int IntKind.i64 (IntKind.i64.wrap (i + (1 : Int)))))]))))))))))
      (br (decide (IntKind.i64.wrap (i + (1 : Int)) ≥ (↑s.length : Int))) (some (Rnd.out Ex.ret [SV.val (AV.d (D.str [])), SV.val (AV.d (D.bool false))])) (chk ((0 : Int) ≤ IntKind.i64.wrap (i + (1 : Int)) ∧ IntKind.i64.wrap (i + (1 : Int)) < (↑s.length : Int)) (br (byteAt s (IntKind.i64.wrap (i + (1 : Int))) == (34 : Int)) (br (byteAt s (IntKind.i64.wrap (i + (1 : Int))) == (34 : Int)) (chk ((0 : Int) ≤ IntKind.i64.wrap (i + (1 : Int)) ∧ IntKind.i64.wrap (i + (1 : Int)) ≤ IntKind.i64.wrap (IntKind.i64.wrap (i + (1 : Int)) + (1 : Int)) ∧ IntKind.i64.wrap (IntKind.i64.wrap (i + (1 : Int)) + (1 : Int)) ≤ (↑s.length : Int)) (chk ((↑out.length : Int) + (↑(List.drop (IntKind.i64.wrap (i + (1 : Int))).toNat (List.take (IntKind.i64.wrap (IntKind.i64.wrap (i + (1 : Int)) + (1 : Int))).toNat s)).length : Int) ≤ maxI) (some (Rnd.again [SV.val (AV.d (D.str s)), SV.val (AV.d (D.str (out ++ List.drop (IntKind.i64.wrap (i + (1 : Int))).toNat (List.take (IntKind.i64.wrap (IntKind.i64.wrap (i + (1 : Int)) + (1 : Int))).toNat s)))), SV.val (AV.d (D.int IntKind.i64 (IntKind.i64.wrap (IntKind.i64.wrap (i + (1 : Int)) + (1 : Int)))))])))) (br (byteAt s (IntKind.i64.wrap (i + (1 : Int))) == (110 : Int)) (chk ((↑out.length : Int) + (↑[(10 : UInt8)].length : Int) ≤ maxI) (some (Rnd.again [SV.val (AV.d (D.str s)), SV.val (AV.d (D.str (out ++ [(10 : UInt8)]))), SV.val (AV.d (D.int IntKind.i64 (IntKind.i64.wrap (IntKind.i64.wrap (i + (1 : Int)) + (1 : Int)))))]))) (br (byteAt s (IntKind.i64.wrap (i + (1 : Int))) == (116 : Int)) (chk ((↑out.length : Int) + (↑[(9 : UInt8)].length : Int) ≤ maxI) (some (Rnd.again [SV.val (AV.d (D.str s)), SV.val (AV.d (D.str (out ++ [(9 : UInt8)]))), SV.val (AV.d (D.int IntKind.i64 (IntKind.i64.wrap (IntKind.i64.wrap (i + (1 : Int)) + (1 : Int)))))]))) (some (Rnd.out Ex.ret [SV.val (AV.d (D.str [])), SV.val (AV.d (D.bool false))]))))) (br (byteAt s (IntKind.i64.wrap (i + (1 : Int))) == (92 : Int)) (chk ((0 : Int) ≤ IntKind.i64.wrap (i + (1 : Int)) ∧ IntKind.i64.wrap (i + (1 : Int)) ≤ IntKind.i64.wrap (IntKind.i64.wrap (i + (1 : Int)) + (1 : Int)) ∧ IntKind.i64.wrap (IntKind.i64.wrap (i + (1 : Int)) + (1 : Int)) ≤ (↑s.length : Int)) (chk ((↑out.length : Int) + (↑(List.drop (IntKind.i64.wrap (i + (1 : Int))).toNat (List.take (IntKind.i64.wrap (IntKind.i64.wrap (i + (1 : Int)) + (1 : Int))).toNat s)).length : Int) ≤ maxI) (some (Rnd.again [SV.val (AV.d (D.str s)), SV.val (AV.d (D.str (out ++ List.drop (IntKind.i64.wrap (i + (1 : Int))).toNat (List.take (IntKind.i64.wrap (IntKind.i64.wrap (i + (1 : Int)) + (1 : Int))).toNat s)))), SV.val (AV.d (D.int IntKind.i64 (IntKind.i64.wrap (IntKind.i64.wrap (i + (1 : Int)) + (1 : Int)))))])))) (br (byteAt s (IntKind.i64.wrap (i + (1 : Int))) == (110 : Int)) (chk ((↑out.length : Int) + (↑[(10 : UInt8)].length : Int) ≤ maxI) (some (Rnd.again [SV.val (AV.d (D.str s)), SV.val (AV.d (D.str (out ++ [(10 : UInt8)]))), SV.val (AV.d (D.int IntKind.i64 (IntKind.i64.wrap (IntKind.i64.wrap (i + (1 : Int)) + (1 : Int)))))]))) (br (byteAt s (IntKind.i64.wrap (i + (1 : Int))) == (116 : Int)) (chk ((↑out.length : Int) + (↑[(9 : UInt8)].length : Int) ≤ maxI) (some (Rnd.again [SV.val (AV.d (D.str s)), SV.val (AV.d (D.str (out ++ [(9 : UInt8)]))), SV.val (AV.d (D.int IntKind.i64 (IntKind.i64.wrap (IntKind.i64.wrap (i + (1 : Int)) + (1 : Int)))))]))) (some (Rnd.out Ex.ret [SV.val (AV.d (D.str [])), SV.val (AV.d (D.bool false))]))))))))))
  (some (Rnd.out (Ex.exit (0 : Nat)) [SV.val (AV.d (D.str out))])) := by kernel_rfl
theorem lokr1_unescaped_0 : LoopOK T (En (Er1_nameLen)) (Ln (Lr1_unescaped)) (loopAt 0 (loops (bodyOf Try.f75))) := by
  refine loop_ok (live := [0, 4, 5]) (outs := [4]) (rets := [2, 3]) (ks := [.v false [.str], .v false [.str], .v false [.int .i64]]) (G := lgr1_unescaped_0) (lkr1_unescaped_0) (lmr1_unescaped_0) (by kernel_rfl) ?_
  rintro ⟨⟨(s : List UInt8), _⟩, ⟨(out : List UInt8), _⟩, ⟨(i : Int), _⟩, _⟩ x hok hx
  refine Leads.of_eq (ltr1_unescaped_0 s out i) ?_
  obtain ⟨h0, h1, h2, h3⟩ := hok
  obtain ⟨m, rfl⟩ := Int.eq_ofNat_of_zero_le h0
  simp only [lgr1_unescaped_0, Int.toNat_natCast] at hx h3 ⊢
  rcases drop_cases s m with ⟨hle, hd⟩ | ⟨b, hlt, hd, hb⟩
  · refine Leads.brD (fun q => by omega) (fun _ => Leads.one (Goes.out ?_))
    rw [hd] at hx
    simp only [unescS] at hx
    obtain rfl := Out_leaf (Out_tt hx); simp
  · rw [byteAt_u hb, wrap64 (x := (m : Int) + 1) (by omega) (by omega), wrap64 (x := (m : Int) + 1 + 1) (by omega) (by omega), toNat_add1, show ((m : Int) + 1 + 1).toNat = m + 2 by omega, take_drop_one hb]
    rw [hd] at hx
    refine Leads.brD (fun _ => Leads.chk (by omega) (fun _ => Leads.brN (fun q1 => ?_) (fun q1 => ?_))) (fun q => by omega)
    · rcases drop_cases s (m + 1) with ⟨hle, hd2⟩ | ⟨c, hlt2, hd2, hc⟩
      · refine Leads.brD (fun _ => Leads.one (Goes.out ?_)) (fun q => by omega)
        rw [hd2] at hx
        simp only [unescS, q1, if_true] at hx
        exact Out_leaf (Out_ff hx)
      · rw [hd2, unesc_e q1] at hx
        have hc' : byteAt s ((m : Int) + 1) = u c := byteAt_u hc
        rw [hc', take_drop_one hc]
        cases hu : unesc c with
        | none =>
          rw [hu] at hx
          obtain ⟨z1, z2, z3, z4⟩ := unesc_none hu
          refine Leads.brD (fun q => by omega) (fun _ => Leads.chk (by omega) (fun _ => Leads.brE (fun q => absurd q z1) (fun _ => Leads.brE (fun q => absurd q z2) (fun _ => Leads.brE (fun q => absurd q z3) (fun _ => Leads.brE (fun q => absurd q z4) (fun _ => Leads.one (Goes.out (Out_leaf (Out_ff hx)))))))))
        | some d =>
          rw [hu] at hx
          have key : ∀ o', o' = out ++ [d] → Goes [.v false [.str], .v false [.str], .v false [.int .i64]] lgr1_unescaped_0 lkr1_unescaped_0 lmr1_unescaped_0 ((s, ()), (out, ()), ((m : Int), ()), ()) x (.again [.val (.d (.str s)), .val (.d (.str o')), .val (.d (.int .i64 ((m : Int) + 1 + 1)))]) := by
            rintro o' rfl
            refine Goes.again (ks := [.v false [.str], .v false [.str], .v false [.int .i64]]) ((_, ()), (_, ()), (_, ()), ()) rfl ?_ ?_ ?_
            · exact ⟨by omega, by omega, h2, by simp; omega⟩
            · simp only [lmr1_unescaped_0]; omega
            · simp only [lgr1_unescaped_0, show ((m : Int) + 1 + 1).toNat = m + 1 + 1 by omega]
              cases hr : unescS (s.drop (m + 1 + 1)) with
              | none => rw [hr] at hx; exact .inr ⟨rfl, Out_ff hx⟩
              | some o => rw [hr] at hx; exact .inl ⟨rfl, by have := Out_tt hx; simpa using this⟩
          refine Leads.brD (fun q => by omega) (fun _ => Leads.chk (by omega) (fun _ => ?_))
          rcases unesc_some hu with ⟨z, rfl⟩ | ⟨z, rfl⟩ | ⟨z, rfl⟩ | ⟨z, rfl⟩
          · obtain rfl : c = 34 := u_inj z
            exact Leads.brE (fun _ => Leads.brE (fun _ => Leads.chk (by omega) fun _ => Leads.chk (by simp [maxI]; omega) fun _ => Leads.one (key _ rfl)) (fun q => absurd rfl q)) (fun q => absurd rfl q)
          · obtain rfl : c = 92 := u_inj z
            exact Leads.brE (fun q => absurd q (by decide)) (fun _ => Leads.brE (fun _ => Leads.chk (by omega) fun _ => Leads.chk (by simp [maxI]; omega) fun _ => Leads.one (key _ rfl)) (fun q => absurd rfl q))
          · obtain rfl : c = 110 := u_inj z
            exact Leads.brE (fun q => absurd q (by decide)) (fun _ => Leads.brE (fun q => absurd q (by decide)) (fun _ => Leads.brE (fun _ => Leads.chk (by simp [maxI]; omega) fun _ => Leads.one (key _ rfl)) (fun q => absurd rfl q)))
          · obtain rfl : c = 116 := u_inj z
            exact Leads.brE (fun q => absurd q (by decide)) (fun _ => Leads.brE (fun q => absurd q (by decide)) (fun _ => Leads.brE (fun q => absurd q (by decide)) (fun _ => Leads.brE (fun _ => Leads.chk (by simp [maxI]; omega) fun _ => Leads.one (key _ rfl)) (fun q => absurd rfl q))))
    · by_cases q : u b = 34 ∨ u b = 10 ∨ u b = 9
      · rw [unesc_bad _ q1 q] at hx
        have hl := Out_leaf (Out_ff hx)
        refine Leads.chk (by omega) fun _ => Leads.brE (fun _ => Leads.one (Goes.out hl)) fun z1 => Leads.chk (by omega) fun _ => Leads.brE (fun _ => Leads.one (Goes.out hl)) fun z2 => Leads.chk (by omega) fun _ => Leads.brE (fun _ => Leads.one (Goes.out hl)) fun z3 => ?_
        rcases q with q | q | q <;> contradiction
      · rw [unesc_o _ q1 q] at hx
        simp only [not_or] at q
        refine Leads.chk (by omega) fun _ => Leads.brE (fun z => absurd z q.1) fun _ => Leads.chk (by omega) fun _ => Leads.brE (fun z => absurd z q.2.1) fun _ => Leads.chk (by omega) fun _ => Leads.brE (fun z => absurd z q.2.2) fun _ => Leads.chk (by omega) fun _ => Leads.chk (by simp [maxI]; omega) fun _ => Leads.one ?_
        refine Goes.again (ks := [.v false [.str], .v false [.str], .v false [.int .i64]]) ((_, ()), (_, ()), (_, ()), ()) rfl ?_ ?_ ?_
        · exact ⟨by omega, by omega, h2, by simp; omega⟩
        · simp only [lmr1_unescaped_0]; omega
        · simp only [lgr1_unescaped_0, toNat_add1]
          cases hr : unescS (s.drop (m + 1)) with
          | none => rw [hr] at hx; exact .inr ⟨rfl, Out_ff hx⟩
          | some o => rw [hr] at hx; exact .inl ⟨rfl, by have := Out_tt hx; simpa using this⟩
theorem tr1_unescaped (s : List UInt8) : evF T (En (Er1_nameLen)) (Ln (Lr1_unescaped)) Try.f75 [.d (.str s)] =
    chk (lkr1_unescaped_0 ((s, ()), ([], ()), ((0 : Int), ()), ())) (br (unescS (List.drop (Int.toNat (0 : Int)) s)).isSome (some (SV.val (AV.tup [AV.d (D.str ([] ++ (unescS (List.drop (Int.toNat (0 : Int)) s)).getD [])), AV.d (D.bool true)]))) (some (SV.val (AV.tup [AV.d (D.str []), AV.d (D.bool false)])))) := by kernel_rfl
theorem satr1_unescaped : Sat P 75 (Sr1_unescaped) := by
  refine sat_mk (LT := Ln (Lr1_unescaped)) hC okr1_nameLen mixed Try.func75 (by kernel_rfl) (c := bodyOf Try.f75) (by kernel_rfl) (by kernel_rfl) ?_ (loops1 (by kernel_rfl) (lokr1_unescaped_0))
  rintro ⟨⟨(s : List UInt8), _⟩, _⟩ sv h
  refine Leads.eq (Leads.of_eq (tr1_unescaped s) ?_)
  obtain ⟨hs, h⟩ := h
  refine Leads.chk ⟨by omega, by omega, hs, by simp; omega⟩ (fun _ => ?_)
  rw [show List.drop (Int.toNat 0) s = s from rfl]
  rcases Out_br h with ⟨q, h⟩ | ⟨q, h⟩
  · obtain rfl := Out_leaf h; rw [q]; exact Leads.one rfl
  · obtain rfl := Out_leaf h; rw [q]; exact Leads.one rfl
def Er1_unescaped : Es := (75, Sr1_unescaped) :: Er1_nameLen
theorem okr1_unescaped : SatE P (En (Er1_unescaped)) := SatE.cons (satr1_unescaped) okr1_nameLen

end Go.Proofs.Ytoopcfjmmhmamaa.T6
end

section
set_option maxRecDepth 100000
open Go.Proofs.Ytoopcfjmmhmamaa.Lg Go Go.Proofs.Ytoopcfjmmhmamaa.Sp
open Go.Proofs
namespace Go.Proofs.Ytoopcfjmmhmamaa.T6


/-! ### legation/legationref01.typed -/
def lkr1_typed_0 : St [.v false [.str], .v false [.int .i64]] → Prop := fun ⟨⟨(rest : List UInt8), _⟩, ⟨(n : Int), _⟩, _⟩ => 0 ≤ n ∧ n ≤ (rest.length : Int) ∧ rest.length ≤ 1152921504606846976
def lgr1_typed_0 : St [.v false [.str], .v false [.int .i64]] → Tr (Ex × List SV) := fun ⟨⟨(rest : List UInt8), _⟩, ⟨(n : Int), _⟩, _⟩ => .leaf (.exit 0, [.val (.d (.str  (rest))), .val (.d (.int .i64 (n + (lowRun (rest.drop n.toNat)).length)))])
def lmr1_typed_0 : St [.v false [.str], .v false [.int .i64]] → Nat := fun ⟨⟨(rest : List UInt8), _⟩, ⟨(n : Int), _⟩, _⟩ => rest.length - n.toNat
def lsr1_typed_0 : LoopS := mkR [1, 7] [1, 7] [] [.v false [.str], .v false [.int .i64]] (fun r => .chk (lkr1_typed_0 r) (lgr1_typed_0 r))
def Lr1_typed : Ls := [(8, lsr1_typed_0)]
def Sr1_typed := mkS [(true, tmS), (false, [.str])] fun ⟨(t : RowE tmS), ⟨(rest : List UInt8), _⟩, _⟩ => .chk (rest.length ≤ 1152921504606846976 ∧ t.1 = 2 ∧ t.2.2.1 = [] ∧ t.2.2.2.1 = []) (pref (behindS 2 t.2.1 [] [] rest 0))
theorem ltr1_typed_0 (rest : List UInt8) (n : Int) : evRound T (En (Er1_unescaped)) (Ln (Lr1_typed)) (loopAt 0 (loops (bodyOf Try.f76))) (lsr1_typed_0) [.val (.d (.str  rest)), .val (.d (.int .i64 n))] =
    br (decide (n < (↑rest.length : Int))) (chk ((0 : Int) ≤ n ∧ n < (↑rest.length : Int)) (br (betw (byteAt rest n) (97 : Int) (122 : Int)) (some (Rnd.again [SV.val (AV.d (D.str rest)), SV.val (AV.d (D.int IntKind.i64 (IntKind.i64.wrap (n + (1 : Int)))))])) (some (Rnd.out (Ex.exit (0 : Nat)) [SV.val (AV.d (D.str rest)), SV.val (AV.d (D.int IntKind.i64 n))])))) (some (Rnd.out (Ex.exit (0 : Nat)) [SV.val (AV.d (D.str rest)), SV.val (AV.d (D.int IntKind.i64 n))])) := by kernel_rfl
theorem lokr1_typed_0 : LoopOK T (En (Er1_unescaped)) (Ln (Lr1_typed)) (loopAt 0 (loops (bodyOf Try.f76))) := by
  refine loop_ok (live := [1, 7]) (outs := [1, 7]) (rets := []) (ks := [.v false [.str], .v false [.int .i64]]) (G := lgr1_typed_0) (lkr1_typed_0) (lmr1_typed_0) (by kernel_rfl) ?_
  rintro ⟨⟨(rest : List UInt8), _⟩, ⟨(n : Int), _⟩, _⟩ x hok hx
  refine Leads.of_eq (ltr1_typed_0 rest n) ?_
  obtain ⟨h0, h1, h2⟩ := hok
  obtain ⟨m, rfl⟩ := Int.eq_ofNat_of_zero_le h0
  obtain rfl := Out_leaf hx
  simp only [Int.toNat_natCast]
  rcases drop_cases rest m with ⟨hle, hd⟩ | ⟨b, hlt, hd, hb⟩
  · refine Leads.brD (fun q => by omega) (fun _ => Leads.one (Goes.out ?_))
    rw [hd]; simp [lowRun]
  · rw [byteAt_u hb, wrap64 (by omega) (by omega), hd]
    refine Leads.brD (fun _ => Leads.chk (by omega) fun _ => Leads.br (fun q => Leads.one ?_) (fun q => Leads.one (Goes.out ?_))) (fun q => by omega)
    · have q : lowI (u b) = true := q
      refine Goes.again (ks := [.v false [.str], .v false [.int .i64]]) ((_, ()), (_, ()), ()) rfl ?_ ?_ ?_
      · exact ⟨by omega, by omega, h2⟩
      · simp only [lmr1_typed_0]; omega
      · simp only [lgr1_typed_0, toNat_add1, lowRun, q, if_true, List.length_cons]
        show _ = _
        rw [show (m : Int) + 1 + ((lowRun (rest.drop (m + 1))).length : Int) = (m : Int) + (((lowRun (rest.drop (m + 1))).length + 1 : Nat) : Int) by omega]
    · have q : lowI (u b) = false := q
      simp [lowRun, q]
theorem tr1_typed (t : RowE tmS) (rest : List UInt8) : evF T (En (Er1_unescaped)) (Ln (Lr1_typed)) Try.f76 [.agg (rowD tmS t), .d (.str rest)] =
    br (decide ((↑rest.length : Int) > (3 : Int)))
  (chk ((0 : Int) ≤ (0 : Int) ∧ (0 : Int) < (↑rest.length : Int))
    (br (byteAt rest (0 : Int) == (94 : Int))
      (chk ((0 : Int) ≤ (1 : Int) ∧ (1 : Int) < (↑rest.length : Int))
        (br (byteAt rest (1 : Int) == (94 : Int)) (chk ((0 : Int) ≤ (2 : Int) ∧ (2 : Int) < (↑rest.length : Int)) (br (byteAt rest (2 : Int) == (60 : Int)) (chk (rest.length ≤ (1152921504606846976 : Nat) ∧ (0 : Int) ≤ (62 : Int) ∧ (62 : Int) < (256 : Int)) (br (decide (Lib.indexByte rest (Int.toNat (62 : Int)).toUInt8 > (0 : Int))) (chk ((0 : Int) ≤ (3 : Int) ∧ (3 : Int) ≤ Lib.indexByte rest (Int.toNat (62 : Int)).toUInt8 ∧ Lib.indexByte rest (Int.toNat (62 : Int)).toUInt8 ≤ (↑rest.length : Int)) (chk ((List.drop (Int.toNat (3 : Int)) (List.take (Lib.indexByte rest (Int.toNat (62 : Int)).toUInt8).toNat rest)).length ≤ Big) (br (isIri (List.drop (Int.toNat (3 : Int)) (List.take (Lib.indexByte rest (Int.toNat (62 : Int)).toUInt8).toNat rest))) (chk ((0 : Int) ≤ (3 : Int) ∧ (3 : Int) ≤ Lib.indexByte rest (Int.toNat (62 : Int)).toUInt8 ∧ Lib.indexByte rest (Int.toNat (62 : Int)).toUInt8 ≤ (↑rest.length : Int)) (some (SV.val (AV.tup [AV.agg [D.int IntKind.i64 (2 : Int), D.str t.snd.fst, D.str (List.drop (Int.toNat (3 : Int)) (List.take (Lib.indexByte rest (Int.toNat (62 : Int)).toUInt8).toNat rest)), D.str (CE.dflt Sh.str)], AV.d (D.int IntKind.i64 (IntKind.i64.wrap (Lib.indexByte rest (Int.toNat (62 : Int)).toUInt8 + (1 : Int))))])))) (some (SV.val (AV.tup [AV.agg [D.int IntKind.i64 t.fst, D.str t.snd.fst, D.str t.snd.snd.fst, D.str t.snd.snd.snd.fst], AV.d (D.int IntKind.i64 (0 : Int))])))))) (some (SV.val (AV.tup [AV.agg [D.int IntKind.i64 t.fst, D.str t.snd.fst, D.str t.snd.snd.fst, D.str t.snd.snd.snd.fst], AV.d (D.int IntKind.i64 (0 : Int))]))))) (br (decide ((↑rest.length : Int) > (0 : Int))) (chk ((0 : Int) ≤ (0 : Int) ∧ (0 : Int) < (↑rest.length : Int)) (br (byteAt rest (0 : Int) == (64 : Int)) (chk (lkr1_typed_0 ((rest, ()), ((1 : Int), ()), ())) (chk ((0 : Int) ≤ (1 : Int) ∧ (1 : Int) ≤ (1 : Int) + (↑(List.length (lowRun (List.drop (Int.toNat (1 : Int)) rest))) : Int) ∧ (1 : Int) + (↑(List.length (lowRun (List.drop (Int.toNat (1 : Int)) rest))) : Int) ≤ (↑rest.length : Int)) (chk ((List.drop (Int.toNat (1 : Int)) (List.take ((1 : Int) + (↑(List.length (lowRun (List.drop (Int.toNat (1 : Int)) rest))) : Int)).toNat rest)).length ≤ Big) (br (isLang (List.drop (Int.toNat (1 : Int)) (List.take ((1 : Int) + (↑(List.length (lowRun (List.drop (Int.toNat (1 : Int)) rest))) : Int)).toNat rest))) (chk ((0 : Int) ≤ (1 : Int) ∧ (1 : Int) ≤ (1 : Int) + (↑(List.length (lowRun (List.drop (Int.toNat (1 : Int)) rest))) : Int) ∧ (1 : Int) + (↑(List.length (lowRun (List.drop (Int.toNat (1 : Int)) rest))) : Int) ≤ (↑rest.length : Int)) (some (SV.val (AV.tup [AV.agg [D.int IntKind.i64 (2 : Int), D.str t.snd.fst, D.str (CE.dflt Sh.str), D.str (List.drop (Int.toNat (1 : Int)) (List.take ((1 : Int) + (↑(List.length (lowRun (List.drop (Int.toNat (1 : Int)) rest))) : Int)).toNat rest))], AV.d (D.int IntKind.i64 ((1 : Int) + (↑(List.length (lowRun (List.drop (Int.toNat (1 : Int)) rest))) : Int)))])))) (some (SV.val (AV.tup [AV.agg [D.int IntKind.i64 t.fst, D.str t.snd.fst, D.str t.snd.snd.fst, D.str t.snd.snd.snd.fst], AV.d (D.int IntKind.i64 (0 : Int))]))))))) (some (SV.val (AV.tup [AV.agg [D.int IntKind.i64 t.fst, D.str t.snd.fst, D.str t.snd.snd.fst, D.str t.snd.snd.snd.fst], AV.d (D.int IntKind.i64 (0 : Int))]))))) (some (SV.val (AV.tup [AV.agg [D.int IntKind.i64 t.fst, D.str t.snd.fst, D.str t.snd.snd.fst, D.str t.snd.snd.snd.fst], AV.d (D.int IntKind.i64 (0 : Int))]))))))
          (br (decide ((↑rest.length : Int) > (0 : Int))) (chk ((0 : Int) ≤ (0 : Int) ∧ (0 : Int) < (↑rest.length : Int)) (br (byteAt rest (0 : Int) == (64 : Int)) (chk (lkr1_typed_0 ((rest, ()), ((1 : Int), ()), ())) (chk ((0 : Int) ≤ (1 : Int) ∧ (1 : Int) ≤ (1 : Int) + (↑(List.length (lowRun (List.drop (Int.toNat (1 : Int)) rest))) : Int) ∧ (1 : Int) + (↑(List.length (lowRun (List.drop (Int.toNat (1 : Int)) rest))) : Int) ≤ (↑rest.length : Int)) (chk ((List.drop (Int.toNat (1 : Int)) (List.take ((1 : Int) + (↑(List.length (lowRun (List.drop (Int.toNat (1 : Int)) rest))) : Int)).toNat rest)).length ≤ Big) (br (isLang (List.drop (Int.toNat (1 : Int)) (List.take ((1 : Int) + (↑(List.length (lowRun (List.drop (Int.toNat (1 : Int)) rest))) : Int)).toNat rest))) (chk ((0 : Int) ≤ (1 : Int) ∧ (1 : Int) ≤ (1 : Int) + (↑(List.length (lowRun (List.drop (Int.toNat (1 : Int)) rest))) : Int) ∧ (1 : Int) + (↑(List.length (lowRun (List.drop (Int.toNat (1 : Int)) rest))) : Int) ≤ (↑rest.length : Int)) (some (SV.val (AV.tup [AV.agg [D.int IntKind.i64 (2 : Int), D.str t.snd.fst, D.str (CE.dflt Sh.str), D.str (List.drop (Int.toNat (1 : Int)) (List.take ((1 : Int) + (↑(List.length (lowRun (List.drop (Int.toNat (1 : Int)) rest))) : Int)).toNat rest))], AV.d (D.int IntKind.i64 ((1 : Int) + (↑(List.length (lowRun (List.drop (Int.toNat (1 : Int)) rest))) : Int)))])))) (some (SV.val (AV.tup [AV.agg [D.int IntKind.i64 t.fst, D.str t.snd.fst, D.str t.snd.snd.fst, D.str t.snd.snd.snd.fst], AV.d (D.int IntKind.i64 (0 : Int))]))))))) (some (SV.val (AV.tup [AV.agg [D.int IntKind.i64 t.fst, D.str t.snd.fst, D.str t.snd.snd.fst, D.str t.snd.snd.snd.fst], AV.d (D.int IntKind.i64 (0 : Int))]))))) (some (SV.val (AV.tup [AV.agg [D.int IntKind.i64 t.fst, D.str t.snd.fst, D.str t.snd.snd.fst, D.str t.snd.snd.snd.fst], AV.d (D.int IntKind.i64 (0 : Int))]))))))
      (br (decide ((↑rest.length : Int) > (0 : Int))) (chk ((0 : Int) ≤ (0 : Int) ∧ (0 : Int) < (↑rest.length : Int)) (br (byteAt rest (0 : Int) == (64 : Int)) (chk (lkr1_typed_0 ((rest, ()), ((1 : Int), ()), ())) (chk ((0 : Int) ≤ (1 : Int) ∧ (1 : Int) ≤ (1 : Int) + (↑(List.length (lowRun (List.drop (Int.toNat (1 : Int)) rest))) : Int) ∧ (1 : Int) + (↑(List.length (lowRun (List.drop (Int.toNat (1 : Int)) rest))) : Int) ≤ (↑rest.length : Int)) (chk ((List.drop (Int.toNat (1 : Int)) (List.take ((1 : Int) + (↑(List.length (lowRun (List.drop (Int.toNat (1 : Int)) rest))) : Int)).toNat rest)).length ≤ Big) (br (isLang (List.drop (Int.toNat (1 : Int)) (List.take ((1 : Int) + (↑(List.length (lowRun (List.drop (Int.toNat (1 : Int)) rest))) : Int)).toNat rest))) (chk ((0 : Int) ≤ (1 : Int) ∧ (1 : Int) ≤ (1 : Int) + (↑(List.length (lowRun (List.drop (Int.toNat (1 : Int)) rest))) : Int) ∧ (1 : Int) + (↑(List.length (lowRun (List.drop (Int.toNat (1 : Int)) rest))) : Int) ≤ (↑rest.length : Int)) (some (SV.val (AV.tup [AV.agg [D.int IntKind.i64 (2 : Int), D.str t.snd.fst, D.str (CE.dflt Sh.str), D.str (List.drop (Int.toNat (1 : Int)) (List.take ((1 : Int) + (↑(List.length (lowRun (List.drop (Int.toNat (1 : Int)) rest))) : Int)).toNat rest))], AV.d (D.int IntKind.i64 ((1 : Int) + (↑(List.length (lowRun (List.drop (Int.toNat (1 : Int)) rest))) : Int)))])))) (some (SV.val (AV.tup [AV.agg [D.int IntKind.i64 t.fst, D.str t.snd.fst, D.str t.snd.snd.fst, D.str t.snd.snd.snd.fst], AV.d (D.int IntKind.i64 (0 : Int))]))))))) (some (SV.val (AV.tup [AV.agg [D.int IntKind.i64 t.fst, D.str t.snd.fst, D.str t.snd.snd.fst, D.str t.snd.snd.snd.fst], AV.d (D.int IntKind.i64 (0 : Int))]))))) (some (SV.val (AV.tup [AV.agg [D.int IntKind.i64 t.fst, D.str t.snd.fst, D.str t.snd.snd.fst, D.str t.snd.snd.snd.fst], AV.d (D.int IntKind.i64 (0 : Int))]))))))
  (br (decide ((↑rest.length : Int) > (0 : Int))) (chk ((0 : Int) ≤ (0 : Int) ∧ (0 : Int) < (↑rest.length : Int)) (br (byteAt rest (0 : Int) == (64 : Int)) (chk (lkr1_typed_0 ((rest, ()), ((1 : Int), ()), ())) (chk ((0 : Int) ≤ (1 : Int) ∧ (1 : Int) ≤ (1 : Int) + (↑(List.length (lowRun (List.drop (Int.toNat (1 : Int)) rest))) : Int) ∧ (1 : Int) + (↑(List.length (lowRun (List.drop (Int.toNat (1 : Int)) rest))) : Int) ≤ (↑rest.length : Int)) (chk ((List.drop (Int.toNat (1 : Int)) (List.take ((1 : Int) + (↑(List.length (lowRun (List.drop (Int.toNat (1 : Int)) rest))) : Int)).toNat rest)).length ≤ Big) (br (isLang (List.drop (Int.toNat (1 : Int)) (List.take ((1 : Int) + (↑(List.length (lowRun (List.drop (Int.toNat (1 : Int)) rest))) : Int)).toNat rest))) (chk ((0 : Int) ≤ (1 : Int) ∧ (1 : Int) ≤ (1 : Int) + (↑(List.length (lowRun (List.drop (Int.toNat (1 : Int)) rest))) : Int) ∧ (1 : Int) + (↑(List.length (lowRun (List.drop (Int.toNat (1 : Int)) rest))) : Int) ≤ (↑rest.length : Int)) (some (SV.val (AV.tup [AV.agg [D.int IntKind.i64 (2 : Int), D.str t.snd.fst, D.str (CE.dflt Sh.str), D.str (List.drop (Int.toNat (1 : Int)) (List.take ((1 : Int) + (↑(List.length (lowRun (List.drop (Int.toNat (1 : Int)) rest))) : Int)).toNat rest))], AV.d (D.int IntKind.i64 ((1 : Int) + (↑(List.length (lowRun (List.drop (Int.toNat (1 : Int)) rest))) : Int)))])))) (some (SV.val (AV.tup [AV.agg [D.int IntKind.i64 t.fst, D.str t.snd.fst, D.str t.snd.snd.fst, D.str t.snd.snd.snd.fst], AV.d (D.int IntKind.i64 (0 : Int))]))))))) (some (SV.val (AV.tup [AV.agg [D.int IntKind.i64 t.fst, D.str t.snd.fst, D.str t.snd.snd.fst, D.str t.snd.snd.snd.fst], AV.d (D.int IntKind.i64 (0 : Int))]))))) (some (SV.val (AV.tup [AV.agg [D.int IntKind.i64 t.fst, D.str t.snd.fst, D.str t.snd.snd.fst, D.str t.snd.snd.snd.fst], AV.d (D.int IntKind.i64 (0 : Int))])))) := by kernel_rfl
theorem satr1_typed : Sat P 76 (Sr1_typed) := by
  refine sat_mk (LT := Ln (Lr1_typed)) hC okr1_unescaped mixed Try.func76 (by kernel_rfl) (c := bodyOf Try.f76) (by kernel_rfl) (by kernel_rfl) ?_ (loops1 (by kernel_rfl) (lokr1_typed_0))
  rintro ⟨(t : RowE tmS), ⟨(rest : List UInt8), _⟩, _⟩ sv h
  refine Leads.eq (Leads.of_eq (tr1_typed t rest) ?_)
  obtain ⟨⟨hs, ht1, ht2, ht3⟩, h⟩ := h
  obtain ⟨tk, ta, tt, tl, _⟩ := t
  simp only at ht1 ht2 ht3 h ⊢
  subst ht1 ht2 ht3
  have h := Out_leaf h
  let t : RowE tmS := (2, ta, [], [], ())
  have tail : ¬ rest.take 3 = [94, 94, 60] → Leads (R := SV) ((br (decide ((↑rest.length : Int) > (0 : Int))) (chk ((0 : Int) ≤ (0 : Int) ∧ (0 : Int) < (↑rest.length : Int)) (br (byteAt rest (0 : Int) == (64 : Int)) (chk (lkr1_typed_0 ((rest, ()), ((1 : Int), ()), ())) (chk ((0 : Int) ≤ (1 : Int) ∧ (1 : Int) ≤ (1 : Int) + (↑(List.length (lowRun (List.drop (Int.toNat (1 : Int)) rest))) : Int) ∧ (1 : Int) + (↑(List.length (lowRun (List.drop (Int.toNat (1 : Int)) rest))) : Int) ≤ (↑rest.length : Int)) (chk ((List.drop (Int.toNat (1 : Int)) (List.take ((1 : Int) + (↑(List.length (lowRun (List.drop (Int.toNat (1 : Int)) rest))) : Int)).toNat rest)).length ≤ Big) (br (isLang (List.drop (Int.toNat (1 : Int)) (List.take ((1 : Int) + (↑(List.length (lowRun (List.drop (Int.toNat (1 : Int)) rest))) : Int)).toNat rest))) (chk ((0 : Int) ≤ (1 : Int) ∧ (1 : Int) ≤ (1 : Int) + (↑(List.length (lowRun (List.drop (Int.toNat (1 : Int)) rest))) : Int) ∧ (1 : Int) + (↑(List.length (lowRun (List.drop (Int.toNat (1 : Int)) rest))) : Int) ≤ (↑rest.length : Int)) (some (SV.val (AV.tup [AV.agg [D.int IntKind.i64 (2 : Int), D.str t.snd.fst, D.str (CE.dflt Sh.str), D.str (List.drop (Int.toNat (1 : Int)) (List.take ((1 : Int) + (↑(List.length (lowRun (List.drop (Int.toNat (1 : Int)) rest))) : Int)).toNat rest))], AV.d (D.int IntKind.i64 ((1 : Int) + (↑(List.length (lowRun (List.drop (Int.toNat (1 : Int)) rest))) : Int)))])))) (some (SV.val (AV.tup [AV.agg [D.int IntKind.i64 t.fst, D.str t.snd.fst, D.str t.snd.snd.fst, D.str t.snd.snd.snd.fst], AV.d (D.int IntKind.i64 (0 : Int))]))))))) (some (SV.val (AV.tup [AV.agg [D.int IntKind.i64 t.fst, D.str t.snd.fst, D.str t.snd.snd.fst, D.str t.snd.snd.snd.fst], AV.d (D.int IntKind.i64 (0 : Int))]))))) (some (SV.val (AV.tup [AV.agg [D.int IntKind.i64 t.fst, D.str t.snd.fst, D.str t.snd.snd.fst, D.str t.snd.snd.snd.fst], AV.d (D.int IntKind.i64 (0 : Int))]))))) (fun z => z = sv) := by
    intro hn
    rw [h, behind_other ta rest hn]
    cases rest with
    | nil => exact Leads.brD (fun q => by simp at q) (fun _ => Leads.one (by simp [t]))
    | cons b r =>
      have hb : byteAt (b :: r) 0 = u b := rfl
      have hl := lowRun_len r
      have ht := lowRun_take r
      have e1 : (b :: r).drop (Int.toNat 1) = r := rfl
      have e2 : ((b :: r).take (1 + ((lowRun r).length : Int)).toNat).drop (Int.toNat 1) = lowRun r := by
        rw [show (1 + ((lowRun r).length : Int)).toNat = (lowRun r).length + 1 by omega, List.take_succ_cons]
        exact ht
      have hlen : ((b :: r).length : Int) = (r.length : Int) + 1 := by simp
      rw [hb, e1, e2]
      have hs' : r.length + 1 ≤ 1152921504606846976 := hs
      refine Leads.brD (fun _ => Leads.chk (by omega) fun _ => Leads.brE (fun q => Leads.chk ⟨by omega, by omega, hs⟩ fun _ => Leads.chk (by omega) fun _ => Leads.chk (by rw [Big_eq]; omega) fun _ => Leads.br (fun z => Leads.chk (by omega) fun _ => Leads.one ?_) (fun z => Leads.one ?_)) (fun q => Leads.one ?_)) (fun q => by omega)
      · obtain rfl : b = 64 := u_inj q
        simp [z, t, CE.dflt]
      · obtain rfl : b = 64 := u_inj q
        simp [z, t, CE.dflt]
      · have : ¬ b = 64 := by rintro rfl; exact q rfl
        simp [this, t]
  have e62 : (Int.toNat 62).toUInt8 = 62 := rfl
  by_cases hn : rest.take 3 = [94, 94, 60]
  · match rest, hn, hs, h, tail with
    | b :: c :: d :: r, hn, hs, h, tail =>
      simp at hn
      obtain ⟨rfl, rfl, rfl⟩ := hn
      have hg := Lib.indexByte_ge (94 :: 94 :: 60 :: r) 62
      have hle := indexByte_le (94 :: 94 :: 60 :: r) 62
      have hlen : ((94 :: 94 :: 60 :: r).length : Int) = (r.length : Int) + 3 := by simp; omega
      have hi3 : 0 < Lib.indexByte (94 :: 94 :: 60 :: r) 62 → 3 ≤ Lib.indexByte (94 :: 94 :: 60 :: r) 62 := by
        rw [indexByte_skip (by decide), indexByte_skip (by decide), indexByte_skip (by decide)]
        have := Lib.indexByte_ge r 62
        by_cases q : Lib.indexByte r 62 = -1
        · simp [q]
        · rw [if_neg q, if_neg (by omega), if_neg (by omega)]; omega
      rw [behind_iri] at h
      have hs' : r.length + 3 ≤ 1152921504606846976 := hs
      have last : (r.length : Int) ≤ 0 → ¬ 0 < Lib.indexByte (94 :: 94 :: 60 :: r) 62 := by
        intro q
        cases r with
        | nil => decide
        | cons _ _ => simp at q; omega
      refine Leads.brD (fun _ => Leads.chk (by omega) fun _ => Leads.brE (fun _ => Leads.chk (by omega) fun _ => Leads.brE (fun _ => Leads.chk (by omega) fun _ => Leads.brE (fun _ => Leads.chk ⟨hs, by decide, by decide⟩ fun _ => ?_) (fun q => absurd rfl q)) (fun q => absurd rfl q)) (fun q => absurd rfl q)) (fun q => ?_)
      · rw [e62]
        refine Leads.brD (fun q => Leads.chk ⟨by omega, hi3 (by omega), by omega⟩ fun _ => Leads.chk (by rw [Big_eq, List.length_drop, List.length_take]; omega) fun _ => Leads.br (fun z => Leads.chk ⟨by omega, hi3 (by omega), by omega⟩ fun _ => Leads.one ?_) (fun z => Leads.one ?_)) (fun q => Leads.one ?_)
        · rw [h, if_pos ⟨by omega, z⟩, wrap64 (by omega) (by omega)]; rfl
        · rw [h, if_neg (fun w => by have := w.2; rw [show Int.toNat 3 = 3 from rfl] at z; rw [this] at z; cases z)]
        · rw [h, if_neg (fun w => q w.1)]
      · have hr : (r.length : Int) ≤ 0 := by omega
        rw [if_neg (fun w => last hr w.1)] at h
        have hbb : byteAt (94 :: 94 :: 60 :: r) 0 = 94 := rfl
        rw [hbb]
        exact Leads.brD (fun _ => Leads.chk (by omega) fun _ => Leads.brE (fun q => by omega) (fun _ => Leads.one (by rw [h]))) (fun q => by omega)
    | [], hn, _, _, _ => simp at hn
    | [_], hn, _, _, _ => simp at hn
    | [_, _], hn, _, _, _ => simp at hn
  · have tl := tail hn
    refine Leads.brD (fun hl => Leads.chk (by omega) fun _ => Leads.brE (fun q0 => Leads.chk (by omega) fun _ => Leads.brE (fun q1 => Leads.chk (by omega) fun _ => Leads.brE (fun q2 => ?_) (fun _ => tl)) (fun _ => tl)) (fun _ => tl)) (fun _ => tl)
    exfalso
    apply hn
    match rest, hl, q0, q1, q2 with
    | b :: c :: d :: r, _, q0, q1, q2 =>
      have q0 : u b = 94 := q0
      have q1 : u c = 94 := q1
      have q2 : u d = 60 := q2
      rw [show b = 94 from u_inj q0, show c = 94 from u_inj q1, show d = 60 from u_inj q2]; rfl
    | [], hl, _, _, _ => simp at hl
    | [_], hl, _, _, _ => simp at hl
    | [_, _], hl, _, _, _ => simp at hl
def Er1_typed : Es := (76, Sr1_typed) :: Er1_unescaped
theorem okr1_typed : SatE P (En (Er1_typed)) := SatE.cons (satr1_typed) okr1_unescaped
/-! ### legation/legationref01.literal -/
def Lr1_literal : Ls := []
def Sr1_literal := mkS [(false, [.str])] fun ⟨⟨(s : List UInt8), _⟩, _⟩ => .chk (s.length ≤ 1152921504606846976 ∧ 0 < s.length) (pref (literalS s))
theorem tr1_literal (s : List UInt8) : evF T (En (Er1_typed)) (Ln (Lr1_literal)) Try.f68 [.d (.str s)] =
    chk (s.length ≤ (1152921504606846976 : Nat)) (brP (run (List.drop (1 : Nat) s) < (List.drop (1 : Nat) s).length) (chk ((0 : Int) ≤ (1 : Int) ∧ (1 : Int) ≤ (1 : Int) + (↑(run (List.drop (1 : Nat) s)) : Int) ∧ (1 : Int) + (↑(run (List.drop (1 : Nat) s)) : Int) ≤ (↑s.length : Int)) (chk ((List.drop (Int.toNat (1 : Int)) (List.take ((1 : Int) + (↑(run (List.drop (1 : Nat) s)) : Int)).toNat s)).length ≤ (1152921504606846976 : Nat)) (br (unescS (List.drop (Int.toNat (1 : Int)) (List.take ((1 : Int) + (↑(run (List.drop (1 : Nat) s)) : Int)).toNat s))).isSome (br (decide ((↑(List.length ((unescS (List.drop (Int.toNat (1 : Int)) (List.take ((1 : Int) + (↑(run (List.drop (1 : Nat) s)) : Int)).toNat s))).getD [])) : Int) > (4096 : Int))) (some (SV.val (AV.tup [AV.agg [D.int IntKind.i64 (CE.dflt (Sh.int IntKind.i64)), D.str (CE.dflt Sh.str), D.str (CE.dflt Sh.str), D.str (CE.dflt Sh.str)], AV.d (D.int IntKind.i64 (0 : Int))]))) (chk (List.length ((unescS (List.drop (Int.toNat (1 : Int)) (List.take ((1 : Int) + (↑(run (List.drop (1 : Nat) s)) : Int)).toNat s))).getD []) ≤ Big) (br (!allI (kindI (2 : Int)) ((unescS (List.drop (Int.toNat (1 : Int)) (List.take ((1 : Int) + (↑(run (List.drop (1 : Nat) s)) : Int)).toNat s))).getD [])) (some (SV.val (AV.tup [AV.agg [D.int IntKind.i64 (CE.dflt (Sh.int IntKind.i64)), D.str (CE.dflt Sh.str), D.str (CE.dflt Sh.str), D.str (CE.dflt Sh.str)], AV.d (D.int IntKind.i64 (0 : Int))]))) (chk ((0 : Int) ≤ IntKind.i64.wrap ((1 : Int) + (↑(run (List.drop (1 : Nat) s)) : Int) + (1 : Int)) ∧ IntKind.i64.wrap ((1 : Int) + (↑(run (List.drop (1 : Nat) s)) : Int) + (1 : Int)) ≤ (↑s.length : Int)) (chk ((List.drop (IntKind.i64.wrap ((1 : Int) + (↑(run (List.drop (1 : Nat) s)) : Int) + (1 : Int))).toNat s).length ≤ (1152921504606846976 : Nat) ∧ (2 : Int) = (2 : CE (Sh.int IntKind.i64)) ∧ CE.dflt Sh.str = [] ∧ CE.dflt Sh.str = []) (some (SV.val (AV.tup [AV.agg [D.int IntKind.i64 (behindS (2 : Int) ((unescS (List.drop (Int.toNat (1 : Int)) (List.take ((1 : Int) + (↑(run (List.drop (1 : Nat) s)) : Int)).toNat s))).getD []) [] [] (List.drop (IntKind.i64.wrap ((1 : Int) + (↑(run (List.drop (1 : Nat) s)) : Int) + (1 : Int))).toNat s) (0 : Nat)).fst, D.str (behindS (2 : Int) ((unescS (List.drop (Int.toNat (1 : Int)) (List.take ((1 : Int) + (↑(run (List.drop (1 : Nat) s)) : Int)).toNat s))).getD []) [] [] (List.drop (IntKind.i64.wrap ((1 : Int) + (↑(run (List.drop (1 : Nat) s)) : Int) + (1 : Int))).toNat s) (0 : Nat)).snd.fst, D.str (behindS (2 : Int) ((unescS (List.drop (Int.toNat (1 : Int)) (List.take ((1 : Int) + (↑(run (List.drop (1 : Nat) s)) : Int)).toNat s))).getD []) [] [] (List.drop (IntKind.i64.wrap ((1 : Int) + (↑(run (List.drop (1 : Nat) s)) : Int) + (1 : Int))).toNat s) (0 : Nat)).snd.snd.fst, D.str (behindS (2 : Int) ((unescS (List.drop (Int.toNat (1 : Int)) (List.take ((1 : Int) + (↑(run (List.drop (1 : Nat) s)) : Int)).toNat s))).getD []) [] [] (List.drop (IntKind.i64.wrap ((1 : Int) + (↑(run (List.drop (1 : Nat) s)) : Int) + (1 : Int))).toNat s) (0 : Nat)).snd.snd.snd.fst], AV.d (D.int IntKind.i64 (IntKind.i64.wrap (IntKind.i64.wrap ((1 : Int) + (↑(run (List.drop (1 : Nat) s)) : Int) + (1 : Int)) + (behindS (2 : Int) ((unescS (List.drop (Int.toNat (1 : Int)) (List.take ((1 : Int) + (↑(run (List.drop (1 : Nat) s)) : Int)).toNat s))).getD []) [] [] (List.drop (IntKind.i64.wrap ((1 : Int) + (↑(run (List.drop (1 : Nat) s)) : Int) + (1 : Int))).toNat s) (0 : Nat)).snd.snd.snd.snd)))])))))))) (some (SV.val (AV.tup [AV.agg [D.int IntKind.i64 (CE.dflt (Sh.int IntKind.i64)), D.str (CE.dflt Sh.str), D.str (CE.dflt Sh.str), D.str (CE.dflt Sh.str)], AV.d (D.int IntKind.i64 (0 : Int))])))))) (some (SV.val (AV.tup [AV.agg [D.int IntKind.i64 (CE.dflt (Sh.int IntKind.i64)), D.str (CE.dflt Sh.str), D.str (CE.dflt Sh.str), D.str (CE.dflt Sh.str)], AV.d (D.int IntKind.i64 (0 : Int))])))) := by kernel_rfl
theorem satr1_literal : Sat P 68 (Sr1_literal) := by
  refine sat_mk (LT := Ln (Lr1_literal)) hC okr1_typed mixed Try.func68 (by kernel_rfl) (c := bodyOf Try.f68) (by kernel_rfl) (by kernel_rfl) ?_ (loops0 (by kernel_rfl))
  rintro ⟨⟨(s : List UInt8), _⟩, _⟩ sv h
  refine Leads.eq (Leads.of_eq (tr1_literal s) ?_)
  obtain ⟨⟨hs, hp⟩, h⟩ := h
  have h := Out_leaf h
  cases s with
  | nil => simp at hp
  | cons b r =>
    rw [literalS_eq] at h
    have hrl := run_le r
    have hlen : ((b :: r).length : Int) = (r.length : Int) + 1 := by simp
    have hs' : r.length + 1 ≤ 1152921504606846976 := hs
    have e0 : List.drop 1 (b :: r) = r := rfl
    rw [e0]
    refine Leads.chk hs fun _ => Leads.brP (fun q => ?_) (fun q => Leads.one (by rw [h, if_neg q]; rfl))
    have e1 : ((1 : Int) + ((run r : Nat) : Int)).toNat = run r + 1 := by omega
    have e2 : ((b :: r).take (run r + 1)).drop (Int.toNat 1) = r.take (run r) := rfl
    have e3 : (1 : Int) + ((run r : Nat) : Int) + 1 = ((run r + 2 : Nat) : Int) := by omega
    rw [e1, e2, e3, wrap64 (by omega) (by omega), Int.toNat_natCast]
    rw [if_pos q] at h
    refine Leads.chk (by omega) fun _ => Leads.chk (by rw [List.length_take]; omega) fun _ => ?_
    cases hu : unescS (r.take (run r)) with
    | none =>
      rw [hu] at h
      exact Leads.br (fun q => by cases q) (fun _ => Leads.one (by rw [h]; rfl))
    | some o =>
      rw [hu] at h
      dsimp only at h
      simp only [Option.getD_some, Option.isSome_some]
      have hb := behindS_shift 2 o [] [] (b :: r) (run r + 2)
      have hle := behindS_le 2 o [] [] ((b :: r).drop (run r + 2)) 0 (Nat.zero_le _)
      rw [List.length_drop] at hle
      have hit : isText o = (decide (o.length ≤ 4096) && allI textI o) := rfl
      rw [kindI2]
      refine Leads.br (fun _ => Leads.brD (fun q1 => Leads.one ?_) (fun q1 => Leads.chk (by rw [Big_eq]; omega) fun _ => Leads.br (fun q2 => Leads.one ?_) (fun q2 => ?_))) (fun q => by cases q)
      · rw [if_neg (by rw [hit, decide_eq_false (by omega)]; simp)] at h
        rw [h]; rfl
      · rw [if_neg (by rw [hit]; simp at q2; simp [q2])] at h
        rw [h]; rfl
      · rw [if_pos (by rw [hit]; simp at q2; simp [q2]; omega)] at h
        refine Leads.chk (by omega) fun _ => Leads.chk ⟨by rw [List.length_drop]; omega, by simp [CE.dflt]⟩ fun _ => Leads.one ?_
        rw [wrap64 (by omega) (by omega), h, hb]
        simp only
        rw [Int.add_comm]
def Er1_literal : Es := (68, Sr1_literal) :: Er1_typed
theorem okr1_literal : SatE P (En (Er1_literal)) := SatE.cons (satr1_literal) okr1_typed
/-! ### legation/legationref01.Prefix -/
def Lr1_Prefix : Ls := []
def Sr1_Prefix := mkS [(false, [.str])] fun ⟨⟨(s : List UInt8), _⟩, _⟩ => .chk (s.length ≤ 1152921504606846976) (pref (prefixS s))
theorem tr1_Prefix (s : List UInt8) : evF T (En (Er1_literal)) (Ln (Lr1_Prefix)) Try.f57 [.d (.str s)] =
    br (decide ((↑s.length : Int) < (2 : Int))) (some (SV.val (AV.tup [AV.agg [D.int IntKind.i64 (CE.dflt (Sh.int IntKind.i64)), D.str (CE.dflt Sh.str), D.str (CE.dflt Sh.str), D.str (CE.dflt Sh.str)], AV.d (D.int IntKind.i64 (0 : Int))])))
  (chk ((0 : Int) ≤ (0 : Int) ∧ (0 : Int) < (↑s.length : Int))
    (br (byteAt s (0 : Int) == (60 : Int)) (chk (s.length ≤ (1152921504606846976 : Nat) ∧ (0 : Int) ≤ (62 : Int) ∧ (62 : Int) < (256 : Int)) (br (decide (Lib.indexByte s (Int.toNat (62 : Int)).toUInt8 > (0 : Int))) (chk ((0 : Int) ≤ (1 : Int) ∧ (1 : Int) ≤ Lib.indexByte s (Int.toNat (62 : Int)).toUInt8 ∧ Lib.indexByte s (Int.toNat (62 : Int)).toUInt8 ≤ (↑s.length : Int)) (chk ((List.drop (Int.toNat (1 : Int)) (List.take (Lib.indexByte s (Int.toNat (62 : Int)).toUInt8).toNat s)).length ≤ Big) (br (isIri (List.drop (Int.toNat (1 : Int)) (List.take (Lib.indexByte s (Int.toNat (62 : Int)).toUInt8).toNat s))) (chk ((0 : Int) ≤ (1 : Int) ∧ (1 : Int) ≤ Lib.indexByte s (Int.toNat (62 : Int)).toUInt8 ∧ Lib.indexByte s (Int.toNat (62 : Int)).toUInt8 ≤ (↑s.length : Int)) (some (SV.val (AV.tup [AV.agg [D.int IntKind.i64 (1 : Int), D.str (List.drop (Int.toNat (1 : Int)) (List.take (Lib.indexByte s (Int.toNat (62 : Int)).toUInt8).toNat s)), D.str (CE.dflt Sh.str), D.str (CE.dflt Sh.str)], AV.d (D.int IntKind.i64 (IntKind.i64.wrap (Lib.indexByte s (Int.toNat (62 : Int)).toUInt8 + (1 : Int))))])))) (some (SV.val (AV.tup [AV.agg [D.int IntKind.i64 (CE.dflt (Sh.int IntKind.i64)), D.str (CE.dflt Sh.str), D.str (CE.dflt Sh.str), D.str (CE.dflt Sh.str)], AV.d (D.int IntKind.i64 (0 : Int))])))))) (some (SV.val (AV.tup [AV.agg [D.int IntKind.i64 (CE.dflt (Sh.int IntKind.i64)), D.str (CE.dflt Sh.str), D.str (CE.dflt Sh.str), D.str (CE.dflt Sh.str)], AV.d (D.int IntKind.i64 (0 : Int))])))))
      (br (byteAt s (0 : Int) == (34 : Int)) (chk (s.length ≤ (1152921504606846976 : Nat) ∧ (0 : Nat) < s.length) (some (SV.val (AV.tup [AV.agg [D.int IntKind.i64 (literalS s).fst, D.str (literalS s).snd.fst, D.str (literalS s).snd.snd.fst, D.str (literalS s).snd.snd.snd.fst], AV.d (D.int IntKind.i64 (literalS s).snd.snd.snd.snd)])))) (br (byteAt s (0 : Int) == (63 : Int)) (chk ((0 : Int) ≤ (1 : Int) ∧ (1 : Int) ≤ (↑s.length : Int)) (chk ((List.drop (Int.toNat (1 : Int)) s).length ≤ (1152921504606846976 : Nat)) (br (decide ((↑(named (List.drop (Int.toNat (1 : Int)) s)) : Int) > (0 : Int))) (chk ((0 : Int) ≤ (1 : Int) ∧ (1 : Int) ≤ IntKind.i64.wrap ((↑(named (List.drop (Int.toNat (1 : Int)) s)) : Int) + (1 : Int)) ∧ IntKind.i64.wrap ((↑(named (List.drop (Int.toNat (1 : Int)) s)) : Int) + (1 : Int)) ≤ (↑s.length : Int)) (some (SV.val (AV.tup [AV.agg [D.int IntKind.i64 (4 : Int), D.str (List.drop (Int.toNat (1 : Int)) (List.take (IntKind.i64.wrap ((↑(named (List.drop (Int.toNat (1 : Int)) s)) : Int) + (1 : Int))).toNat s)), D.str (CE.dflt Sh.str), D.str (CE.dflt Sh.str)], AV.d (D.int IntKind.i64 (IntKind.i64.wrap ((↑(named (List.drop (Int.toNat (1 : Int)) s)) : Int) + (1 : Int))))])))) (some (SV.val (AV.tup [AV.agg [D.int IntKind.i64 (CE.dflt (Sh.int IntKind.i64)), D.str (CE.dflt Sh.str), D.str (CE.dflt Sh.str), D.str (CE.dflt Sh.str)], AV.d (D.int IntKind.i64 (0 : Int))])))))) (br (byteAt s (0 : Int) == (95 : Int)) (chk ((0 : Int) ≤ (2 : Int) ∧ (2 : Int) ≤ (↑s.length : Int)) (chk ((List.drop (Int.toNat (2 : Int)) s).length ≤ (1152921504606846976 : Nat)) (chk ((0 : Int) ≤ (1 : Int) ∧ (1 : Int) < (↑s.length : Int)) (br (byteAt s (1 : Int) == (58 : Int)) (br (decide ((↑(named (List.drop (Int.toNat (2 : Int)) s)) : Int) > (0 : Int))) (chk ((0 : Int) ≤ (2 : Int) ∧ (2 : Int) ≤ IntKind.i64.wrap ((↑(named (List.drop (Int.toNat (2 : Int)) s)) : Int) + (2 : Int)) ∧ IntKind.i64.wrap ((↑(named (List.drop (Int.toNat (2 : Int)) s)) : Int) + (2 : Int)) ≤ (↑s.length : Int)) (some (SV.val (AV.tup [AV.agg [D.int IntKind.i64 (3 : Int), D.str (List.drop (Int.toNat (2 : Int)) (List.take (IntKind.i64.wrap ((↑(named (List.drop (Int.toNat (2 : Int)) s)) : Int) + (2 : Int))).toNat s)), D.str (CE.dflt Sh.str), D.str (CE.dflt Sh.str)], AV.d (D.int IntKind.i64 (IntKind.i64.wrap ((↑(named (List.drop (Int.toNat (2 : Int)) s)) : Int) + (2 : Int))))])))) (some (SV.val (AV.tup [AV.agg [D.int IntKind.i64 (CE.dflt (Sh.int IntKind.i64)), D.str (CE.dflt Sh.str), D.str (CE.dflt Sh.str), D.str (CE.dflt Sh.str)], AV.d (D.int IntKind.i64 (0 : Int))])))) (some (SV.val (AV.tup [AV.agg [D.int IntKind.i64 (CE.dflt (Sh.int IntKind.i64)), D.str (CE.dflt Sh.str), D.str (CE.dflt Sh.str), D.str (CE.dflt Sh.str)], AV.d (D.int IntKind.i64 (0 : Int))]))))))) (some (SV.val (AV.tup [AV.agg [D.int IntKind.i64 (CE.dflt (Sh.int IntKind.i64)), D.str (CE.dflt Sh.str), D.str (CE.dflt Sh.str), D.str (CE.dflt Sh.str)], AV.d (D.int IntKind.i64 (0 : Int))])))))))) := by kernel_rfl
theorem satr1_Prefix : Sat P 57 (Sr1_Prefix) := by
  refine sat_mk (LT := Ln (Lr1_Prefix)) hC okr1_literal mixed Try.func57 (by kernel_rfl) (c := bodyOf Try.f57) (by kernel_rfl) (by kernel_rfl) ?_ (loops0 (by kernel_rfl))
  rintro ⟨⟨(s : List UInt8), _⟩, _⟩ sv h
  refine Leads.eq (Leads.of_eq (tr1_Prefix s) ?_)
  obtain ⟨hs, h⟩ := h
  have h := Out_leaf h
  refine Leads.brD (fun q => ?_) (fun q => ?_)
  · have hp : prefixS s = noTerm := by
      match s, q with
      | [], _ => rfl
      | [b], _ => exact prefixS_one b
      | _ :: _ :: _, q => simp at q; omega
    exact Leads.one (by rw [h, hp]; rfl)
  match s, q, hs, h with
  | [], q, _, _ => simp at q
  | [_], q, _, _ => simp at q
  | b :: c :: r, q, hs, h =>
    have hlen : ((b :: c :: r).length : Int) = (r.length : Int) + 2 := by simp; omega
    have hs' : r.length + 2 ≤ 1152921504606846976 := hs
    have hb0 : byteAt (b :: c :: r) 0 = u b := rfl
    have hb1 : byteAt (b :: c :: r) 1 = u c := rfl
    have e62 : (Int.toNat (62 : Int)).toUInt8 = 62 := rfl
    have e1 : (b :: c :: r).drop (Int.toNat (1 : Int)) = c :: r := rfl
    have e2 : (b :: c :: r).drop (Int.toNat (2 : Int)) = r := rfl
    rw [hb0, hb1, e62, e1, e2]
    refine Leads.chk (by omega) fun _ => Leads.brE (fun q1 => Leads.chk ⟨hs, by decide, by decide⟩ fun _ => ?_) (fun q1 => Leads.brE (fun q2 => ?_) (fun q2 => Leads.brE (fun q3 => ?_) (fun q3 => Leads.brE (fun q4 => ?_) (fun q4 => ?_))))
    · have hbb : b = 60 := u_inj (by rw [q1]; rfl)
      have hI := indexByte_le (b :: c :: r) 62
      refine Leads.brD (fun z => Leads.chk (by omega) fun _ => Leads.chk (by rw [Big_eq, List.length_drop, List.length_take]; omega) fun _ => Leads.br (fun w => Leads.chk (by omega) fun _ => Leads.one ?_) (fun w => ?_)) (fun z => ?_)
      · have hp : prefixS (b :: c :: r) = (1, ((b :: c :: r).take (Lib.indexByte (b :: c :: r) 62).toNat).drop 1, [], [], (((Lib.indexByte (b :: c :: r) 62).toNat + 1 : Nat) : Int)) := by
          simp only [prefixS, q1, if_true, iriAt]
          rw [if_pos ⟨by rw [hbb]; rfl, z, w⟩]
        rw [h, hp, wrap64 (by omega) (by omega), show Lib.indexByte (b :: c :: r) 62 + 1 = (((Lib.indexByte (b :: c :: r) 62).toNat + 1 : Nat) : Int) by omega]
        rfl
      · have hp : prefixS (b :: c :: r) = noTerm := by
          simp only [prefixS, q1, if_true, iriAt]
          rw [if_neg (fun k => by have := k.2.2; rw [show Int.toNat 1 = 1 from rfl] at w; rw [this] at w; cases w)]
        exact Leads.one (by rw [h, hp]; rfl)
      · have hp : prefixS (b :: c :: r) = noTerm := by
          simp only [prefixS, q1, if_true, iriAt]
          rw [if_neg (fun k => z k.2.1)]
        exact Leads.one (by rw [h, hp]; rfl)
    · have hp : prefixS (b :: c :: r) = literalS (b :: c :: r) := by
        simp only [prefixS, q1, q2, if_true, if_false]; rfl
      exact Leads.chk ⟨hs, by simp⟩ fun _ => Leads.one (by rw [h, hp])
    · have hn := named_le (c :: r)
      rw [List.length_cons] at hn
      refine Leads.chk (by omega) fun _ => Leads.chk (by rw [List.length_cons]; omega) fun _ => Leads.brD (fun z => ?_) (fun z => ?_)
      · rw [wrap64 (by omega) (by omega), show ((named (c :: r) : Nat) : Int) + 1 = ((named (c :: r) + 1 : Nat) : Int) by omega, Int.toNat_natCast]
        have hp : prefixS (b :: c :: r) = (4, (c :: r).take (named (c :: r)), [], [], ((named (c :: r) + 1 : Nat) : Int)) := by
          have z' : 0 < named (c :: r) := by omega
          simp [prefixS, q3, z']
        exact Leads.chk (by omega) fun _ => Leads.one (by rw [h, hp]; rfl)
      · have hp : prefixS (b :: c :: r) = noTerm := by
          have z' : ¬ 0 < named (c :: r) := by omega
          simp only [prefixS, q3, z', if_false, if_true]; rfl
        exact Leads.one (by rw [h, hp]; rfl)
    · have hn := named_le r
      refine Leads.chk (by omega) fun _ => Leads.chk (by omega) fun _ => Leads.chk (by omega) fun _ => Leads.brE (fun w => Leads.brD (fun z => ?_) (fun z => ?_)) (fun w => ?_)
      · have hc : c = 58 := u_inj w
        rw [wrap64 (by omega) (by omega), show ((named r : Nat) : Int) + 2 = ((named r + 2 : Nat) : Int) by omega, Int.toNat_natCast]
        have hp : prefixS (b :: c :: r) = (3, r.take (named r), [], [], ((named r + 2 : Nat) : Int)) := by
          have z' : 0 < named r := by omega
          simp [prefixS, q4, hc, z']
        exact Leads.chk (by omega) fun _ => Leads.one (by rw [h, hp]; rfl)
      · have hc : c = 58 := u_inj w
        have hp : prefixS (b :: c :: r) = noTerm := by
          have z' : ¬ 0 < named r := by omega
          simp [prefixS, q4, hc, z']
        exact Leads.one (by rw [h, hp]; rfl)
      · have hc : ¬ c = 58 := by rintro rfl; exact w rfl
        have hp : prefixS (b :: c :: r) = noTerm := by
          simp [prefixS, q4, hc]
        exact Leads.one (by rw [h, hp]; rfl)
    · have hp : prefixS (b :: c :: r) = noTerm := by
        simp [prefixS, q1, q2, q3, q4]
      exact Leads.one (by rw [h, hp]; rfl)
def Er1_Prefix : Es := (57, Sr1_Prefix) :: Er1_literal
theorem okr1_Prefix : SatE P (En (Er1_Prefix)) := SatE.cons (satr1_Prefix) okr1_literal

end Go.Proofs.Ytoopcfjmmhmamaa.T6
end
