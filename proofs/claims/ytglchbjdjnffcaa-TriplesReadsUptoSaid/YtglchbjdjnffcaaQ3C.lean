/- Part of a proof of the seat's statements: no statement by itself. -/
import Derived.Test.YtglchbjdjnffcaaQ3B
import Derived.Test.YtglchbjdjnffcaaLgF
import Derived.Test.YtglchbjdjnffcaaSpC
set_option maxRecDepth 100000
open Go.Proofs.Ytglchbjdjnffcaa.Lg Go Go.Proofs.Ytglchbjdjnffcaa.Sp
open Go.Proofs
namespace Go.Proofs.Ytglchbjdjnffcaa.T3


abbrev tmS : List Sh := [.int .i64, .str, .str, .str]
/-! ### legation/legationref01.escaped -/
def lkr1_escaped_0 : St [.v false [.str], .v false [.str], .v false [.int .i64]] → Prop := fun ⟨⟨(s : List UInt8), _⟩, ⟨(out : List UInt8), _⟩, ⟨(i : Int), _⟩, _⟩ => 0 ≤ i ∧ i ≤ (s.length : Int) ∧ s.length ≤ 1152921504606846976 ∧ out.length + 2 * (s.length - i.toNat) ≤ 2 * 1152921504606846976
def lgr1_escaped_0 : St [.v false [.str], .v false [.str], .v false [.int .i64]] → Tr (Ex × List SV) := fun ⟨⟨(s : List UInt8), _⟩, ⟨(out : List UInt8), _⟩, ⟨(i : Int), _⟩, _⟩ => .leaf (.exit 0, [.val (.d (.str  (out ++ esc (s.drop i.toNat))))])
def lmr1_escaped_0 : St [.v false [.str], .v false [.str], .v false [.int .i64]] → Nat := fun ⟨⟨(s : List UInt8), _⟩, ⟨(out : List UInt8), _⟩, ⟨(i : Int), _⟩, _⟩ => s.length - i.toNat
def lsr1_escaped_0 : LoopS := mkR [0, 3, 4] [3] [] [.v false [.str], .v false [.str], .v false [.int .i64]] (fun r => .chk (lkr1_escaped_0 r) (lgr1_escaped_0 r))
def Lr1_escaped : Ls := [(3, lsr1_escaped_0)]
def Sr1_escaped := mkS [(false, [.str])] fun ⟨⟨(s : List UInt8), _⟩, _⟩ => .chk (s.length ≤ 1152921504606846976) (.leaf (.val (.d (.str (esc s)))))
theorem ltr1_escaped_0 (s : List UInt8) (out : List UInt8) (i : Int) : evRound T (En (E20a)) (Ln (Lr1_escaped)) (loopAt 0 (loops (bodyOf Try.f53))) (lsr1_escaped_0) [.val (.d (.str  s)), .val (.d (.str  out)), .val (.d (.int .i64 i))] =
    br (decide (i < (↑s.length : Int))) (chk ((0 : Int) ≤ i ∧ i < (↑s.length : Int)) (br (byteAt s i == (34 : Int)) (chk ((↑out.length : Int) + (↑[(92 : UInt8), (34 : UInt8)].length : Int) ≤ maxI) (some (Rnd.again [SV.val (AV.d (D.str s)), SV.val (AV.d (D.str (out ++ [(92 : UInt8), (34 : UInt8)]))), SV.val (AV.d (D.int IntKind.i64 (IntKind.i64.wrap (i + (1 : Int)))))]))) (br (byteAt s i == (92 : Int)) (chk ((↑out.length : Int) + (↑[(92 : UInt8), (92 : UInt8)].length : Int) ≤ maxI) (some (Rnd.again [SV.val (AV.d (D.str s)), SV.val (AV.d (D.str (out ++ [(92 : UInt8), (92 : UInt8)]))), SV.val (AV.d (D.int IntKind.i64 (IntKind.i64.wrap (i + (1 : Int)))))]))) (br (byteAt s i == (10 : Int)) (chk ((↑out.length : Int) + (↑[(92 : UInt8), (110 : UInt8)].length : Int) ≤ maxI) (some (Rnd.again [SV.val (AV.d (D.str s)), SV.val (AV.d (D.str (out ++ [(92 : UInt8), (110 : UInt8)]))), SV.val (AV.d (D.int IntKind.i64 (IntKind.i64.wrap (i + (1 : Int)))))]))) (br (byteAt s i == (9 : Int)) (chk ((↑out.length : Int) + (↑[(92 : UInt8), (116 : UInt8)].length : Int) ≤ maxI) (some (Rnd.again [SV.val (AV.d (D.str s)), SV.val (AV.d (D.str (out ++ [(92 : UInt8), (116 : UInt8)]))), SV.val (AV.d (D.int IntKind.i64 (IntKind.i64.wrap (i + (1 : Int)))))]))) (chk ((0 : Int) ≤ i ∧ i ≤ IntKind.i64.wrap (i + (1 : Int)) ∧ IntKind.i64.wrap (i + (1 : Int)) ≤ (↑s.length : Int)) (chk ((↑out.length : Int) + (↑(List.drop i.toNat (List.take (IntKind.i64.wrap (i + (1 : Int))).toNat s)).length : Int) ≤ maxI) (some (Rnd.again [SV.val (AV.d (D.str s)), SV.val (AV.d (D.str (out ++ List.drop i.toNat (List.take (IntKind.i64.wrap (i + (1 : Int))).toNat s)))), SV.val (AV.d (D.int IntKind.i64 (IntKind.i64.wrap (i + (1 : Int)))))]))))))))) (some (Rnd.out (Ex.exit (0 : Nat)) [SV.val (AV.d (D.str out))])) := by kernel_rfl
theorem lokr1_escaped_0 : LoopOK T (En (E20a)) (Ln (Lr1_escaped)) (loopAt 0 (loops (bodyOf Try.f53))) := by
  refine loop_ok (live := [0, 3, 4]) (outs := [3]) (rets := []) (ks := [.v false [.str], .v false [.str], .v false [.int .i64]]) (G := lgr1_escaped_0) (lkr1_escaped_0) (lmr1_escaped_0) (by kernel_rfl) ?_
  rintro ⟨⟨(s : List UInt8), _⟩, ⟨(out : List UInt8), _⟩, ⟨(i : Int), _⟩, _⟩ x hok hx
  refine Leads.of_eq (ltr1_escaped_0 s out i) ?_
  obtain ⟨h0, h1, h2, h3⟩ := hok
  obtain ⟨m, rfl⟩ := Int.eq_ofNat_of_zero_le h0
  obtain rfl := Out_leaf hx
  simp only [Int.toNat_natCast] at *
  rcases drop_cases s m with ⟨hle, hd⟩ | ⟨b, hlt, hd, hb⟩
  · refine Leads.brD (fun q => by omega) (fun _ => Leads.one (Goes.out ?_))
    rw [hd]; simp [esc]
  · rw [byteAt_of hb, wrap64 (by omega) (by omega), toNat_add1, hd]
    have hl : (escB b).length ≤ 2 := escB_le b
    have ht : (s.take (m + 1)).drop m = [b] := take_drop_one hb
    rw [ht]
    repeat' (first | refine Leads.brD (fun _ => ?_) (fun _ => ?_) | refine Leads.brE (fun _ => ?_) (fun _ => ?_) | refine Leads.brN (fun _ => ?_) (fun _ => ?_) | refine Leads.brM (fun _ => ?_) (fun _ => ?_) | refine Leads.brG (fun _ => ?_) (fun _ => ?_) | refine Leads.br (fun _ => ?_) (fun _ => ?_) | refine Leads.chk ?_ (fun _ => ?_) | refine Leads.one ?_ | refine Leads.brP (fun _ => ?_) (fun _ => ?_))
    all_goals first | omega | (simp only [List.length_cons, List.length_nil, maxI]; omega) | skip
    all_goals (refine Goes.again (ks := [.v false [.str], .v false [.str], .v false [.int .i64]]) ((_, ()), (_, ()), (_, ()), ()) rfl ?_ ?_ ?_)
    all_goals first | (simp only [lmr1_escaped_0]; omega) | (simp only [lkr1_escaped_0, List.length_append, List.length_cons, List.length_nil]; omega) | skip
    all_goals (show _ = _; simp only [toNat_add1, esc, List.append_assoc]; rw [escB_eq]; simp only [u, *]; try rfl)
theorem tr1_escaped (s : List UInt8) : evF T (En (E20a)) (Ln (Lr1_escaped)) Try.f53 [.d (.str s)] =
    chk (lkr1_escaped_0 ((s, ()), ([], ()), ((0 : Int), ()), ())) (some (SV.val (AV.d (D.str ([] ++ esc (List.drop (Int.toNat (0 : Int)) s)))))) := by kernel_rfl
theorem satr1_escaped : Sat P 53 (Sr1_escaped) := by
  refine sat_mk (LT := Ln (Lr1_escaped)) hC ok20a mixed Try.func53 (by kernel_rfl) (c := bodyOf Try.f53) (by kernel_rfl) (by kernel_rfl) ?_ (loops1 (by kernel_rfl) (lokr1_escaped_0))
  rintro ⟨⟨(s : List UInt8), _⟩, _⟩ sv h
  refine Leads.eq (Leads.of_eq (tr1_escaped s) ?_)
  obtain ⟨hs, h⟩ := h
  obtain rfl := Out_leaf h
  exact Leads.chk ⟨by omega, by omega, hs, by simp; omega⟩ (fun _ => Leads.one rfl)
def Er1_escaped : Es := (53, Sr1_escaped) :: E20a
theorem okr1_escaped : SatE P (En (Er1_escaped)) := SatE.cons (satr1_escaped) ok20a
/-! ### legation/legationref01.Text -/
def Lr1_Text : Ls := []
def Sr1_Text := mkS [(true, tmS)] fun ⟨(t : RowE tmS), _⟩ => .chk (t.2.1.length ≤ 1152921504606846976 ∧ t.2.2.1.length ≤ 1152921504606846976 ∧ t.2.2.2.1.length ≤ 1152921504606846976 ∧ (t.1 = 2 → t.2.2.1 = [] ∨ t.2.2.2.1 = [])) (.leaf (.val (.d (.str (textT t)))))
theorem tr1_Text (t : RowE tmS) : evF T (En (Er1_escaped)) (Ln (Lr1_Text)) Try.f38 [.agg (rowD tmS t)] =
    br (t.fst == (1 : Int)) (chk ((↑[(60 : UInt8)].length : Int) + (↑(List.length t.snd.fst) : Int) ≤ maxI) (chk ((↑([(60 : UInt8)] ++ t.snd.fst).length : Int) + (↑[(62 : UInt8)].length : Int) ≤ maxI) (some (SV.val (AV.d (D.str ([(60 : UInt8)] ++ t.snd.fst ++ [(62 : UInt8)]))))))) (br (t.fst == (3 : Int)) (chk ((↑[(95 : UInt8), (58 : UInt8)].length : Int) + (↑(List.length t.snd.fst) : Int) ≤ maxI) (some (SV.val (AV.d (D.str ([(95 : UInt8), (58 : UInt8)] ++ t.snd.fst)))))) (br (t.fst == (4 : Int)) (chk ((↑[(63 : UInt8)].length : Int) + (↑(List.length t.snd.fst) : Int) ≤ maxI) (some (SV.val (AV.d (D.str ([(63 : UInt8)] ++ t.snd.fst)))))) (br (t.fst == (2 : Int)) (chk (List.length t.snd.fst ≤ (1152921504606846976 : Nat)) (chk ((↑[(34 : UInt8)].length : Int) + (↑(List.length (esc t.snd.fst)) : Int) ≤ maxI) (chk ((↑([(34 : UInt8)] ++ esc t.snd.fst).length : Int) + (↑[(34 : UInt8)].length : Int) ≤ maxI) (br (!t.snd.snd.fst == []) (chk ((↑([(34 : UInt8)] ++ esc t.snd.fst ++ [(34 : UInt8)]).length : Int) + (↑[(94 : UInt8), (94 : UInt8), (60 : UInt8)].length : Int) ≤ maxI) (chk ((↑([(34 : UInt8)] ++ esc t.snd.fst ++ [(34 : UInt8)] ++ [(94 : UInt8), (94 : UInt8), (60 : UInt8)]).length : Int) + (↑(List.length t.snd.snd.fst) : Int) ≤ maxI) (chk ((↑([(34 : UInt8)] ++ esc t.snd.fst ++ [(34 : UInt8)] ++ [(94 : UInt8), (94 : UInt8), (60 : UInt8)] ++ t.snd.snd.fst).length : Int) + (↑[(62 : UInt8)].length : Int) ≤ maxI) (some (SV.val (AV.d (D.str ([(34 : UInt8)] ++ esc t.snd.fst ++ [(34 : UInt8)] ++ [(94 : UInt8), (94 : UInt8), (60 : UInt8)] ++ t.snd.snd.fst ++ [(62 : UInt8)])))))))) (br (!t.snd.snd.snd.fst == []) (chk ((↑([(34 : UInt8)] ++ esc t.snd.fst ++ [(34 : UInt8)]).length : Int) + (↑[(64 : UInt8)].length : Int) ≤ maxI) (chk ((↑([(34 : UInt8)] ++ esc t.snd.fst ++ [(34 : UInt8)] ++ [(64 : UInt8)]).length : Int) + (↑(List.length t.snd.snd.snd.fst) : Int) ≤ maxI) (some (SV.val (AV.d (D.str ([(34 : UInt8)] ++ esc t.snd.fst ++ [(34 : UInt8)] ++ [(64 : UInt8)] ++ t.snd.snd.snd.fst))))))) (some (SV.val (AV.d (D.str ([(34 : UInt8)] ++ esc t.snd.fst ++ [(34 : UInt8)])))))))))) (some (SV.val (AV.d (D.str []))))))) := by kernel_rfl
theorem satr1_Text : Sat P 38 (Sr1_Text) := by
  refine sat_mk (LT := Ln (Lr1_Text)) hC okr1_escaped mixed Try.func38 (by kernel_rfl) (c := bodyOf Try.f38) (by kernel_rfl) (by kernel_rfl) ?_ (loops0 (by kernel_rfl))
  rintro ⟨(t : RowE tmS), _⟩ sv h
  refine Leads.eq (Leads.of_eq (tr1_Text t) ?_)
  obtain ⟨⟨h1, h2, h3, h4⟩, h⟩ := h
  obtain rfl := Out_leaf h
  clear h
  have he := esc_le t.2.1
  repeat' (first | refine Leads.brD (fun _ => ?_) (fun _ => ?_) | refine Leads.brE (fun _ => ?_) (fun _ => ?_) | refine Leads.brN (fun _ => ?_) (fun _ => ?_) | refine Leads.brM (fun _ => ?_) (fun _ => ?_) | refine Leads.brG (fun _ => ?_) (fun _ => ?_) | refine Leads.br (fun _ => ?_) (fun _ => ?_) | refine Leads.chk ?_ (fun _ => ?_) | refine Leads.one ?_ | refine Leads.brP (fun _ => ?_) (fun _ => ?_))
  all_goals first | omega | (simp only [List.length_append, List.length_cons, List.length_nil, maxI]; omega) | skip
  all_goals first | (simp_all [textT, textS, quotedS]; done) | (rcases h4 (by assumption) with q | q <;> (simp_all [textT, textS, quotedS]; done))
def Er1_Text : Es := (38, Sr1_Text) :: Er1_escaped
theorem okr1_Text : SatE P (En (Er1_Text)) := SatE.cons (satr1_Text) okr1_escaped
/-! ### legation/legationref01.place -/
def lkr1_place_0 : St [.v false [.str], .v false [.int .u8], .v false [.int .i64]] → Prop := fun ⟨⟨(s : List UInt8), _⟩, ⟨(b : Int), _⟩, ⟨(i : Int), _⟩, _⟩ => 0 ≤ i ∧ i ≤ (s.length : Int) ∧ s.length ≤ 1152921504606846976 ∧ 0 ≤ b ∧ b < 256
def lgr1_place_0 : St [.v false [.str], .v false [.int .u8], .v false [.int .i64]] → Tr (Ex × List SV) := fun ⟨⟨(s : List UInt8), _⟩, ⟨(b : Int), _⟩, ⟨(i : Int), _⟩, _⟩ => .brP (0 ≤ Lib.indexByte (s.drop i.toNat) b.toNat.toUInt8) (.leaf (.ret, [.val (.d (.int .i64 (i + Lib.indexByte (s.drop i.toNat) b.toNat.toUInt8)))])) (.leaf (.exit 0, []))
def lmr1_place_0 : St [.v false [.str], .v false [.int .u8], .v false [.int .i64]] → Nat := fun ⟨⟨(s : List UInt8), _⟩, ⟨(b : Int), _⟩, ⟨(i : Int), _⟩, _⟩ => s.length - i.toNat
def lsr1_place_0 : LoopS := mkR [0, 1, 5] [] [4] [.v false [.str], .v false [.int .u8], .v false [.int .i64]] (fun r => .chk (lkr1_place_0 r) (lgr1_place_0 r))
def Lr1_place : Ls := [(2, lsr1_place_0)]
def Sr1_place := mkS [(false, [.str]), (false, [.int .u8])] fun ⟨⟨(s : List UInt8), _⟩, ⟨(b : Int), _⟩, _⟩ => .chk (s.length ≤ 1152921504606846976 ∧ 0 ≤ b ∧ b < 256) (ii (Lib.indexByte s b.toNat.toUInt8))
theorem ltr1_place_0 (s : List UInt8) (b : Int) (i : Int) : evRound T (En (Er1_Text)) (Ln (Lr1_place)) (loopAt 0 (loops (bodyOf Try.f60))) (lsr1_place_0) [.val (.d (.str  s)), .val (.d (.int .u8 b)), .val (.d (.int .i64 i))] =
    br (decide (i < (↑s.length : Int))) (chk ((0 : Int) ≤ i ∧ i < (↑s.length : Int)) (br (byteAt s i == b) (some (Rnd.out Ex.ret [SV.val (AV.d (D.int IntKind.i64 i))])) (some (Rnd.again [SV.val (AV.d (D.str s)), SV.val (AV.d (D.int IntKind.u8 b)), SV.val (AV.d (D.int IntKind.i64 (IntKind.i64.wrap (i + (1 : Int)))))])))) (some (Rnd.out (Ex.exit (0 : Nat)) [])) := by kernel_rfl
theorem lokr1_place_0 : LoopOK T (En (Er1_Text)) (Ln (Lr1_place)) (loopAt 0 (loops (bodyOf Try.f60))) := by
  refine loop_ok (live := [0, 1, 5]) (outs := []) (rets := [4]) (ks := [.v false [.str], .v false [.int .u8], .v false [.int .i64]]) (G := lgr1_place_0) (lkr1_place_0) (lmr1_place_0) (by kernel_rfl) ?_
  rintro ⟨⟨(s : List UInt8), _⟩, ⟨(b : Int), _⟩, ⟨(i : Int), _⟩, _⟩ x hok hx
  refine Leads.of_eq (ltr1_place_0 s b i) ?_
  obtain ⟨h0, h1, h2, h3, h4⟩ := hok
  obtain ⟨m, rfl⟩ := Int.eq_ofNat_of_zero_le h0
  obtain ⟨c, rfl⟩ : ∃ c : UInt8, b = u c := ⟨b.toNat.toUInt8, by simp [u]; omega⟩
  simp only [lgr1_place_0, Int.toNat_natCast, u_toU8] at hx
  rcases drop_cases s m with ⟨hle, hd⟩ | ⟨b, hlt, hd, hb⟩
  · refine Leads.brD (fun q => by omega) (fun _ => Leads.one (Goes.out ?_))
    rw [hd] at hx
    exact Out_leaf (Out_neg (by simp [Lib.indexByte]) hx)
  · rw [byteAt_u hb, wrap64 (by omega) (by omega)]
    rw [hd] at hx
    simp only [Lib.indexByte] at hx
    repeat' (first | refine Leads.brD (fun _ => ?_) (fun _ => ?_) | refine Leads.brE (fun _ => ?_) (fun _ => ?_) | refine Leads.brN (fun _ => ?_) (fun _ => ?_) | refine Leads.brM (fun _ => ?_) (fun _ => ?_) | refine Leads.brG (fun _ => ?_) (fun _ => ?_) | refine Leads.br (fun _ => ?_) (fun _ => ?_) | refine Leads.chk ?_ (fun _ => ?_) | refine Leads.one ?_ | refine Leads.brP (fun _ => ?_) (fun _ => ?_))
    all_goals first | omega | skip
    · rename_i q
      obtain rfl : b = c := u_inj q
      simp only [beq_self_eq_true, if_true] at hx
      obtain rfl := Out_leaf (Out_pos (by omega) hx); exact Goes.out (by simp)
    · rename_i q
      have q' : (b == c) = false := by simp; rintro rfl; exact q rfl
      refine Goes.again (ks := [.v false [.str], .v false [.int .u8], .v false [.int .i64]]) ((_, ()), (_, ()), (_, ()), ()) rfl ?_ ?_ ?_
      · exact ⟨by omega, by omega, h2, h3, h4⟩
      · simp only [lmr1_place_0]; omega
      · have hg := Lib.indexByte_ge (s.drop (m + 1)) c
        simp only [lgr1_place_0, toNat_add1, u_toU8, u_toU8']
        rw [q'] at hx
        simp only [Bool.false_eq_true, if_false] at hx
        by_cases z : Lib.indexByte (s.drop (m + 1)) c = -1
        · rw [z] at hx ⊢; exact .inr ⟨by omega, Out_neg (by simp) hx⟩
        · have e1 : (Lib.indexByte (s.drop (m + 1)) c == -1) = false := by simpa using z
          rw [e1] at hx
          simp only [Bool.false_eq_true, if_false] at hx
          refine .inl ⟨by omega, ?_⟩
          replace hx := Out_pos (by omega) hx
          rw [show (m : Int) + 1 + Lib.indexByte (s.drop (m + 1)) c = (m : Int) + (Lib.indexByte (s.drop (m + 1)) c + 1) by omega]
          exact hx
theorem tr1_place (s : List UInt8) (b : Int) : evF T (En (Er1_Text)) (Ln (Lr1_place)) Try.f60 [.d (.str s), .d (.int .u8 b)] =
    chk (lkr1_place_0 ((s, ()), (b, ()), ((0 : Int), ()), ())) (brP ((0 : Int) ≤ Lib.indexByte (List.drop (Int.toNat (0 : Int)) s) b.toNat.toUInt8) (some (SV.val (AV.d (D.int IntKind.i64 ((0 : Int) + Lib.indexByte (List.drop (Int.toNat (0 : Int)) s) b.toNat.toUInt8))))) (some (SV.val (AV.d (D.int IntKind.i64 (-1 : Int)))))) := by kernel_rfl
theorem satr1_place : Sat P 60 (Sr1_place) := by
  refine sat_mk (LT := Ln (Lr1_place)) hC okr1_Text mixed Try.func60 (by kernel_rfl) (c := bodyOf Try.f60) (by kernel_rfl) (by kernel_rfl) ?_ (loops1 (by kernel_rfl) (lokr1_place_0))
  rintro ⟨⟨(s : List UInt8), _⟩, ⟨(b : Int), _⟩, _⟩ sv h
  refine Leads.eq (Leads.of_eq (tr1_place s b) ?_)
  obtain ⟨⟨h1, h2, h3⟩, h⟩ := h
  obtain rfl := Out_leaf h
  have hg := Lib.indexByte_ge s b.toNat.toUInt8
  refine Leads.chk ⟨by omega, by omega, h1, h2, h3⟩ (fun _ => Leads.brP (fun _ => Leads.one ?_) (fun q => Leads.one ?_))
  · simp
  · rw [show List.drop (Int.toNat 0) s = s from rfl] at q
    rw [show Lib.indexByte s b.toNat.toUInt8 = -1 by omega]
def Er1_place : Es := (60, Sr1_place) :: Er1_Text
theorem okr1_place : SatE P (En (Er1_place)) := SatE.cons (satr1_place) okr1_Text
/-! ### legation/legationref01.closing -/
def lkr1_closing_0 : St [.v false [.str], .v false [.int .i64]] → Prop := fun ⟨⟨(s : List UInt8), _⟩, ⟨(i : Int), _⟩, _⟩ => 0 ≤ i ∧ i ≤ (s.length : Int) + 1 ∧ s.length ≤ 1152921504606846976
def lgr1_closing_0 : St [.v false [.str], .v false [.int .i64]] → Tr (Ex × List SV) := fun ⟨⟨(s : List UInt8), _⟩, ⟨(i : Int), _⟩, _⟩ => .brP (run (s.drop i.toNat) < (s.drop i.toNat).length) (.leaf (.ret, [.val (.d (.int .i64 (i + (run (s.drop i.toNat) : Nat))))])) (.leaf (.exit 0, []))
def lmr1_closing_0 : St [.v false [.str], .v false [.int .i64]] → Nat := fun ⟨⟨(s : List UInt8), _⟩, ⟨(i : Int), _⟩, _⟩ => s.length + 1 - i.toNat
def lsr1_closing_0 : LoopS := mkR [0, 3] [] [2] [.v false [.str], .v false [.int .i64]] (fun r => .chk (lkr1_closing_0 r) (lgr1_closing_0 r))
def Lr1_closing : Ls := [(2, lsr1_closing_0)]
def Sr1_closing := mkS [(false, [.str])] fun ⟨⟨(s : List UInt8), _⟩, _⟩ => .chk (s.length ≤ 1152921504606846976) (.brP (run (s.drop 1) < (s.drop 1).length) (ii (1 + (run (s.drop 1) : Nat))) (ii (-1)))
theorem ltr1_closing_0 (s : List UInt8) (i : Int) : evRound T (En (Er1_place)) (Ln (Lr1_closing)) (loopAt 0 (loops (bodyOf Try.f77))) (lsr1_closing_0) [.val (.d (.str  s)), .val (.d (.int .i64 i))] =
    br (decide (i < (↑s.length : Int))) (chk ((0 : Int) ≤ i ∧ i < (↑s.length : Int)) (br (byteAt s i == (92 : Int)) (some (Rnd.again [SV.val (AV.d (D.str s)), SV.val (AV.d (D.int IntKind.i64 (IntKind.i64.wrap (IntKind.i64.wrap (i + (1 : Int)) + (1 : Int)))))])) (chk ((0 : Int) ≤ i ∧ i < (↑s.length : Int)) (br (byteAt s i == (34 : Int)) (some (Rnd.out Ex.ret [SV.val (AV.d (D.int IntKind.i64 i))])) (some (Rnd.again [SV.val (AV.d (D.str s)), SV.val (AV.d (D.int IntKind.i64 (IntKind.i64.wrap (i + (1 : Int)))))])))))) (some (Rnd.out (Ex.exit (0 : Nat)) [])) := by kernel_rfl
theorem lokr1_closing_0 : LoopOK T (En (Er1_place)) (Ln (Lr1_closing)) (loopAt 0 (loops (bodyOf Try.f77))) := by
  refine loop_ok (live := [0, 3]) (outs := []) (rets := [2]) (ks := [.v false [.str], .v false [.int .i64]]) (G := lgr1_closing_0) (lkr1_closing_0) (lmr1_closing_0) (by kernel_rfl) ?_
  rintro ⟨⟨(s : List UInt8), _⟩, ⟨(i : Int), _⟩, _⟩ x hok hx
  refine Leads.of_eq (ltr1_closing_0 s i) ?_
  obtain ⟨h0, h1, h2⟩ := hok
  obtain ⟨m, rfl⟩ := Int.eq_ofNat_of_zero_le h0
  simp only [lgr1_closing_0, Int.toNat_natCast] at hx
  rcases drop_cases s m with ⟨hle, hd⟩ | ⟨b, hlt, hd, hb⟩
  · refine Leads.brD (fun q => by omega) (fun _ => Leads.one (Goes.out ?_))
    rw [hd] at hx
    exact Out_leaf (Out_neg (by simp) hx)
  · rw [byteAt_u hb, wrap64 (x := (m : Int) + 1) (by omega) (by omega), wrap64 (by omega) (by omega)]
    rw [hd] at hx
    by_cases q1 : u b = 92
    · have q1' : ((b.toNat : Nat) : Int) = 92 := q1
      rw [q1]
      refine Leads.brD (fun _ => ?_) (fun q => by omega)
      refine Leads.chk (by omega) (fun _ => Leads.brE (fun _ => Leads.one ?_) (fun q => absurd rfl q))
      refine Goes.again (ks := [.v false [.str], .v false [.int .i64]]) ((_, ()), (_, ()), ()) rfl ?_ ?_ ?_
      · exact ⟨by omega, by omega, h2⟩
      · simp only [lmr1_closing_0]; omega
      · have e : ((m : Int) + 1 + 1).toNat = m + 2 := by omega
        simp only [lgr1_closing_0, e]
        rcases drop_cases s (m + 1) with ⟨hle, hd2⟩ | ⟨c, hlt2, hd2, hc⟩
        · rw [hd2] at hx
          rw [List.drop_of_length_le (by omega)]
          exact .inr ⟨by simp, Out_neg (by simp [run, q1]) hx⟩
        · rw [hd2] at hx
          have er : run (b :: c :: s.drop (m + 1 + 1)) = run (s.drop (m + 2)) + 2 := by simp [run, q1]
          rw [er] at hx
          simp only [List.length_cons, show m + 1 + 1 = m + 2 from rfl] at hx
          rw [show (run (s.drop (m + 2)) + 2 < (s.drop (m + 2)).length + 1 + 1) = (run (s.drop (m + 2)) < (s.drop (m + 2)).length) by rw [eq_iff_iff]; omega] at hx
          rw [show (m : Int) + ((run (s.drop (m + 2)) + 2 : Nat) : Int) = (m : Int) + 1 + 1 + (run (s.drop (m + 2)) : Nat) by omega] at hx
          exact hx
    · by_cases q2 : u b = 34
      · rw [q2]
        refine Leads.brD (fun _ => Leads.chk (by omega) (fun _ => Leads.brE (fun q => by omega) (fun _ => Leads.chk (by omega) (fun _ => Leads.brE (fun _ => Leads.one (Goes.out ?_)) (fun q => absurd rfl q))))) (fun q => by omega)
        rw [run_q _ q2] at hx
        obtain rfl := Out_leaf (Out_pos (by simp) hx); simp
      · refine Leads.brD (fun _ => Leads.chk (by omega) (fun _ => Leads.brE (fun q => absurd q q1) (fun _ => Leads.chk (by omega) (fun _ => Leads.brE (fun q => absurd q q2) (fun _ => Leads.one ?_))))) (fun q => by omega)
        refine Goes.again (ks := [.v false [.str], .v false [.int .i64]]) ((_, ()), (_, ()), ()) rfl ?_ ?_ ?_
        · exact ⟨by omega, by omega, h2⟩
        · simp only [lmr1_closing_0]; omega
        · simp only [lgr1_closing_0, toNat_add1]
          rw [run_o _ q2 q1] at hx
          simp only [List.length_cons] at hx
          rw [show (run (s.drop (m + 1)) + 1 < (s.drop (m + 1)).length + 1) = (run (s.drop (m + 1)) < (s.drop (m + 1)).length) by rw [eq_iff_iff]; omega] at hx
          rw [show (m : Int) + ((run (s.drop (m + 1)) + 1 : Nat) : Int) = (m : Int) + 1 + (run (s.drop (m + 1)) : Nat) by omega] at hx
          exact hx
theorem tr1_closing (s : List UInt8) : evF T (En (Er1_place)) (Ln (Lr1_closing)) Try.f77 [.d (.str s)] =
    chk (lkr1_closing_0 ((s, ()), ((1 : Int), ()), ())) (brP (run (List.drop (Int.toNat (1 : Int)) s) < (List.drop (Int.toNat (1 : Int)) s).length) (some (SV.val (AV.d (D.int IntKind.i64 ((1 : Int) + (↑(run (List.drop (Int.toNat (1 : Int)) s)) : Int)))))) (some (SV.val (AV.d (D.int IntKind.i64 (-1 : Int)))))) := by kernel_rfl
theorem satr1_closing : Sat P 77 (Sr1_closing) := by
  refine sat_mk (LT := Ln (Lr1_closing)) hC okr1_place mixed Try.func77 (by kernel_rfl) (c := bodyOf Try.f77) (by kernel_rfl) (by kernel_rfl) ?_ (loops1 (by kernel_rfl) (lokr1_closing_0))
  rintro ⟨⟨(s : List UInt8), _⟩, _⟩ sv h
  refine Leads.eq (Leads.of_eq (tr1_closing s) ?_)
  obtain ⟨h1, h⟩ := h
  refine Leads.chk ⟨by omega, by omega, h1⟩ (fun _ => ?_)
  rcases Out_brP h with ⟨q, h⟩ | ⟨q, h⟩
  · obtain rfl := Out_leaf h
    exact Leads.brP (fun _ => Leads.one rfl) (fun z => absurd q z)
  · obtain rfl := Out_leaf h
    exact Leads.brP (fun z => absurd z q) (fun _ => Leads.one rfl)
def Er1_closing : Es := (77, Sr1_closing) :: Er1_place
theorem okr1_closing : SatE P (En (Er1_closing)) := SatE.cons (satr1_closing) okr1_place
/-! ### legation/legationref01.nameLen -/
def lkr1_nameLen_0 : St [.v false [.str], .v false [.int .i64]] → Prop := fun ⟨⟨(s : List UInt8), _⟩, ⟨(n : Int), _⟩, _⟩ => 0 ≤ n ∧ n ≤ (named s : Int) ∧ s.length ≤ 1152921504606846976
def lgr1_nameLen_0 : St [.v false [.str], .v false [.int .i64]] → Tr (Ex × List SV) := fun ⟨⟨(s : List UInt8), _⟩, ⟨(n : Int), _⟩, _⟩ => .leaf (.exit 0, [.val (.d (.int .i64 ((named s : Int))))])
def lmr1_nameLen_0 : St [.v false [.str], .v false [.int .i64]] → Nat := fun ⟨⟨(s : List UInt8), _⟩, ⟨(n : Int), _⟩, _⟩ => 33 - n.toNat
def lsr1_nameLen_0 : LoopS := mkR [0, 3] [3] [] [.v false [.str], .v false [.int .i64]] (fun r => .chk (lkr1_nameLen_0 r) (lgr1_nameLen_0 r))
def Lr1_nameLen : Ls := [(2, lsr1_nameLen_0)]
def Sr1_nameLen := mkS [(false, [.str])] fun ⟨⟨(s : List UInt8), _⟩, _⟩ => .chk (s.length ≤ 1152921504606846976) (ii (named s))
theorem ltr1_nameLen_0 (s : List UInt8) (n : Int) : evRound T (En (Er1_closing)) (Ln (Lr1_nameLen)) (loopAt 0 (loops (bodyOf Try.f62))) (lsr1_nameLen_0) [.val (.d (.str  s)), .val (.d (.int .i64 n))] =
    br (decide (n < (↑s.length : Int))) (br (decide (n < (32 : Int))) (chk ((0 : Int) ≤ IntKind.i64.wrap (n + (1 : Int)) ∧ IntKind.i64.wrap (n + (1 : Int)) ≤ (↑s.length : Int)) (chk ((List.take (IntKind.i64.wrap (n + (1 : Int))).toNat s).length ≤ Big) (br (isName (List.take (IntKind.i64.wrap (n + (1 : Int))).toNat s)) (some (Rnd.again [SV.val (AV.d (D.str s)), SV.val (AV.d (D.int IntKind.i64 (IntKind.i64.wrap (n + (1 : Int)))))])) (some (Rnd.out (Ex.exit (0 : Nat)) [SV.val (AV.d (D.int IntKind.i64 n))]))))) (some (Rnd.out (Ex.exit (0 : Nat)) [SV.val (AV.d (D.int IntKind.i64 n))]))) (some (Rnd.out (Ex.exit (0 : Nat)) [SV.val (AV.d (D.int IntKind.i64 n))])) := by kernel_rfl
theorem lokr1_nameLen_0 : LoopOK T (En (Er1_closing)) (Ln (Lr1_nameLen)) (loopAt 0 (loops (bodyOf Try.f62))) := by
  refine loop_ok (live := [0, 3]) (outs := [3]) (rets := []) (ks := [.v false [.str], .v false [.int .i64]]) (G := lgr1_nameLen_0) (lkr1_nameLen_0) (lmr1_nameLen_0) (by kernel_rfl) ?_
  rintro ⟨⟨(s : List UInt8), _⟩, ⟨(n : Int), _⟩, _⟩ x hok hx
  refine Leads.of_eq (ltr1_nameLen_0 s n) ?_
  obtain ⟨h0, h1, h2⟩ := hok
  obtain rfl := Out_leaf hx
  obtain ⟨m, rfl⟩ := Int.eq_ofNat_of_zero_le h0
  have hn := named_le s
  have hn2 := named_le32 s
  rw [wrap64 (by omega) (by omega), toNat_add1]
  refine Leads.brD (fun q => Leads.brD (fun q2 => Leads.chk (by omega) (fun _ => Leads.chk ?_ (fun _ => ?_))) (fun q2 => Leads.one (Goes.out ?_))) (fun q => Leads.one (Goes.out ?_))
  · simp [Big]; omega
  · rw [isName_take (by omega)]
    refine Leads.brD (fun q3 => Leads.one ?_) (fun q3 => Leads.one (Goes.out ?_))
    · refine Goes.again (ks := [.v false [.str], .v false [.int .i64]]) ((_, ()), (_, ()), ()) rfl ?_ ?_ ?_
      · exact ⟨by omega, by omega, h2⟩
      · simp only [lmr1_nameLen_0]; omega
      · rfl
    · rw [show (named s : Int) = m by omega]
  · rw [show (named s : Int) = m by omega]
  · rw [show (named s : Int) = m by omega]
theorem tr1_nameLen (s : List UInt8) : evF T (En (Er1_closing)) (Ln (Lr1_nameLen)) Try.f62 [.d (.str s)] =
    chk (lkr1_nameLen_0 ((s, ()), ((0 : Int), ()), ())) (some (SV.val (AV.d (D.int IntKind.i64 (↑(named s) : Int))))) := by kernel_rfl
theorem satr1_nameLen : Sat P 62 (Sr1_nameLen) := by
  refine sat_mk (LT := Ln (Lr1_nameLen)) hC okr1_closing mixed Try.func62 (by kernel_rfl) (c := bodyOf Try.f62) (by kernel_rfl) (by kernel_rfl) ?_ (loops1 (by kernel_rfl) (lokr1_nameLen_0))
  rintro ⟨⟨(s : List UInt8), _⟩, _⟩ sv h
  refine Leads.eq (Leads.of_eq (tr1_nameLen s) ?_)
  obtain ⟨hs, h⟩ := h
  obtain rfl := Out_leaf h
  exact Leads.chk ⟨by omega, by omega, hs⟩ (fun _ => Leads.one rfl)
def Er1_nameLen : Es := (62, Sr1_nameLen) :: Er1_closing
theorem okr1_nameLen : SatE P (En (Er1_nameLen)) := SatE.cons (satr1_nameLen) okr1_closing
/-! ### legation/legationref01.unescaped -/
def lkr1_unescaped_0 : St [.v false [.str], .v false [.str], .v false [.int .i64]] → Prop := fun ⟨⟨(s : List UInt8), _⟩, ⟨(out : List UInt8), _⟩, ⟨(i : Int), _⟩, _⟩ => 0 ≤ i ∧ i ≤ (s.length : Int) ∧ s.length ≤ 1152921504606846976 ∧ out.length + (s.length - i.toNat) ≤ 2 * 1152921504606846976
def lgr1_unescaped_0 : St [.v false [.str], .v false [.str], .v false [.int .i64]] → Tr (Ex × List SV) := fun ⟨⟨(s : List UInt8), _⟩, ⟨(out : List UInt8), _⟩, ⟨(i : Int), _⟩, _⟩ => .br (unescS (s.drop i.toNat)).isSome (.leaf (.exit 0, [.val (.d (.str  (out ++ (unescS (s.drop i.toNat)).getD [])))])) (.leaf (.ret, [.val (.d (.str  ([]))), .val (.d (.bool  (false)))]))
def lmr1_unescaped_0 : St [.v false [.str], .v false [.str], .v false [.int .i64]] → Nat := fun ⟨⟨(s : List UInt8), _⟩, ⟨(out : List UInt8), _⟩, ⟨(i : Int), _⟩, _⟩ => s.length - i.toNat
def lsr1_unescaped_0 : LoopS := mkR [0, 4, 5] [4] [2, 3] [.v false [.str], .v false [.str], .v false [.int .i64]] (fun r => .chk (lkr1_unescaped_0 r) (lgr1_unescaped_0 r))
def Lr1_unescaped : Ls := [(3, lsr1_unescaped_0)]
def Sr1_unescaped := mkS [(false, [.str])] fun ⟨⟨(s : List UInt8), _⟩, _⟩ => .chk (s.length ≤ 1152921504606846976) (.br (unescS s).isSome (.leaf (.val (.tup [.d (.str ((unescS s).getD [])), .d (.bool true)]))) (.leaf (.val (.tup [.d (.str []), .d (.bool false)]))))
theorem ltr1_unescaped_0 (s : List UInt8) (out : List UInt8) (i : Int) : evRound T (En (Er1_nameLen)) (Ln (Lr1_unescaped)) (loopAt 0 (loops (bodyOf Try.f78))) (lsr1_unescaped_0) [.val (.d (.str  s)), .val (.d (.str  out)), .val (.d (.int .i64 i))] =
    br (decide (i < (↑s.length : Int)))
  (chk ((0 : Int) ≤ i ∧ i < (↑s.length : Int))
    (br (byteAt s i != (92 : Int)) (chk ((0 : Int) ≤ i ∧ i < (↑s.length : Int)) (br (byteAt s i == (34 : Int)) (some (Rnd.out Ex.ret [SV.val (AV.d (D.str [])), SV.val (AV.d (D.bool false))])) (chk ((0 : Int) ≤ i ∧ i < (↑s.length : Int)) (br (byteAt s i == (10 : Int)) (some (Rnd.out Ex.ret [SV.val (AV.d (D.str [])), SV.val (AV.d (D.bool false))])) (chk ((0 : Int) ≤ i ∧ i < (↑s.length : Int)) (br (byteAt s i == (9 : Int)) (some (Rnd.out Ex.ret [SV.val (AV.d (D.str [])), SV.val (AV.d (D.bool false))])) (chk ((0 : Int) ≤ i ∧ i ≤ IntKind.i64.wrap (i + (1 : Int)) ∧ IntKind.i64.wrap (i + (1 : Int)) ≤ (↑s.length : Int)) (chk ((↑out.length : Int) + (↑(List.drop i.toNat (List.take (IntKind.i64.wrap (i + (1 : Int))).toNat s)).length : Int) ≤ maxI) (some (Rnd.again [SV.val (AV.d (D.str s)), SV.val (AV.d (D.str (out ++ List.drop i.toNat (List.take (IntKind.i64.wrap (i + (1 : Int))).toNat s)))), SV.val (AV.d (D.int IntKind.i64 (IntKind.i64.wrap (i + (1 : Int)))))]))))))))))
      (br (decide (IntKind.i64.wrap (i + (1 : Int)) ≥ (↑s.length : Int))) (some (Rnd.out Ex.ret [SV.val (AV.d (D.str [])), SV.val (AV.d (D.bool false))])) (chk ((0 : Int) ≤ IntKind.i64.wrap (i + (1 : Int)) ∧ IntKind.i64.wrap (i + (1 : Int)) < (↑s.length : Int)) (br (byteAt s (IntKind.i64.wrap (i + (1 : Int))) == (34 : Int)) (br (byteAt s (IntKind.i64.wrap (i + (1 : Int))) == (34 : Int)) (chk ((0 : Int) ≤ IntKind.i64.wrap (i + (1 : Int)) ∧ IntKind.i64.wrap (i + (1 : Int)) ≤ IntKind.i64.wrap (IntKind.i64.wrap (i + (1 : Int)) + (1 : Int)) ∧ IntKind.i64.wrap (IntKind.i64.wrap (i + (1 : Int)) + (1 : Int)) ≤ (↑s.length : Int)) (chk ((↑out.length : Int) + (↑(List.drop (IntKind.i64.wrap (i + (1 : Int))).toNat (List.take (IntKind.i64.wrap (IntKind.i64.wrap (i + (1 : Int)) + (1 : Int))).toNat s)).length : Int) ≤ maxI) (some (Rnd.again [SV.val (AV.d (D.str s)), SV.val (AV.d (D.str (out ++ List.drop (IntKind.i64.wrap (i + (1 : Int))).toNat (List.take (IntKind.i64.wrap (IntKind.i64.wrap (i + (1 : Int)) + (1 : Int))).toNat s)))), SV.val (AV.d (D.int IntKind.i64 (IntKind.i64.wrap (IntKind.i64.wrap (i + (1 : Int)) + (1 : Int)))))])))) (br (byteAt s (IntKind.i64.wrap (i + (1 : Int))) == (110 : Int)) (chk ((↑out.length : Int) + (↑[(10 : UInt8)].length : Int) ≤ maxI) (some (Rnd.again [SV.val (AV.d (D.str s)), SV.val (AV.d (D.str (out ++ [(10 : UInt8)]))), SV.val (AV.d (D.int IntKind.i64 (IntKind.i64.wrap (IntKind.i64.wrap (i + (1 : Int)) + (1 : Int)))))]))) (br (byteAt s (IntKind.i64.wrap (i + (1 : Int))) == (116 : Int)) (chk ((↑out.length : Int) + (↑[(9 : UInt8)].length : Int) ≤ maxI) (some (Rnd.again [SV.val (AV.d (D.str s)), SV.val (AV.d (D.str (out ++ [(9 : UInt8)]))), SV.val (AV.d (D.int IntKind.i64 (IntKind.i64.wrap (IntKind.i64.wrap (i + (1 : Int)) + (1 : Int)))))]))) (some (Rnd.out Ex.ret [SV.val (AV.d (D.str [])), SV.val (AV.d (D.bool false))]))))) (br (byteAt s (IntKind.i64.wrap (i + (1 : Int))) == (92 : Int)) (chk ((0 : Int) ≤ IntKind.i64.wrap (i + (1 : Int)) ∧ IntKind.i64.wrap (i + (1 : Int)) ≤ IntKind.i64.wrap (IntKind.i64.wrap (i + (1 : Int)) + (1 : Int)) ∧ IntKind.i64.wrap (IntKind.i64.wrap (i + (1 : Int)) + (1 : Int)) ≤ (↑s.length : Int)) (chk ((↑out.length : Int) + (↑(List.drop (IntKind.i64.wrap (i + (1 : Int))).toNat (List.take (IntKind.i64.wrap (IntKind.i64.wrap (i + (1 : Int)) + (1 : Int))).toNat s)).length : Int) ≤ maxI) (some (Rnd.again [SV.val (AV.d (D.str s)), SV.val (AV.d (D.str (out ++ List.drop (IntKind.i64.wrap (i + (1 : Int))).toNat (List.take (IntKind.i64.wrap (IntKind.i64.wrap (i + (1 : Int)) + (1 : Int))).toNat s)))), SV.val (AV.d (D.int IntKind.i64 (IntKind.i64.wrap (IntKind.i64.wrap (i + (1 : Int)) + (1 : Int)))))])))) (br (byteAt s (IntKind.i64.wrap (i + (1 : Int))) == (110 : Int)) (chk ((↑out.length : Int) + (↑[(10 : UInt8)].length : Int) ≤ maxI) (some (Rnd.again [SV.val (AV.d (D.str s)), SV.val (AV.d (D.str (out ++ [(10 : UInt8)]))), SV.val (AV.d (D.int IntKind.i64 (IntKind.i64.wrap (IntKind.i64.wrap (i + (1 : Int)) + (1 : Int)))))]))) (br (byteAt s (IntKind.i64.wrap (i + (1 : Int))) == (116 : Int)) (chk ((↑out.length : Int) + (↑[(9 : UInt8)].length : Int) ≤ maxI) (some (Rnd.again [SV.val (AV.d (D.str s)), SV.val (AV.d (D.str (out ++ [(9 : UInt8)]))), SV.val (AV.d (D.int IntKind.i64 (IntKind.i64.wrap (IntKind.i64.wrap (i + (1 : Int)) + (1 : Int)))))]))) (some (Rnd.out Ex.ret [SV.val (AV.d (D.str [])), SV.val (AV.d (D.bool false))]))))))))))
  (some (Rnd.out (Ex.exit (0 : Nat)) [SV.val (AV.d (D.str out))])) := by kernel_rfl
theorem lokr1_unescaped_0 : LoopOK T (En (Er1_nameLen)) (Ln (Lr1_unescaped)) (loopAt 0 (loops (bodyOf Try.f78))) := by
  refine loop_ok (live := [0, 4, 5]) (outs := [4]) (rets := [2, 3]) (ks := [.v false [.str], .v false [.str], .v false [.int .i64]]) (G := lgr1_unescaped_0) (lkr1_unescaped_0) (lmr1_unescaped_0) (by kernel_rfl) ?_
  rintro ⟨⟨(s : List UInt8), _⟩, ⟨(out : List UInt8), _⟩, ⟨(i : Int), _⟩, _⟩ x hok hx
  refine Leads.of_eq (ltr1_unescaped_0 s out i) ?_
  obtain ⟨h0, h1, h2, h3⟩ := hok
  obtain ⟨m, rfl⟩ := Int.eq_ofNat_of_zero_le h0
  simp only [lgr1_unescaped_0, Int.toNat_natCast] at hx h3 ⊢
  rcases drop_cases s m with ⟨hle, hd⟩ | ⟨b, hlt, hd, hb⟩
  · refine Leads.brD (fun q => by omega) (fun _ => Leads.one (Goes.out ?_))
    rw [hd] at hx
    simp only [unescS] at hx
    obtain rfl := Out_leaf (Out_tt hx); simp
  · rw [byteAt_u hb, wrap64 (x := (m : Int) + 1) (by omega) (by omega), wrap64 (x := (m : Int) + 1 + 1) (by omega) (by omega), toNat_add1, show ((m : Int) + 1 + 1).toNat = m + 2 by omega, take_drop_one hb]
    rw [hd] at hx
    refine Leads.brD (fun _ => Leads.chk (by omega) (fun _ => Leads.brN (fun q1 => ?_) (fun q1 => ?_))) (fun q => by omega)
    · rcases drop_cases s (m + 1) with ⟨hle, hd2⟩ | ⟨c, hlt2, hd2, hc⟩
      · refine Leads.brD (fun _ => Leads.one (Goes.out ?_)) (fun q => by omega)
        rw [hd2] at hx
        simp only [unescS, q1, if_true] at hx
        exact Out_leaf (Out_ff hx)
      · rw [hd2, unesc_e q1] at hx
        have hc' : byteAt s ((m : Int) + 1) = u c := byteAt_u hc
        rw [hc', take_drop_one hc]
        cases hu : unesc c with
        | none =>
          rw [hu] at hx
          obtain ⟨z1, z2, z3, z4⟩ := unesc_none hu
          refine Leads.brD (fun q => by omega) (fun _ => Leads.chk (by omega) (fun _ => Leads.brE (fun q => absurd q z1) (fun _ => Leads.brE (fun q => absurd q z2) (fun _ => Leads.brE (fun q => absurd q z3) (fun _ => Leads.brE (fun q => absurd q z4) (fun _ => Leads.one (Goes.out (Out_leaf (Out_ff hx)))))))))
        | some d =>
          rw [hu] at hx
          have key : ∀ o', o' = out ++ [d] → Goes [.v false [.str], .v false [.str], .v false [.int .i64]] lgr1_unescaped_0 lkr1_unescaped_0 lmr1_unescaped_0 ((s, ()), (out, ()), ((m : Int), ()), ()) x (.again [.val (.d (.str s)), .val (.d (.str o')), .val (.d (.int .i64 ((m : Int) + 1 + 1)))]) := by
            rintro o' rfl
            refine Goes.again (ks := [.v false [.str], .v false [.str], .v false [.int .i64]]) ((_, ()), (_, ()), (_, ()), ()) rfl ?_ ?_ ?_
            · exact ⟨by omega, by omega, h2, by simp; omega⟩
            · simp only [lmr1_unescaped_0]; omega
            · simp only [lgr1_unescaped_0, show ((m : Int) + 1 + 1).toNat = m + 1 + 1 by omega]
              cases hr : unescS (s.drop (m + 1 + 1)) with
              | none => rw [hr] at hx; exact .inr ⟨rfl, Out_ff hx⟩
              | some o => rw [hr] at hx; exact .inl ⟨rfl, by have := Out_tt hx; simpa using this⟩
          refine Leads.brD (fun q => by omega) (fun _ => Leads.chk (by omega) (fun _ => ?_))
          rcases unesc_some hu with ⟨z, rfl⟩ | ⟨z, rfl⟩ | ⟨z, rfl⟩ | ⟨z, rfl⟩
          · obtain rfl : c = 34 := u_inj z
            exact Leads.brE (fun _ => Leads.brE (fun _ => Leads.chk (by omega) fun _ => Leads.chk (by simp [maxI]; omega) fun _ => Leads.one (key _ rfl)) (fun q => absurd rfl q)) (fun q => absurd rfl q)
          · obtain rfl : c = 92 := u_inj z
            exact Leads.brE (fun q => absurd q (by decide)) (fun _ => Leads.brE (fun _ => Leads.chk (by omega) fun _ => Leads.chk (by simp [maxI]; omega) fun _ => Leads.one (key _ rfl)) (fun q => absurd rfl q))
          · obtain rfl : c = 110 := u_inj z
            exact Leads.brE (fun q => absurd q (by decide)) (fun _ => Leads.brE (fun q => absurd q (by decide)) (fun _ => Leads.brE (fun _ => Leads.chk (by simp [maxI]; omega) fun _ => Leads.one (key _ rfl)) (fun q => absurd rfl q)))
          · obtain rfl : c = 116 := u_inj z
            exact Leads.brE (fun q => absurd q (by decide)) (fun _ => Leads.brE (fun q => absurd q (by decide)) (fun _ => Leads.brE (fun q => absurd q (by decide)) (fun _ => Leads.brE (fun _ => Leads.chk (by simp [maxI]; omega) fun _ => Leads.one (key _ rfl)) (fun q => absurd rfl q))))
    · by_cases q : u b = 34 ∨ u b = 10 ∨ u b = 9
      · rw [unesc_bad _ q1 q] at hx
        have hl := Out_leaf (Out_ff hx)
        refine Leads.chk (by omega) fun _ => Leads.brE (fun _ => Leads.one (Goes.out hl)) fun z1 => Leads.chk (by omega) fun _ => Leads.brE (fun _ => Leads.one (Goes.out hl)) fun z2 => Leads.chk (by omega) fun _ => Leads.brE (fun _ => Leads.one (Goes.out hl)) fun z3 => ?_
        rcases q with q | q | q <;> contradiction
      · rw [unesc_o _ q1 q] at hx
        simp only [not_or] at q
        refine Leads.chk (by omega) fun _ => Leads.brE (fun z => absurd z q.1) fun _ => Leads.chk (by omega) fun _ => Leads.brE (fun z => absurd z q.2.1) fun _ => Leads.chk (by omega) fun _ => Leads.brE (fun z => absurd z q.2.2) fun _ => Leads.chk (by omega) fun _ => Leads.chk (by simp [maxI]; omega) fun _ => Leads.one ?_
        refine Goes.again (ks := [.v false [.str], .v false [.str], .v false [.int .i64]]) ((_, ()), (_, ()), (_, ()), ()) rfl ?_ ?_ ?_
        · exact ⟨by omega, by omega, h2, by simp; omega⟩
        · simp only [lmr1_unescaped_0]; omega
        · simp only [lgr1_unescaped_0, toNat_add1]
          cases hr : unescS (s.drop (m + 1)) with
          | none => rw [hr] at hx; exact .inr ⟨rfl, Out_ff hx⟩
          | some o => rw [hr] at hx; exact .inl ⟨rfl, by have := Out_tt hx; simpa using this⟩
theorem tr1_unescaped (s : List UInt8) : evF T (En (Er1_nameLen)) (Ln (Lr1_unescaped)) Try.f78 [.d (.str s)] =
    chk (lkr1_unescaped_0 ((s, ()), ([], ()), ((0 : Int), ()), ())) (br (unescS (List.drop (Int.toNat (0 : Int)) s)).isSome (some (SV.val (AV.tup [AV.d (D.str ([] ++ (unescS (List.drop (Int.toNat (0 : Int)) s)).getD [])), AV.d (D.bool true)]))) (some (SV.val (AV.tup [AV.d (D.str []), AV.d (D.bool false)])))) := by kernel_rfl
theorem satr1_unescaped : Sat P 78 (Sr1_unescaped) := by
  refine sat_mk (LT := Ln (Lr1_unescaped)) hC okr1_nameLen mixed Try.func78 (by kernel_rfl) (c := bodyOf Try.f78) (by kernel_rfl) (by kernel_rfl) ?_ (loops1 (by kernel_rfl) (lokr1_unescaped_0))
  rintro ⟨⟨(s : List UInt8), _⟩, _⟩ sv h
  refine Leads.eq (Leads.of_eq (tr1_unescaped s) ?_)
  obtain ⟨hs, h⟩ := h
  refine Leads.chk ⟨by omega, by omega, hs, by simp; omega⟩ (fun _ => ?_)
  rw [show List.drop (Int.toNat 0) s = s from rfl]
  rcases Out_br h with ⟨q, h⟩ | ⟨q, h⟩
  · obtain rfl := Out_leaf h; rw [q]; exact Leads.one rfl
  · obtain rfl := Out_leaf h; rw [q]; exact Leads.one rfl
def Er1_unescaped : Es := (78, Sr1_unescaped) :: Er1_nameLen
theorem okr1_unescaped : SatE P (En (Er1_unescaped)) := SatE.cons (satr1_unescaped) okr1_nameLen

end Go.Proofs.Ytglchbjdjnffcaa.T3
