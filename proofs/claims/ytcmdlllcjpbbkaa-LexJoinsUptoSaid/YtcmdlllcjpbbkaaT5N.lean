/- Part of a proof of the seat's statements: no statement by itself. -/
import Derived.Test.YtcmdlllcjpbbkaaT5M
set_option maxRecDepth 100000
open Go.Proofs.Ytcmdlllcjpbbkaa.Lg Go Go.Proofs.Ytcmdlllcjpbbkaa.Sp
open Go.Proofs
namespace Go.Proofs.Ytcmdlllcjpbbkaa.T5


/-! ### legation/lex.Lex -/
def lklx_Lex_0 : St [.v false [.str], .a tkS, .v false [.int .i64]] → Prop := fun ⟨⟨(s : List UInt8), _⟩, (out : List (RowE tkS)), ⟨(at_ : Int), _⟩, _⟩ => 0 ≤ at_ ∧ at_ ≤ (s.length : Int) ∧ s.length ≤ 4096 ∧ (out.length : Int) ≤ at_
def lglx_Lex_0 : St [.v false [.str], .a tkS, .v false [.int .i64]] → Tr (Ex × List SV) := fun ⟨⟨(s : List UInt8), _⟩, (out : List (RowE tkS)), ⟨(at_ : Int), _⟩, _⟩ => .br (lexR s at_.toNat).2.isNone (.leaf (.exit 0, [.app tkS (out ++ (lexR s at_.toNat).1)])) (.leaf (.ret, [.app tkS ([]), .val (.d (.int .i64 (((lexR s at_.toNat).2.getD 0 : Nat)))), .val (.d (.int .i64 (2)))]))
def lmlx_Lex_0 : St [.v false [.str], .a tkS, .v false [.int .i64]] → Nat := fun ⟨⟨(s : List UInt8), _⟩, (out : List (RowE tkS)), ⟨(at_ : Int), _⟩, _⟩ => s.length - at_.toNat
def lslx_Lex_0 : LoopS := mkR [0, 5, 6] [5] [2, 3, 4] [.v false [.str], .a tkS, .v false [.int .i64]] (fun r => .chk (lklx_Lex_0 r) (lglx_Lex_0 r))
def Llx_Lex : Ls := [(5, lslx_Lex_0)]
def Slx_Lex := mkS [(false, [.str])] fun ⟨⟨(s : List UInt8), _⟩, _⟩ => .chk (s.length ≤ 140737488351232) (.leaf (.val (.tup [.d (.sl tkS (lexS s).1), .d (.int .i64 (lexS s).2.1), .d (.int .i64 (lexS s).2.2)])))
theorem ltlx_Lex_0 (s : List UInt8) (out : List (RowE tkS)) (at_ : Int) : evRound T (En (Er5_Next)) (Ln (Llx_Lex)) (loopAt 0 (loops (bodyOf Try.f8))) (lslx_Lex_0) [.val (.d (.str  s)), .app tkS out, .val (.d (.int .i64 at_))] =
    chk (s.length ≤ (140737488351232 : Nat)) (br ((nextS s at_).snd.snd != (0 : Int)) (chk ((0 : Int) ≤ at_ ∧ at_ ≤ (↑s.length : Int)) (chk ((List.drop at_.toNat s).length ≤ (1152921504606846976 : Nat)) (some (Rnd.out Ex.ret [SV.app tkS [], SV.val (AV.d (D.int IntKind.i64 (IntKind.i64.wrap (at_ + (↑(many spaceI (List.drop at_.toNat s)) : Int))))), SV.val (AV.d (D.int IntKind.i64 (nextS s at_).snd.snd))])))) (br ((nextS s at_).fst.fst == (0 : Int)) (some (Rnd.out (Ex.exit (0 : Nat)) [SV.app tkS out])) (br ((↑out.length : Int) == (4096 : Int)) (some (Rnd.out Ex.ret [SV.app tkS [], SV.val (AV.d (D.int IntKind.i64 (nextS s at_).fst.snd.snd.snd.snd.snd.snd.fst)), SV.val (AV.d (D.int IntKind.i64 (3 : Int)))])) (chk (((↑out.length : Int) + (↑[((nextS s at_).fst.fst, (nextS s at_).fst.snd.fst, (nextS s at_).fst.snd.snd.fst, (nextS s at_).fst.snd.snd.snd.fst, (nextS s at_).fst.snd.snd.snd.snd.fst, (nextS s at_).fst.snd.snd.snd.snd.snd.fst, (nextS s at_).fst.snd.snd.snd.snd.snd.snd.fst, ())].length : Int)) * (↑(88 : Nat) : Int) < lim) (some (Rnd.again [SV.val (AV.d (D.str s)), SV.app tkS (out ++ [((nextS s at_).fst.fst, (nextS s at_).fst.snd.fst, (nextS s at_).fst.snd.snd.fst, (nextS s at_).fst.snd.snd.snd.fst, (nextS s at_).fst.snd.snd.snd.snd.fst, (nextS s at_).fst.snd.snd.snd.snd.snd.fst, (nextS s at_).fst.snd.snd.snd.snd.snd.snd.fst, ())]), SV.val (AV.d (D.int IntKind.i64 (nextS s at_).snd.fst))])))))) := by kernel_rfl
theorem loklx_Lex_0 : LoopOK T (En (Er5_Next)) (Ln (Llx_Lex)) (loopAt 0 (loops (bodyOf Try.f8))) := by
  refine loop_ok (live := [0, 5, 6]) (outs := [5]) (rets := [2, 3, 4]) (ks := [.v false [.str], .a tkS, .v false [.int .i64]]) (G := lglx_Lex_0) (lklx_Lex_0) (lmlx_Lex_0) (by kernel_rfl) ?_
  rintro ⟨⟨(s : List UInt8), _⟩, (out : List (RowE tkS)), ⟨(at_ : Int), _⟩, _⟩ x hok hx
  refine Leads.of_eq (ltlx_Lex_0 s out at_) ?_
  obtain ⟨h0, h1, h2, h3⟩ := hok
  obtain ⟨a, rfl⟩ := Int.eq_ofNat_of_zero_le h0
  have ha : a ≤ s.length := by omega
  simp only [lglx_Lex_0, Int.toNat_natCast] at hx ⊢
  have hm := many_le spaceI (s.drop a)
  rw [List.length_drop] at hm
  rw [lexR_step s a ha] at hx
  rw [nextS_nat s a ha, wrap64 (x := (a : Int) + _) (by omega) (by omega), show (a : Int) + ((many spaceI (s.drop a) : Nat) : Int) = ((a + many spaceI (s.drop a) : Nat) : Int) by omega]
  generalize hp : a + many spaceI (s.drop a) = p at *
  have hw := wordS_le (s.drop p)
  have hk := wordS_kind (s.drop p)
  rw [List.length_drop] at hw
  refine Leads.chk (by omega) fun _ => ?_
  by_cases q : p = s.length
  · rw [if_pos q] at hx ⊢
    refine Leads.brN (fun _ => Leads.brE (fun _ => Leads.one (Goes.out ?_)) (fun z => absurd rfl z)) (fun z => absurd rfl z)
    have := Out_leaf (Out_tt hx)
    simpa using this
  · rw [if_neg q] at hx ⊢
    by_cases q2 : (wordS (s.drop p)).2 = 0
    · rw [if_pos q2] at hx ⊢
      refine Leads.brN (fun z => absurd z (by decide)) (fun _ => Leads.chk (by omega) fun _ => Leads.chk (by rw [List.length_drop]; omega) fun _ => Leads.one (Goes.out ?_))
      exact Out_leaf (Out_ff hx)
    · rw [if_neg q2] at hx ⊢
      refine Leads.brN (fun _ => Leads.brE (fun z => absurd z hk) (fun _ => Leads.brE (fun z => ?_) (fun _ => Leads.chk ?_ fun _ => Leads.one ?_))) (fun z => absurd rfl z)
      · exfalso; omega
      · simp only [lim, List.length_cons, List.length_nil]; omega
      · refine Goes.again (ks := [.v false [.str], .a tkS, .v false [.int .i64]]) ((_, ()), _, (_, ()), ()) rfl ?_ ?_ ?_
        · exact ⟨by show (0 : Int) ≤ ((p + (wordS (s.drop p)).2 : Nat) : Int); omega, by show ((p + (wordS (s.drop p)).2 : Nat) : Int) ≤ (s.length : Int); omega, h2, by rw [List.length_append]; show _ ≤ ((p + (wordS (s.drop p)).2 : Nat) : Int); simp only [List.length_cons, List.length_nil]; omega⟩
        · simp only [lmlx_Lex_0, Int.toNat_natCast]; omega
        · simp only [lglx_Lex_0, Int.toNat_natCast]
          cases hr : (lexR s (p + (wordS (s.drop p)).2)).2 with
          | none => rw [hr] at hx; have := Out_leaf (Out_tt hx); exact .inl ⟨rfl, by show _ = x; simpa [atT, List.append_assoc] using this.symm⟩
          | some z => rw [hr] at hx; exact .inr ⟨rfl, (Out_leaf (Out_ff hx)).symm⟩
theorem tlx_Lex (s : List UInt8) : evF T (En (Er5_Next)) (Ln (Llx_Lex)) Try.f8 [.d (.str s)] =
    br (decide ((↑s.length : Int) > (4096 : Int))) (some (SV.val (AV.tup [AV.d (D.sl tkS []), AV.d (D.int IntKind.i64 (0 : Int)), AV.d (D.int IntKind.i64 (3 : Int))]))) (chk (lklx_Lex_0 ((s, ()), [], ((0 : Int), ()), ())) (br (lexR s (Int.toNat (0 : Int))).snd.isNone (some (SV.val (AV.tup [AV.d (D.sl tkS ([] ++ (lexR s (Int.toNat (0 : Int))).fst)), AV.d (D.int IntKind.i64 (0 : Int)), AV.d (D.int IntKind.i64 (0 : Int))]))) (some (SV.val (AV.tup [AV.d (D.sl tkS []), AV.d (D.int IntKind.i64 (↑((lexR s (Int.toNat (0 : Int))).snd.getD (0 : Nat)) : Int)), AV.d (D.int IntKind.i64 (2 : Int))]))))) := by kernel_rfl
theorem satlx_Lex : Sat P 8 (Slx_Lex) := by
  refine sat_mk (LT := Ln (Llx_Lex)) hC okr5_Next mixed Try.func8 (by kernel_rfl) (c := bodyOf Try.f8) (by kernel_rfl) (by kernel_rfl) ?_ (loops1 (by kernel_rfl) (loklx_Lex_0))
  rintro ⟨⟨(s : List UInt8), _⟩, _⟩ sv h
  refine Leads.eq (Leads.of_eq (tlx_Lex s) ?_)
  obtain ⟨hs, h⟩ := h
  have h := Out_leaf h
  refine Leads.brD (fun q => Leads.one (by rw [h, lexS, if_pos (by omega)])) (fun q => ?_)
  have hl : s.length ≤ 4096 := by omega
  rw [lexS_eq s hl] at h
  rw [show Int.toNat 0 = 0 from rfl]
  refine Leads.chk ⟨by decide, by omega, hl, by simp⟩ fun _ => ?_
  cases hr : (lexR s 0).2 with
  | none => rw [hr] at h; exact Leads.br (fun _ => Leads.one (by rw [h]; simp)) (fun z => by cases z)
  | some p => rw [hr] at h; exact Leads.br (fun z => by cases z) (fun _ => Leads.one (by rw [h]; simp))
def Elx_Lex : Es := (8, Slx_Lex) :: Er5_Next
theorem oklx_Lex : SatE P (En (Elx_Lex)) := SatE.cons (satlx_Lex) okr5_Next
/-! ### legation/legationref05.Lex -/
def lkr5_Lex_0 : St [.v false [.str], .a tkS, .v false [.int .i64]] → Prop := fun ⟨⟨(s : List UInt8), _⟩, (out : List (RowE tkS)), ⟨(at_ : Int), _⟩, _⟩ => 0 ≤ at_ ∧ at_ ≤ (s.length : Int) ∧ s.length ≤ 4096 ∧ (out.length : Int) ≤ at_ ∧ many spaceI (s.drop at_.toNat) = 0
def lgr5_Lex_0 : St [.v false [.str], .a tkS, .v false [.int .i64]] → Tr (Ex × List SV) := fun ⟨⟨(s : List UInt8), _⟩, (out : List (RowE tkS)), ⟨(at_ : Int), _⟩, _⟩ => .br (lexR s at_.toNat).2.isNone (.leaf (.exit 0, [.app tkS (out ++ (lexR s at_.toNat).1)])) (.leaf (.ret, [.app tkS ([]), .val (.d (.int .i64 (((lexR s at_.toNat).2.getD 0 : Nat)))), .val (.d (.int .i64 (2)))]))
def lmr5_Lex_0 : St [.v false [.str], .a tkS, .v false [.int .i64]] → Nat := fun ⟨⟨(s : List UInt8), _⟩, (out : List (RowE tkS)), ⟨(at_ : Int), _⟩, _⟩ => s.length - at_.toNat
def lsr5_Lex_0 : LoopS := mkR [0, 5, 6] [5] [2, 3, 4] [.v false [.str], .a tkS, .v false [.int .i64]] (fun r => .chk (lkr5_Lex_0 r) (lgr5_Lex_0 r))
def Lr5_Lex : Ls := [(5, lsr5_Lex_0)]
def Sr5_Lex := mkS [(false, [.str])] fun ⟨⟨(s : List UInt8), _⟩, _⟩ => .chk (s.length ≤ 140737488351232) (.leaf (.val (.tup [.d (.sl tkS (lexS s).1), .d (.int .i64 (lexS s).2.1), .d (.int .i64 (lexS s).2.2)])))
theorem ltr5_Lex_0 (s : List UInt8) (out : List (RowE tkS)) (at_ : Int) : evRound T (En (Elx_Lex)) (Ln (Lr5_Lex)) (loopAt 0 (loops (bodyOf Try.f9))) (lsr5_Lex_0) [.val (.d (.str  s)), .app tkS out, .val (.d (.int .i64 at_))] =
    br (decide (at_ < (↑s.length : Int))) (chk (s.length ≤ (140737488351232 : Nat)) (br ((nextS s at_).snd.snd != (0 : Int)) (some (Rnd.out Ex.ret [SV.app tkS [], SV.val (AV.d (D.int IntKind.i64 at_)), SV.val (AV.d (D.int IntKind.i64 (nextS s at_).snd.snd))])) (br (decide ((↑out.length : Int) ≥ (4096 : Int))) (some (Rnd.out Ex.ret [SV.app tkS [], SV.val (AV.d (D.int IntKind.i64 at_)), SV.val (AV.d (D.int IntKind.i64 (3 : Int)))])) (chk (((↑out.length : Int) + (↑[((nextS s at_).fst.fst, (nextS s at_).fst.snd.fst, (nextS s at_).fst.snd.snd.fst, (nextS s at_).fst.snd.snd.snd.fst, (nextS s at_).fst.snd.snd.snd.snd.fst, (nextS s at_).fst.snd.snd.snd.snd.snd.fst, (nextS s at_).fst.snd.snd.snd.snd.snd.snd.fst, ())].length : Int)) * (↑(88 : Nat) : Int) < lim) (chk (s.length ≤ (1152921504606846976 : Nat) ∧ (0 : Int) ≤ (nextS s at_).snd.fst ∧ (nextS s at_).snd.fst ≤ (↑s.length : Int) ∧ ((1 : Int) = (1 : Int) ∨ (1 : Int) = (2 : Int) ∨ (1 : Int) = (3 : Int))) (some (Rnd.again [SV.val (AV.d (D.str s)), SV.app tkS (out ++ [((nextS s at_).fst.fst, (nextS s at_).fst.snd.fst, (nextS s at_).fst.snd.snd.fst, (nextS s at_).fst.snd.snd.snd.fst, (nextS s at_).fst.snd.snd.snd.snd.fst, (nextS s at_).fst.snd.snd.snd.snd.snd.fst, (nextS s at_).fst.snd.snd.snd.snd.snd.snd.fst, ())]), SV.val (AV.d (D.int IntKind.i64 (IntKind.i64.wrap ((nextS s at_).snd.fst + (↑(many (runI (1 : Int)) (List.drop (nextS s at_).snd.fst.toNat s)) : Int)))))]))))))) (some (Rnd.out (Ex.exit (0 : Nat)) [SV.app tkS out])) := by kernel_rfl
theorem lokr5_Lex_0 : LoopOK T (En (Elx_Lex)) (Ln (Lr5_Lex)) (loopAt 0 (loops (bodyOf Try.f9))) := by
  refine loop_ok (live := [0, 5, 6]) (outs := [5]) (rets := [2, 3, 4]) (ks := [.v false [.str], .a tkS, .v false [.int .i64]]) (G := lgr5_Lex_0) (lkr5_Lex_0) (lmr5_Lex_0) (by kernel_rfl) ?_
  rintro ⟨⟨(s : List UInt8), _⟩, (out : List (RowE tkS)), ⟨(at_ : Int), _⟩, _⟩ x hok hx
  refine Leads.of_eq (ltr5_Lex_0 s out at_) ?_
  obtain ⟨h0, h1, h2, h3, h4⟩ := hok
  obtain ⟨p, rfl⟩ := Int.eq_ofNat_of_zero_le h0
  have ha : p ≤ s.length := by omega
  simp only [lgr5_Lex_0, Int.toNat_natCast] at hx h4
  rw [lexR_step s p ha, h4, Nat.add_zero] at hx
  rw [nextS_nat s p ha, h4, Nat.add_zero]
  have hw := wordS_le (s.drop p)
  rw [List.length_drop] at hw
  by_cases q : p = s.length
  · rw [if_pos q] at hx
    refine Leads.brD (fun z => by omega) (fun _ => Leads.one (Goes.out ?_))
    have := Out_leaf (Out_tt hx)
    simpa using this
  · rw [if_neg q] at hx ⊢
    refine Leads.brD (fun _ => Leads.chk (by omega) fun _ => ?_) (fun z => by omega)
    by_cases q2 : (wordS (s.drop p)).2 = 0
    · rw [if_pos q2] at hx ⊢
      exact Leads.brN (fun z => absurd z (by decide)) (fun _ => Leads.one (Goes.out (Out_leaf (Out_ff hx))))
    · rw [if_neg q2] at hx ⊢
      dsimp only
      generalize hn : p + (wordS (s.drop p)).2 = n at *
      have hm := many_le spaceI (s.drop n)
      rw [List.length_drop] at hm
      rw [runI1, Int.toNat_natCast, wrap64 (x := (n : Int) + _) (by omega) (by omega), show (n : Int) + ((many spaceI (s.drop n) : Nat) : Int) = ((n + many spaceI (s.drop n) : Nat) : Int) by omega]
      refine Leads.brN (fun _ => Leads.brD (fun z => ?_) (fun _ => Leads.chk ?_ fun _ => Leads.chk ⟨by omega, by omega, by omega, by simp⟩ fun _ => Leads.one ?_)) (fun z => absurd rfl z)
      · exfalso; omega
      · simp only [lim, List.length_cons, List.length_nil]; omega
      · refine Goes.again (ks := [.v false [.str], .a tkS, .v false [.int .i64]]) ((_, ()), _, (_, ()), ()) rfl ?_ ?_ ?_
        · exact ⟨by show (0 : Int) ≤ ((n + many spaceI (s.drop n) : Nat) : Int); omega, by show ((n + many spaceI (s.drop n) : Nat) : Int) ≤ (s.length : Int); omega, h2, by rw [List.length_append]; show _ ≤ ((n + many spaceI (s.drop n) : Nat) : Int); simp only [List.length_cons, List.length_nil]; omega, by rw [Int.toNat_natCast]; exact many_skip _ _ _⟩
        · simp only [lmr5_Lex_0, Int.toNat_natCast]; omega
        · simp only [lgr5_Lex_0, Int.toNat_natCast]
          rw [lexR_skip s n (by omega)]
          cases hr : (lexR s n).2 with
          | none => rw [hr] at hx; have := Out_leaf (Out_tt hx); exact .inl ⟨rfl, by show _ = x; simpa [atT, List.append_assoc] using this.symm⟩
          | some z => rw [hr] at hx; exact .inr ⟨rfl, (Out_leaf (Out_ff hx)).symm⟩
theorem tr5_Lex (s : List UInt8) : evF T (En (Elx_Lex)) (Ln (Lr5_Lex)) Try.f9 [.d (.str s)] =
    br (decide ((↑s.length : Int) > (4096 : Int))) (some (SV.val (AV.tup [AV.d (D.sl tkS []), AV.d (D.int IntKind.i64 (0 : Int)), AV.d (D.int IntKind.i64 (3 : Int))]))) (chk (s.length ≤ (1152921504606846976 : Nat) ∧ (0 : Int) ≤ (0 : Int) ∧ (0 : Int) ≤ (↑s.length : Int) ∧ ((1 : Int) = (1 : Int) ∨ (1 : Int) = (2 : Int) ∨ (1 : Int) = (3 : Int))) (chk (lkr5_Lex_0 ((s, ()), [], ((↑(many (runI (1 : Int)) (List.drop (Int.toNat (0 : Int)) s)) : Int), ()), ())) (br (lexR s (↑(many (runI (1 : Int)) (List.drop (Int.toNat (0 : Int)) s)) : Int).toNat).snd.isNone (some (SV.val (AV.tup [AV.d (D.sl tkS ([] ++ (lexR s (↑(many (runI (1 : Int)) (List.drop (Int.toNat (0 : Int)) s)) : Int).toNat).fst)), AV.d (D.int IntKind.i64 (0 : Int)), AV.d (D.int IntKind.i64 (0 : Int))]))) (some (SV.val (AV.tup [AV.d (D.sl tkS []), AV.d (D.int IntKind.i64 (↑((lexR s (↑(many (runI (1 : Int)) (List.drop (Int.toNat (0 : Int)) s)) : Int).toNat).snd.getD (0 : Nat)) : Int)), AV.d (D.int IntKind.i64 (2 : Int))])))))) := by kernel_rfl
theorem satr5_Lex : Sat P 9 (Sr5_Lex) := by
  refine sat_mk (LT := Ln (Lr5_Lex)) hC oklx_Lex mixed Try.func9 (by kernel_rfl) (c := bodyOf Try.f9) (by kernel_rfl) (by kernel_rfl) ?_ (loops1 (by kernel_rfl) (lokr5_Lex_0))
  rintro ⟨⟨(s : List UInt8), _⟩, _⟩ sv h
  refine Leads.eq (Leads.of_eq (tr5_Lex s) ?_)
  obtain ⟨hs, h⟩ := h
  have h := Out_leaf h
  refine Leads.brD (fun q => Leads.one (by rw [h, lexS, if_pos (by omega)])) (fun q => ?_)
  have hl : s.length ≤ 4096 := by omega
  have hm := many_le spaceI s
  have hsk := many_skip spaceI s 0
  have hls := lexR_skip s 0 (by omega)
  simp only [List.drop_zero, Nat.zero_add] at hsk hls
  rw [lexS_eq s hl] at h
  rw [show List.drop (Int.toNat 0) s = s from rfl, runI1, Int.toNat_natCast, hls]
  refine Leads.chk ⟨by omega, by decide, by omega, by simp⟩ fun _ => Leads.chk ⟨by omega, by omega, hl, by simp, by simpa using hsk⟩ fun _ => ?_
  cases hr : (lexR s 0).2 with
  | none => rw [hr] at h; exact Leads.br (fun _ => Leads.one (by rw [h]; simp)) (fun z => by cases z)
  | some p => rw [hr] at h; exact Leads.br (fun z => by cases z) (fun _ => Leads.one (by rw [h]; simp))
def Er5_Lex : Es := (9, Sr5_Lex) :: Elx_Lex
theorem okr5_Lex : SatE P (En (Er5_Lex)) := SatE.cons (satr5_Lex) oklx_Lex
/-! ### legation/legationref05.Same -/
def lkr5_Same_0 : St [.v false [.sl [.int .i64, .str, .int .i64, .str, .str, .str, .int .i64]], .v false [.sl [.int .i64, .str, .int .i64, .str, .str, .str, .int .i64]], .v false [.bool], .v false [.int .i64]] → Prop := fun ⟨⟨(a : List (RowE [.int .i64, .str, .int .i64, .str, .str, .str, .int .i64])), _⟩, ⟨(b : List (RowE [.int .i64, .str, .int .i64, .str, .str, .str, .int .i64])), _⟩, ⟨(places : Bool), _⟩, ⟨(i : Int), _⟩, _⟩ => 0 ≤ i ∧ i ≤ (a.length : Int) ∧ a.length = b.length ∧ a.length ≤ 1152921504606846976
def lgr5_Same_0 : St [.v false [.sl [.int .i64, .str, .int .i64, .str, .str, .str, .int .i64]], .v false [.sl [.int .i64, .str, .int .i64, .str, .str, .str, .int .i64]], .v false [.bool], .v false [.int .i64]] → Tr (Ex × List SV) := fun ⟨⟨(a : List (RowE [.int .i64, .str, .int .i64, .str, .str, .str, .int .i64])), _⟩, ⟨(b : List (RowE [.int .i64, .str, .int .i64, .str, .str, .str, .int .i64])), _⟩, ⟨(places : Bool), _⟩, ⟨(i : Int), _⟩, _⟩ => .br (sameL places (a.drop i.toNat) (b.drop i.toNat)) (.leaf (.exit 0, [])) (.leaf (.ret, [.val (.d (.bool  (false)))]))
def lmr5_Same_0 : St [.v false [.sl [.int .i64, .str, .int .i64, .str, .str, .str, .int .i64]], .v false [.sl [.int .i64, .str, .int .i64, .str, .str, .str, .int .i64]], .v false [.bool], .v false [.int .i64]] → Nat := fun ⟨⟨(a : List (RowE [.int .i64, .str, .int .i64, .str, .str, .str, .int .i64])), _⟩, ⟨(b : List (RowE [.int .i64, .str, .int .i64, .str, .str, .str, .int .i64])), _⟩, ⟨(places : Bool), _⟩, ⟨(i : Int), _⟩, _⟩ => a.length - i.toNat
def lsr5_Same_0 : LoopS := mkR [0, 1, 2, 7] [] [6] [.v false [.sl [.int .i64, .str, .int .i64, .str, .str, .str, .int .i64]], .v false [.sl [.int .i64, .str, .int .i64, .str, .str, .str, .int .i64]], .v false [.bool], .v false [.int .i64]] (fun r => .chk (lkr5_Same_0 r) (lgr5_Same_0 r))
def Lr5_Same : Ls := [(4, lsr5_Same_0)]
def Sr5_Same := mkS [(false, [.sl [.int .i64, .str, .int .i64, .str, .str, .str, .int .i64]]), (false, [.sl [.int .i64, .str, .int .i64, .str, .str, .str, .int .i64]]), (false, [.bool])] fun ⟨⟨(a : List (RowE [.int .i64, .str, .int .i64, .str, .str, .str, .int .i64])), _⟩, ⟨(b : List (RowE [.int .i64, .str, .int .i64, .str, .str, .str, .int .i64])), _⟩, ⟨(places : Bool), _⟩, _⟩ => .chk (a.length ≤ 1152921504606846976 ∧ b.length ≤ 1152921504606846976) (bl (sameS a b places))
theorem ltr5_Same_0 (a : List (RowE [.int .i64, .str, .int .i64, .str, .str, .str, .int .i64])) (b : List (RowE [.int .i64, .str, .int .i64, .str, .str, .str, .int .i64])) (places : Bool) (i : Int) : evRound T (En (Er5_Lex)) (Ln (Lr5_Same)) (loopAt 0 (loops (bodyOf Try.f10))) (lsr5_Same_0) [.val (.d (.sl [.int .i64, .str, .int .i64, .str, .str, .str, .int .i64] a)), .val (.d (.sl [.int .i64, .str, .int .i64, .str, .str, .str, .int .i64] b)), .val (.d (.bool  places)), .val (.d (.int .i64 i))] =
    br (decide (i < (↑a.length : Int))) (chk ((0 : Int) ≤ i ∧ i < (↑a.length : Int)) (chk ((0 : Int) ≤ i ∧ i < (↑b.length : Int)) (br ((getR tkS a i).fst != (getR tkS b i).fst) (some (Rnd.out Ex.ret [SV.val (AV.d (D.bool false))])) (chk ((0 : Int) ≤ i ∧ i < (↑a.length : Int)) (chk ((0 : Int) ≤ i ∧ i < (↑b.length : Int)) (br (!(getR tkS a i).snd.fst == (getR tkS b i).snd.fst) (some (Rnd.out Ex.ret [SV.val (AV.d (D.bool false))])) (chk ((0 : Int) ≤ i ∧ i < (↑a.length : Int)) (chk ((0 : Int) ≤ i ∧ i < (↑b.length : Int)) (br (!((getR tkS a i).snd.snd.fst == (getR tkS b i).snd.snd.fst && ((getR tkS a i).snd.snd.snd.fst == (getR tkS b i).snd.snd.snd.fst && ((getR tkS a i).snd.snd.snd.snd.fst == (getR tkS b i).snd.snd.snd.snd.fst && (getR tkS a i).snd.snd.snd.snd.snd.fst == (getR tkS b i).snd.snd.snd.snd.snd.fst)))) (some (Rnd.out Ex.ret [SV.val (AV.d (D.bool false))])) (br places (chk ((0 : Int) ≤ i ∧ i < (↑a.length : Int)) (chk ((0 : Int) ≤ i ∧ i < (↑b.length : Int)) (br ((getR tkS a i).snd.snd.snd.snd.snd.snd.fst != (getR tkS b i).snd.snd.snd.snd.snd.snd.fst) (some (Rnd.out Ex.ret [SV.val (AV.d (D.bool false))])) (some (Rnd.again [SV.val (AV.d (D.sl tkS a)), SV.val (AV.d (D.sl tkS b)), SV.val (AV.d (D.bool places)), SV.val (AV.d (D.int IntKind.i64 (IntKind.i64.wrap (i + (1 : Int)))))]))))) (some (Rnd.again [SV.val (AV.d (D.sl tkS a)), SV.val (AV.d (D.sl tkS b)), SV.val (AV.d (D.bool places)), SV.val (AV.d (D.int IntKind.i64 (IntKind.i64.wrap (i + (1 : Int)))))])))))))))))) (some (Rnd.out (Ex.exit (0 : Nat)) [])) := by kernel_rfl
theorem lokr5_Same_0 : LoopOK T (En (Er5_Lex)) (Ln (Lr5_Same)) (loopAt 0 (loops (bodyOf Try.f10))) := by
  refine loop_ok (live := [0, 1, 2, 7]) (outs := []) (rets := [6]) (ks := [.v false [.sl [.int .i64, .str, .int .i64, .str, .str, .str, .int .i64]], .v false [.sl [.int .i64, .str, .int .i64, .str, .str, .str, .int .i64]], .v false [.bool], .v false [.int .i64]]) (G := lgr5_Same_0) (lkr5_Same_0) (lmr5_Same_0) (by kernel_rfl) ?_
  rintro ⟨⟨(a : List (RowE [.int .i64, .str, .int .i64, .str, .str, .str, .int .i64])), _⟩, ⟨(b : List (RowE [.int .i64, .str, .int .i64, .str, .str, .str, .int .i64])), _⟩, ⟨(places : Bool), _⟩, ⟨(i : Int), _⟩, _⟩ x hok hx
  refine Leads.of_eq (ltr5_Same_0 a b places i) ?_
  obtain ⟨h0, h1, h2, h3⟩ := hok
  obtain ⟨m, rfl⟩ := Int.eq_ofNat_of_zero_le h0
  simp only [lgr5_Same_0, Int.toNat_natCast] at hx
  rcases drop_cases a m with ⟨hle, hd⟩ | ⟨x1, hlt, hd, hb⟩
  · rw [hd] at hx
    exact Leads.brD (fun q => by omega) (fun _ => Leads.one (Goes.out (Out_leaf (Out_tt hx))))
  rcases drop_cases b m with ⟨hle', hd'⟩ | ⟨x2, hlt', hd', hb'⟩
  · omega
  rw [hd, hd'] at hx
  simp only [sameL] at hx
  rw [getR_of hb, getR_of hb', wrap64 (by omega) (by omega)]
  have bad : sameW x1 x2 places = false → x = (Ex.ret, [.val (.d (.bool false))]) := by
    intro q; rw [q] at hx; exact Out_leaf (Out_ff hx)
  have good : sameW x1 x2 places = true → Goes [.v false [.sl [.int .i64, .str, .int .i64, .str, .str, .str, .int .i64]], .v false [.sl [.int .i64, .str, .int .i64, .str, .str, .str, .int .i64]], .v false [.bool], .v false [.int .i64]] lgr5_Same_0 lkr5_Same_0 lmr5_Same_0 ((a, ()), (b, ()), (places, ()), ((m : Int), ()), ()) x (.again [.val (.d (.sl tkS a)), .val (.d (.sl tkS b)), .val (.d (.bool places)), .val (.d (.int .i64 ((m : Int) + 1)))]) := by
    intro q
    rw [q, Bool.true_and] at hx
    refine Goes.again (ks := [.v false [.sl [.int .i64, .str, .int .i64, .str, .str, .str, .int .i64]], .v false [.sl [.int .i64, .str, .int .i64, .str, .str, .str, .int .i64]], .v false [.bool], .v false [.int .i64]]) ((_, ()), (_, ()), (_, ()), (_, ()), ()) rfl ?_ ?_ ?_
    · exact ⟨by omega, by omega, h2, h3⟩
    · simp only [lmr5_Same_0]; omega
    · simp only [lgr5_Same_0, toNat_add1]; exact hx
  obtain ⟨a1, a2, a3, a4, a5, a6, a7, _⟩ := x1
  obtain ⟨b1, b2, b3, b4, b5, b6, b7, _⟩ := x2
  simp only [sameW] at bad good
  refine Leads.brD (fun _ => Leads.chk (by omega) fun _ => Leads.chk (by omega) fun _ => Leads.brN (fun e1 => Leads.chk (by omega) fun _ => Leads.chk (by omega) fun _ => Leads.brM (fun e2 => Leads.chk (by omega) fun _ => Leads.chk (by omega) fun _ => Leads.brG (fun e3 => Leads.br (fun pl => Leads.chk (by omega) fun _ => Leads.chk (by omega) fun _ => Leads.brN (fun e4 => Leads.one (good ?_)) (fun e4 => Leads.one (Goes.out (bad ?_)))) (fun pl => Leads.one (good ?_))) (fun e3 => Leads.one (Goes.out (bad ?_)))) (fun e2 => Leads.one (Goes.out (bad ?_)))) (fun e1 => Leads.one (Goes.out (bad ?_)))) (fun q => by omega)
  · simp at e1 e2 e3 e4; obtain ⟨f1, f2, f3, f4⟩ := e3; subst e1 e2 f1 f2 f3 f4 e4; simp
  · simp [e4, pl]
  · simp at e1 e2 e3; obtain ⟨f1, f2, f3, f4⟩ := e3; subst e1 e2 f1 f2 f3 f4; simp [pl]
  · simp at e3; simp; intros; simp_all
  · simp [e2]
  · simp [e1]
theorem tr5_Same (a : List (RowE [.int .i64, .str, .int .i64, .str, .str, .str, .int .i64])) (b : List (RowE [.int .i64, .str, .int .i64, .str, .str, .str, .int .i64])) (places : Bool) : evF T (En (Er5_Lex)) (Ln (Lr5_Same)) Try.f10 [.d (.sl [.int .i64, .str, .int .i64, .str, .str, .str, .int .i64] a), .d (.sl [.int .i64, .str, .int .i64, .str, .str, .str, .int .i64] b), .d (.bool places)] =
    br ((↑a.length : Int) != (↑b.length : Int)) (some (SV.val (AV.d (D.bool false)))) (chk (lkr5_Same_0 ((a, ()), (b, ()), (places, ()), ((0 : Int), ()), ())) (br (sameL places (List.drop (Int.toNat (0 : Int)) a) (List.drop (Int.toNat (0 : Int)) b)) (some (SV.val (AV.d (D.bool true)))) (some (SV.val (AV.d (D.bool false)))))) := by kernel_rfl
theorem satr5_Same : Sat P 10 (Sr5_Same) := by
  refine sat_mk (LT := Ln (Lr5_Same)) hC okr5_Lex mixed Try.func10 (by kernel_rfl) (c := bodyOf Try.f10) (by kernel_rfl) (by kernel_rfl) ?_ (loops1 (by kernel_rfl) (lokr5_Same_0))
  rintro ⟨⟨(a : List (RowE [.int .i64, .str, .int .i64, .str, .str, .str, .int .i64])), _⟩, ⟨(b : List (RowE [.int .i64, .str, .int .i64, .str, .str, .str, .int .i64])), _⟩, ⟨(places : Bool), _⟩, _⟩ sv h
  refine Leads.eq (Leads.of_eq (tr5_Same a b places) ?_)
  obtain ⟨⟨h1, h2⟩, h⟩ := h
  have h := Out_leaf h
  refine Leads.brN (fun q => Leads.chk ⟨by omega, by omega, by omega, h1⟩ fun _ => Leads.br (fun z => Leads.one ?_) (fun z => Leads.one ?_)) (fun q => Leads.one ?_)
  · have z : sameL places a b = true := z
    rw [h]; simp [sameS, z]; omega
  · have z : sameL places a b = false := z
    rw [h]; simp [sameS, z]
  · rw [h]; simp [sameS]; intro w; omega
def Er5_Same : Es := (10, Sr5_Same) :: Er5_Lex
theorem okr5_Same : SatE P (En (Er5_Same)) := SatE.cons (satr5_Same) okr5_Lex
/-! ### legation/legationref05.text -/
def Lr5_text : Ls := []
def Sr5_text := mkS [(true, tkS)] fun ⟨(t : RowE tkS), _⟩ => .chk (t.2.1.length ≤ 140737488355328 ∧ t.2.2.2.1.length ≤ 140737488355328 ∧ t.2.2.2.2.1.length ≤ 140737488355328 ∧ t.2.2.2.2.2.1.length ≤ 140737488355328) (.leaf (.val (.d (.str (wtext t)))))
theorem tr5_text (t : RowE tkS) : evF T (En (Er5_Same)) (Ln (Lr5_text)) Try.f25 [.agg (rowD tkS t)] =
    br (t.fst == (2 : Int)) (chk ((↑[(63 : UInt8)].length : Int) + (↑(List.length t.snd.fst) : Int) ≤ maxI) (some (SV.val (AV.d (D.str ([(63 : UInt8)] ++ t.snd.fst)))))) (br (t.fst == (3 : Int)) (chk (List.length t.snd.snd.snd.fst ≤ Big ∧ List.length t.snd.snd.snd.snd.fst ≤ Big ∧ List.length t.snd.snd.snd.snd.snd.fst ≤ Big) (br (!right t.snd.snd.fst t.snd.snd.snd.fst t.snd.snd.snd.snd.fst t.snd.snd.snd.snd.snd.fst) (some (SV.val (AV.d (D.str [])))) (chk (List.length t.snd.snd.snd.fst ≤ (1152921504606846976 : Nat) ∧ List.length t.snd.snd.snd.snd.fst ≤ (1152921504606846976 : Nat) ∧ List.length t.snd.snd.snd.snd.snd.fst ≤ (1152921504606846976 : Nat) ∧ ((t.snd.snd.fst, t.snd.snd.snd.fst, t.snd.snd.snd.snd.fst, t.snd.snd.snd.snd.snd.fst, ()).fst = (2 : CE (Sh.int IntKind.i64)) → (t.snd.snd.fst, t.snd.snd.snd.fst, t.snd.snd.snd.snd.fst, t.snd.snd.snd.snd.snd.fst, ()).snd.snd.fst = [] ∨ (t.snd.snd.fst, t.snd.snd.snd.fst, t.snd.snd.snd.snd.fst, t.snd.snd.snd.snd.snd.fst, ()).snd.snd.snd.fst = [])) (some (SV.val (AV.d (D.str (textT (t.snd.snd.fst, t.snd.snd.snd.fst, t.snd.snd.snd.snd.fst, t.snd.snd.snd.snd.snd.fst, ()))))))))) (some (SV.val (AV.d (D.str t.snd.fst))))) := by kernel_rfl
theorem satr5_text : Sat P 25 (Sr5_text) := by
  refine sat_mk (LT := Ln (Lr5_text)) hC okr5_Same mixed Try.func25 (by kernel_rfl) (c := bodyOf Try.f25) (by kernel_rfl) (by kernel_rfl) ?_ (loops0 (by kernel_rfl))
  rintro ⟨(t : RowE tkS), _⟩ sv h
  refine Leads.eq (Leads.of_eq (tr5_text t) ?_)
  obtain ⟨⟨h1, h2, h3, h4⟩, h⟩ := h
  have h := Out_leaf h
  have hB := Big_eq
  refine Leads.brE (fun q => Leads.chk (by simp [maxI]; omega) fun _ => Leads.one ?_) (fun q => Leads.brE (fun q1 => Leads.chk ⟨by omega, by omega, by omega⟩ fun _ => Leads.brG (fun q2 => Leads.chk ⟨by omega, by omega, by omega, fun k => ?_⟩ fun _ => Leads.one ?_) (fun q2 => Leads.one ?_)) (fun q1 => Leads.one ?_))
  · have q : t.1 = 2 := q
    rw [h]; simp [wtext, q]
  · have k : t.2.2.1 = 2 := k
    simp [right, k] at q2
    rcases q2.1.2 with z | z
    · exact .inl z
    · exact .inr z.2
  · have q1 : t.1 = 3 := q1
    rw [h]; simp [wtext, q1, q2, textT]
  · have q1 : t.1 = 3 := q1
    rw [h]; simp [wtext, q1, q2]
  · have q : ¬ t.1 = 2 := q
    have q1 : ¬ t.1 = 3 := q1
    rw [h]; simp [wtext, q, q1]
def Er5_text : Es := (25, Sr5_text) :: Er5_Same
theorem okr5_text : SatE P (En (Er5_text)) := SatE.cons (satr5_text) okr5_Same
end Go.Proofs.Ytcmdlllcjpbbkaa.T5
