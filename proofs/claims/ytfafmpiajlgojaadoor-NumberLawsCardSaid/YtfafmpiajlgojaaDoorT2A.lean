/- Part of a proof of the seat's statements: no statement by itself. -/
import Derived.Test.YtfafmpiajlgojaaDoorFmtI
import Derived.Test.YtfafmpiajlgojaaDoorSpP
set_option maxRecDepth 100000
open Go.Proofs.YtfafmpiajlgojaaDoor.Lg Go Go.Proofs.YtfafmpiajlgojaaDoor.Sp
open Go.Proofs
namespace Go.Proofs.YtfafmpiajlgojaaDoor.T2


abbrev nmS : List Sh := [.int .i64, .int .i64, .bool]
/-! ### internal/stringslite.Index -/
def lksIndex_0 : St [.v false [.str], .v false [.str], .v false [.int .i64], .v false [.int .u8], .v false [.int .u8], .v false [.int .i64], .v false [.int .i64], .v false [.int .i64]] → Prop := fun ⟨⟨(s : List UInt8), _⟩, ⟨(substr : List UInt8), _⟩, ⟨(n : Int), _⟩, ⟨(c0 : Int), _⟩, ⟨(c1 : Int), _⟩, ⟨(i : Int), _⟩, ⟨(t : Int), _⟩, ⟨(fails : Int), _⟩, _⟩ => False
def lgsIndex_0 : St [.v false [.str], .v false [.str], .v false [.int .i64], .v false [.int .u8], .v false [.int .u8], .v false [.int .i64], .v false [.int .i64], .v false [.int .i64]] → Tr (Ex × List SV) := fun ⟨⟨(s : List UInt8), _⟩, ⟨(substr : List UInt8), _⟩, ⟨(n : Int), _⟩, ⟨(c0 : Int), _⟩, ⟨(c1 : Int), _⟩, ⟨(i : Int), _⟩, ⟨(t : Int), _⟩, ⟨(fails : Int), _⟩, _⟩ => .none
def lmsIndex_0 : St [.v false [.str], .v false [.str], .v false [.int .i64], .v false [.int .u8], .v false [.int .u8], .v false [.int .i64], .v false [.int .i64], .v false [.int .i64]] → Nat := fun ⟨⟨(s : List UInt8), _⟩, ⟨(substr : List UInt8), _⟩, ⟨(n : Int), _⟩, ⟨(c0 : Int), _⟩, ⟨(c1 : Int), _⟩, ⟨(i : Int), _⟩, ⟨(t : Int), _⟩, ⟨(fails : Int), _⟩, _⟩ => 0
def lssIndex_0 : LoopS := mkR [0, 1, 5, 6, 7, 8, 9, 10] [] [4] [.v false [.str], .v false [.str], .v false [.int .i64], .v false [.int .u8], .v false [.int .u8], .v false [.int .i64], .v false [.int .i64], .v false [.int .i64]] (fun r => .chk (lksIndex_0 r) (lgsIndex_0 r))
def LsIndex : Ls := [(15, lssIndex_0)]
def SsIndex := mkS [(false, [.str]), (false, [.str])] fun ⟨⟨(s : List UInt8), _⟩, ⟨(substr : List UInt8), _⟩, _⟩ => .chk (s.length ≤ 1152921504606846976 ∧ substr = [46]) (ii (Lib.indexByte s 46))
theorem ltsIndex_0 (s : List UInt8) (substr : List UInt8) (n : Int) (c0 : Int) (c1 : Int) (i : Int) (t : Int) (fails : Int) : evRound T (En (EFmt)) (Ln (LsIndex)) (loopAt 0 (loops (bodyOf Tryd.f48))) (lssIndex_0) [.val (.d (.str  s)), .val (.d (.str  substr)), .val (.d (.int .i64 n)), .val (.d (.int .u8 c0)), .val (.d (.int .u8 c1)), .val (.d (.int .i64 i)), .val (.d (.int .i64 t)), .val (.d (.int .i64 fails))] =
    br (decide (i < t)) (chk ((0 : Int) ≤ i ∧ i < (↑s.length : Int)) (br (byteAt s i != c0) (chk ((0 : Int) ≤ IntKind.i64.wrap (i + (1 : Int)) ∧ IntKind.i64.wrap (i + (1 : Int)) ≤ t ∧ t ≤ (↑s.length : Int)) (br (decide (Lib.indexByte (List.drop (IntKind.i64.wrap (i + (1 : Int))).toNat (List.take t.toNat s)) c0.toNat.toUInt8 < (0 : Int))) (some (Rnd.out Ex.ret [SV.val (AV.d (D.int IntKind.i64 (-1 : Int)))])) (chk ((0 : Int) ≤ IntKind.i64.wrap (IntKind.i64.wrap (i + IntKind.i64.wrap (Lib.indexByte (List.drop (IntKind.i64.wrap (i + (1 : Int))).toNat (List.take t.toNat s)) c0.toNat.toUInt8 + (1 : Int))) + (1 : Int)) ∧ IntKind.i64.wrap (IntKind.i64.wrap (i + IntKind.i64.wrap (Lib.indexByte (List.drop (IntKind.i64.wrap (i + (1 : Int))).toNat (List.take t.toNat s)) c0.toNat.toUInt8 + (1 : Int))) + (1 : Int)) < (↑s.length : Int)) (br (byteAt s (IntKind.i64.wrap (IntKind.i64.wrap (i + IntKind.i64.wrap (Lib.indexByte (List.drop (IntKind.i64.wrap (i + (1 : Int))).toNat (List.take t.toNat s)) c0.toNat.toUInt8 + (1 : Int))) + (1 : Int))) == c1) (chk ((0 : Int) ≤ IntKind.i64.wrap (i + IntKind.i64.wrap (Lib.indexByte (List.drop (IntKind.i64.wrap (i + (1 : Int))).toNat (List.take t.toNat s)) c0.toNat.toUInt8 + (1 : Int))) ∧ IntKind.i64.wrap (i + IntKind.i64.wrap (Lib.indexByte (List.drop (IntKind.i64.wrap (i + (1 : Int))).toNat (List.take t.toNat s)) c0.toNat.toUInt8 + (1 : Int))) ≤ IntKind.i64.wrap (IntKind.i64.wrap (i + IntKind.i64.wrap (Lib.indexByte (List.drop (IntKind.i64.wrap (i + (1 : Int))).toNat (List.take t.toNat s)) c0.toNat.toUInt8 + (1 : Int))) + n) ∧ IntKind.i64.wrap (IntKind.i64.wrap (i + IntKind.i64.wrap (Lib.indexByte (List.drop (IntKind.i64.wrap (i + (1 : Int))).toNat (List.take t.toNat s)) c0.toNat.toUInt8 + (1 : Int))) + n) ≤ (↑s.length : Int)) (br (List.drop (IntKind.i64.wrap (i + IntKind.i64.wrap (Lib.indexByte (List.drop (IntKind.i64.wrap (i + (1 : Int))).toNat (List.take t.toNat s)) c0.toNat.toUInt8 + (1 : Int)))).toNat (List.take (IntKind.i64.wrap (IntKind.i64.wrap (i + IntKind.i64.wrap (Lib.indexByte (List.drop (IntKind.i64.wrap (i + (1 : Int))).toNat (List.take t.toNat s)) c0.toNat.toUInt8 + (1 : Int))) + n)).toNat s) == substr) (some (Rnd.out Ex.ret [SV.val (AV.d (D.int IntKind.i64 (IntKind.i64.wrap (i + IntKind.i64.wrap (Lib.indexByte (List.drop (IntKind.i64.wrap (i + (1 : Int))).toNat (List.take t.toNat s)) c0.toNat.toUInt8 + (1 : Int))))))])) none)) none)))) (chk ((0 : Int) ≤ IntKind.i64.wrap (i + (1 : Int)) ∧ IntKind.i64.wrap (i + (1 : Int)) < (↑s.length : Int)) (br (byteAt s (IntKind.i64.wrap (i + (1 : Int))) == c1) (chk ((0 : Int) ≤ i ∧ i ≤ IntKind.i64.wrap (i + n) ∧ IntKind.i64.wrap (i + n) ≤ (↑s.length : Int)) (br (List.drop i.toNat (List.take (IntKind.i64.wrap (i + n)).toNat s) == substr) (some (Rnd.out Ex.ret [SV.val (AV.d (D.int IntKind.i64 i))])) none)) none)))) (some (Rnd.out (Ex.exit (1 : Nat)) [])) := by kernel_rfl
theorem loksIndex_0 : LoopOK T (En (EFmt)) (Ln (LsIndex)) (loopAt 0 (loops (bodyOf Tryd.f48))) := by
  refine loop_ok (live := [0, 1, 5, 6, 7, 8, 9, 10]) (outs := []) (rets := [4]) (ks := [.v false [.str], .v false [.str], .v false [.int .i64], .v false [.int .u8], .v false [.int .u8], .v false [.int .i64], .v false [.int .i64], .v false [.int .i64]]) (G := lgsIndex_0) (lksIndex_0) (lmsIndex_0) (by kernel_rfl) ?_
  rintro ⟨⟨(s : List UInt8), _⟩, ⟨(substr : List UInt8), _⟩, ⟨(n : Int), _⟩, ⟨(c0 : Int), _⟩, ⟨(c1 : Int), _⟩, ⟨(i : Int), _⟩, ⟨(t : Int), _⟩, ⟨(fails : Int), _⟩, _⟩ x hok hx
  refine Leads.of_eq (ltsIndex_0 s substr n c0 c1 i t fails) ?_
  exact hok.elim
theorem tsIndex (s : List UInt8) (substr : List UInt8) : evF T (En (EFmt)) (Ln (LsIndex)) Tryd.f48 [.d (.str s), .d (.str substr)] =
    br ((↑substr.length : Int) == (0 : Int)) (some (SV.val (AV.d (D.int IntKind.i64 (0 : Int))))) (br (substr == s) (some (SV.val (AV.d (D.int IntKind.i64 (0 : Int))))) (br ((↑substr.length : Int) == (1 : Int)) (chk ((0 : Int) ≤ (0 : Int) ∧ (0 : Int) < (↑substr.length : Int)) (some (SV.val (AV.d (D.int IntKind.i64 (Lib.indexByte s (byteAt substr (0 : Int)).toNat.toUInt8)))))) (br (decide ((↑substr.length : Int) ≥ (↑s.length : Int))) (some (SV.val (AV.d (D.int IntKind.i64 (-1 : Int))))) none))) := by kernel_rfl
theorem satsIndex : Sat P 48 (SsIndex) := by
  refine sat_mk (LT := Ln (LsIndex)) hC okFmt mixed Tryd.func48 (by kernel_rfl) (c := bodyOf Tryd.f48) (by kernel_rfl) (by kernel_rfl) ?_ (loops1 (by kernel_rfl) (loksIndex_0))
  rintro ⟨⟨(s : List UInt8), _⟩, ⟨(substr : List UInt8), _⟩, _⟩ sv h
  refine Leads.eq (Leads.of_eq (tsIndex s substr) ?_)
  obtain ⟨⟨_, rfl⟩, h⟩ := h
  have h := Out_leaf h
  refine Leads.brE (fun q => absurd q (by decide)) fun _ => Leads.brE (fun q => Leads.one ?_) fun _ => Leads.brE (fun _ => Leads.chk (by decide) fun _ => Leads.one (by rw [h]; rfl)) (fun q => absurd rfl q)
  rw [h]; have q : [46] = s := q; subst q; rfl
def EsIndex : Es := (48, SsIndex) :: EFmt
theorem oksIndex : SatE P (En (EsIndex)) := SatE.cons (satsIndex) okFmt
/-! ### internal/stringslite.Cut -/
def LsCut : Ls := []
def SsCut := mkS [(false, [.str]), (false, [.str])] fun ⟨⟨(s : List UInt8), _⟩, ⟨(sep : List UInt8), _⟩, _⟩ => .chk (s.length ≤ 1152921504606846976 ∧ sep = [46]) (.leaf (.val (.tup [.d (.str (headD s)), .d (.str (tailD s)), .d (.bool (hasD s))])))
theorem tsCut (s : List UInt8) (sep : List UInt8) : evF T (En (EsIndex)) (Ln (LsCut)) Tryd.f39 [.d (.str s), .d (.str sep)] =
    chk (s.length ≤ (1152921504606846976 : Nat) ∧ sep = [(46 : UInt8)]) (br (decide (Lib.indexByte s (46 : UInt8) ≥ (0 : Int))) (chk ((0 : Int) ≤ Lib.indexByte s (46 : UInt8) ∧ Lib.indexByte s (46 : UInt8) ≤ (↑s.length : Int)) (chk ((0 : Int) ≤ IntKind.i64.wrap (Lib.indexByte s (46 : UInt8) + (↑sep.length : Int)) ∧ IntKind.i64.wrap (Lib.indexByte s (46 : UInt8) + (↑sep.length : Int)) ≤ (↑s.length : Int)) (some (SV.val (AV.tup [AV.d (D.str (List.take (Lib.indexByte s (46 : UInt8)).toNat s)), AV.d (D.str (List.drop (IntKind.i64.wrap (Lib.indexByte s (46 : UInt8) + (↑sep.length : Int))).toNat s)), AV.d (D.bool true)]))))) (some (SV.val (AV.tup [AV.d (D.str s), AV.d (D.str []), AV.d (D.bool false)])))) := by kernel_rfl
theorem satsCut : Sat P 39 (SsCut) := by
  refine sat_mk (LT := Ln (LsCut)) hC oksIndex mixed Tryd.func39 (by kernel_rfl) (c := bodyOf Tryd.f39) (by kernel_rfl) (by kernel_rfl) ?_ (loops0 (by kernel_rfl))
  rintro ⟨⟨(s : List UInt8), _⟩, ⟨(sep : List UInt8), _⟩, _⟩ sv h
  refine Leads.eq (Leads.of_eq (tsCut s sep) ?_)
  obtain ⟨⟨hs, rfl⟩, h⟩ := h
  have h := Out_leaf h
  refine Leads.chk ⟨hs, rfl⟩ fun _ => ?_
  rcases cutD s with ⟨c1, c2, c3, c4, c5⟩ | ⟨c1, c2, c3, c4⟩
  · have e : IntKind.i64.wrap (Go.Lib.indexByte s 46 + (([46] : B).length : Int)) = Go.Lib.indexByte s 46 + 1 := wrap64 (by simp; omega) (by simp; omega)
    rw [e, show (Go.Lib.indexByte s 46 + 1).toNat = (Go.Lib.indexByte s 46).toNat + 1 by omega]
    exact Leads.brD (fun _ => Leads.chk (by omega) fun _ => Leads.chk (by omega) fun _ => Leads.one (by rw [h, c1, c4, c5])) (fun z => absurd c2 z)
  · exact Leads.brD (fun z => absurd z (by omega)) (fun _ => Leads.one (by rw [h, c1, c3, c4]))
def EsCut : Es := (39, SsCut) :: EsIndex
theorem oksCut : SatE P (En (EsCut)) := SatE.cons (satsCut) oksIndex
/-! ### strings.Cut -/
def LtCut : Ls := []
def StCut := mkS [(false, [.str]), (false, [.str])] fun ⟨⟨(s : List UInt8), _⟩, ⟨(sep : List UInt8), _⟩, _⟩ => (.chk (s.length ≤ (1152921504606846976 : Nat) ∧ sep = [(46 : UInt8)]) (.leaf (SV.val (AV.tup [AV.d (D.str (headD s)), AV.d (D.str (tailD s)), AV.d (D.bool (hasD s))]))))
theorem ttCut (s : List UInt8) (sep : List UInt8) : evF T (En (EsCut)) (Ln (LtCut)) Tryd.f27 [.d (.str s), .d (.str sep)] =
    chk (s.length ≤ (1152921504606846976 : Nat) ∧ sep = [(46 : UInt8)]) (some (SV.val (AV.tup [AV.d (D.str (headD s)), AV.d (D.str (tailD s)), AV.d (D.bool (hasD s))]))) := by kernel_rfl
theorem sattCut : Sat P 27 (StCut) := by
  refine sat_mk (LT := Ln (LtCut)) hC oksCut mixed Tryd.func27 (by kernel_rfl) (c := bodyOf Tryd.f27) (by kernel_rfl) (by kernel_rfl) ?_ (loops0 (by kernel_rfl))
  rintro ⟨⟨(s : List UInt8), _⟩, ⟨(sep : List UInt8), _⟩, _⟩ sv h
  exact (ttCut s sep).trans (Tr.run_out (K := fun z => some z) h)
def EtCut : Es := (27, StCut) :: EsCut
theorem oktCut : SatE P (En (EtCut)) := SatE.cons (sattCut) oksCut
/-! ### internal/stringslite.TrimPrefix -/
def LsTrim : Ls := []
def SsTrim := mkS [(false, [.str]), (false, [.str])] fun ⟨⟨(s : List UInt8), _⟩, ⟨(pre : List UInt8), _⟩, _⟩ => .chk (s.length ≤ Big ∧ pre.length ≤ Big) (.leaf (.val (.d (.str (trimP s pre)))))
theorem tsTrim (s : List UInt8) (pre : List UInt8) : evF T (En (EtCut)) (Ln (LsTrim)) Tryd.f38 [.d (.str s), .d (.str pre)] =
    chk (s.length ≤ Big ∧ pre.length ≤ Big) (br (decide (List.take pre.length s = pre)) (chk ((0 : Int) ≤ (↑pre.length : Int) ∧ (↑pre.length : Int) ≤ (↑s.length : Int)) (some (SV.val (AV.d (D.str (List.drop (↑pre.length : Int).toNat s)))))) (some (SV.val (AV.d (D.str s))))) := by kernel_rfl
theorem satsTrim : Sat P 38 (SsTrim) := by
  refine sat_mk (LT := Ln (LsTrim)) hC oktCut mixed Tryd.func38 (by kernel_rfl) (c := bodyOf Tryd.f38) (by kernel_rfl) (by kernel_rfl) ?_ (loops0 (by kernel_rfl))
  rintro ⟨⟨(s : List UInt8), _⟩, ⟨(pre : List UInt8), _⟩, _⟩ sv h
  refine Leads.eq (Leads.of_eq (tsTrim s pre) ?_)
  obtain ⟨hs, h⟩ := h
  have h := Out_leaf h
  refine Leads.chk hs fun _ => Leads.brD (fun z => Leads.chk ?_ fun _ => Leads.one ?_) (fun z => Leads.one ?_)
  · have := congrArg List.length z
    rw [List.length_take] at this
    omega
  · rw [h, trimP, if_pos z, Int.toNat_natCast]
  · rw [h, trimP, if_neg z]
def EsTrim : Es := (38, SsTrim) :: EtCut
theorem oksTrim : SatE P (En (EsTrim)) := SatE.cons (satsTrim) oktCut
/-! ### strings.TrimPrefix -/
def LtTrim : Ls := []
def StTrim := mkS [(false, [.str]), (false, [.str])] fun ⟨⟨(s : List UInt8), _⟩, ⟨(prefix_ : List UInt8), _⟩, _⟩ => (.chk (s.length ≤ Big ∧ prefix_.length ≤ Big) (.leaf (SV.val (AV.d (D.str (trimP s prefix_))))))
theorem ttTrim (s : List UInt8) (prefix_ : List UInt8) : evF T (En (EsTrim)) (Ln (LtTrim)) Tryd.f26 [.d (.str s), .d (.str prefix_)] =
    chk (s.length ≤ Big ∧ prefix_.length ≤ Big) (some (SV.val (AV.d (D.str (trimP s prefix_))))) := by kernel_rfl
theorem sattTrim : Sat P 26 (StTrim) := by
  refine sat_mk (LT := Ln (LtTrim)) hC oksTrim mixed Tryd.func26 (by kernel_rfl) (c := bodyOf Tryd.f26) (by kernel_rfl) (by kernel_rfl) ?_ (loops0 (by kernel_rfl))
  rintro ⟨⟨(s : List UInt8), _⟩, ⟨(prefix_ : List UInt8), _⟩, _⟩ sv h
  exact (ttTrim s prefix_).trans (Tr.run_out (K := fun z => some z) h)
def EtTrim : Es := (26, StTrim) :: EsTrim
theorem oktTrim : SatE P (En (EtTrim)) := SatE.cons (sattTrim) oksTrim
/-! ### legation/number.Check -/
def LnCheck : Ls := []
def SnCheck := mkS [(true, nmS)] fun ⟨(n : RowE nmS), _⟩ => ii (if rightN n = true then 0 else 2)
theorem tnCheck (n : RowE nmS) : evF T (En (EtTrim)) (Ln (LnCheck)) Tryd.f23 [.agg (rowD nmS n)] =
    br (decide (n.fst < (-999999999 : Int))) (some (SV.val (AV.d (D.int IntKind.i64 (2 : Int))))) (br (decide (n.fst > (999999999 : Int))) (some (SV.val (AV.d (D.int IntKind.i64 (2 : Int))))) (br (decide (n.snd.fst < (0 : Int))) (some (SV.val (AV.d (D.int IntKind.i64 (2 : Int))))) (br (decide (n.snd.fst > (4 : Int))) (some (SV.val (AV.d (D.int IntKind.i64 (2 : Int))))) (br (!n.snd.snd.fst) (br (n.snd.fst != (0 : Int)) (some (SV.val (AV.d (D.int IntKind.i64 (2 : Int))))) (br (n.snd.fst != (0 : Int)) (chk (¬(10 : Int) = (0 : Int)) (br (Int.tmod n.fst (10 : Int) == (0 : Int)) (some (SV.val (AV.d (D.int IntKind.i64 (2 : Int))))) (some (SV.val (AV.d (D.int IntKind.i64 (0 : Int))))))) (some (SV.val (AV.d (D.int IntKind.i64 (0 : Int))))))) (br (n.snd.fst != (0 : Int)) (chk (¬(10 : Int) = (0 : Int)) (br (Int.tmod n.fst (10 : Int) == (0 : Int)) (some (SV.val (AV.d (D.int IntKind.i64 (2 : Int))))) (some (SV.val (AV.d (D.int IntKind.i64 (0 : Int))))))) (some (SV.val (AV.d (D.int IntKind.i64 (0 : Int)))))))))) := by kernel_rfl
theorem satnCheck : Sat P 23 (SnCheck) := by
  refine sat_mk (LT := Ln (LnCheck)) hC oktTrim mixed Tryd.func23 (by kernel_rfl) (c := bodyOf Tryd.f23) (by kernel_rfl) (by kernel_rfl) ?_ (loops0 (by kernel_rfl))
  rintro ⟨(n : RowE nmS), _⟩ sv h
  refine Leads.eq (Leads.of_eq (tnCheck n) ?_)
  have h := Out_leaf h
  repeat' (first | refine Leads.brD (fun _ => ?_) (fun _ => ?_) | refine Leads.brE (fun _ => ?_) (fun _ => ?_) | refine Leads.brN (fun _ => ?_) (fun _ => ?_) | refine Leads.brM (fun _ => ?_) (fun _ => ?_) | refine Leads.brG (fun _ => ?_) (fun _ => ?_) | refine Leads.br (fun _ => ?_) (fun _ => ?_) | refine Leads.chk ?_ (fun _ => ?_) | refine Leads.one ?_ | refine Leads.brP (fun _ => ?_) (fun _ => ?_))
  all_goals try exact (by decide : ¬ (10 : Int) = 0)
  all_goals try dsimp only [CE] at *
  all_goals rw [h]
  all_goals first | (rw [if_neg]; rw [rightN_iff]; rintro ⟨z1, z2, z3, z4, z5⟩; first | omega | (rcases z5 with z5 | ⟨z5, z6⟩ <;> simp_all)) | (rw [if_pos]; rw [rightN_iff]; refine ⟨by omega, by omega, by omega, by omega, ?_⟩; first | (left; omega) | (right; simp_all))
def EnCheck : Es := (23, SnCheck) :: EtTrim
theorem oknCheck : SatE P (En (EnCheck)) := SatE.cons (satnCheck) oktTrim
/-! ### legation/legationref02.Right -/
def LrRight : Ls := []
def SrRight := mkS [(true, nmS)] fun ⟨(n : RowE nmS), _⟩ => bl (rightN n)
theorem trRight (n : RowE nmS) : evF T (En (EnCheck)) (Ln (LrRight)) Tryd.f15 [.agg (rowD nmS n)] =
    br (decide (n.fst < (-999999999 : Int))) (some (SV.val (AV.d (D.bool false)))) (br (decide (n.fst > (999999999 : Int))) (some (SV.val (AV.d (D.bool false)))) (br (decide (n.snd.fst < (0 : Int))) (some (SV.val (AV.d (D.bool false)))) (br (decide (n.snd.fst > (4 : Int))) (some (SV.val (AV.d (D.bool false)))) (br (n.snd.fst == (0 : Int)) (some (SV.val (AV.d (D.bool true)))) (br n.snd.snd.fst (chk (¬(10 : Int) = (0 : Int)) (some (SV.val (AV.d (D.bool (Int.tmod n.fst (10 : Int) != (0 : Int))))))) (some (SV.val (AV.d (D.bool false))))))))) := by kernel_rfl
theorem satrRight : Sat P 15 (SrRight) := by
  refine sat_mk (LT := Ln (LrRight)) hC oknCheck mixed Tryd.func15 (by kernel_rfl) (c := bodyOf Tryd.f15) (by kernel_rfl) (by kernel_rfl) ?_ (loops0 (by kernel_rfl))
  rintro ⟨(n : RowE nmS), _⟩ sv h
  refine Leads.eq (Leads.of_eq (trRight n) ?_)
  have h := Out_leaf h
  repeat' (first | refine Leads.brD (fun _ => ?_) (fun _ => ?_) | refine Leads.brE (fun _ => ?_) (fun _ => ?_) | refine Leads.brN (fun _ => ?_) (fun _ => ?_) | refine Leads.brM (fun _ => ?_) (fun _ => ?_) | refine Leads.brG (fun _ => ?_) (fun _ => ?_) | refine Leads.br (fun _ => ?_) (fun _ => ?_) | refine Leads.chk ?_ (fun _ => ?_) | refine Leads.one ?_ | refine Leads.brP (fun _ => ?_) (fun _ => ?_))
  all_goals try exact (by decide : ¬ (10 : Int) = 0)
  all_goals try dsimp only [CE] at *
  all_goals rw [h]
  all_goals first | (rw [(rightN_iff n).2]; refine ⟨by omega, by omega, by omega, by omega, ?_⟩; left; omega) | (rw [rightN_not n]; rintro ⟨z1, z2, z3, z4, z5⟩; first | omega | (rcases z5 with z5 | ⟨z5, z6⟩ <;> simp_all)) | skip
  all_goals simp_all [rightN]
  all_goals first | omega | (by_cases q : Int.tmod n.1 10 = 0 <;> simp [q])
def ErRight : Es := (15, SrRight) :: EnCheck
theorem okrRight : SatE P (En (ErRight)) := SatE.cons (satrRight) oknCheck
/-! ### legation/number.cut -/
def lkncut_0 : St [.v false [.int .i64], .v false [.int .i64]] → Prop := fun ⟨⟨(value : Int), _⟩, ⟨(scale : Int), _⟩, _⟩ => 0 ≤ scale ∧ scale ≤ 100 ∧ i64 value
def lgncut_0 : St [.v false [.int .i64], .v false [.int .i64]] → Tr (Ex × List SV) := fun ⟨⟨(value : Int), _⟩, ⟨(scale : Int), _⟩, _⟩ => .leaf (.exit 0, [.val (.d (.int .i64 (cutV value scale))), .val (.d (.int .i64 (cutS value scale)))])
def lmncut_0 : St [.v false [.int .i64], .v false [.int .i64]] → Nat := fun ⟨⟨(value : Int), _⟩, ⟨(scale : Int), _⟩, _⟩ => scale.toNat
def lsncut_0 : LoopS := mkR [0, 1] [0, 1] [] [.v false [.int .i64], .v false [.int .i64]] (fun r => .chk (lkncut_0 r) (lgncut_0 r))
def Lncut : Ls := [(1, lsncut_0)]
def Sncut := mkS [(false, [.int .i64]), (false, [.int .i64]), (false, [.bool])] fun ⟨⟨(value : Int), _⟩, ⟨(scale : Int), _⟩, ⟨(decimal : Bool), _⟩, _⟩ => .chk (0 ≤ scale ∧ scale ≤ 100 ∧ i64 value) (.br (cutOK value scale) (.leaf (.val (.tup [.agg (rowD nmS (cutV value scale, cutS value scale, decimal, ())), .d (.int .i64 0)]))) (.leaf (.val (.tup [.agg (rowD nmS n0), .d (.int .i64 5)]))))
theorem ltncut_0 (value : Int) (scale : Int) : evRound T (En (ErRight)) (Ln (Lncut)) (loopAt 0 (loops (bodyOf Tryd.f29))) (lsncut_0) [.val (.d (.int .i64 value)), .val (.d (.int .i64 scale))] =
    br (decide (scale > (4 : Int))) (chk (¬(10 : Int) = (0 : Int)) (some (Rnd.again [SV.val (AV.d (D.int IntKind.i64 (IntKind.i64.wrap (value.tdiv (10 : Int))))), SV.val (AV.d (D.int IntKind.i64 (IntKind.i64.wrap (scale - (1 : Int)))))]))) (br (decide (scale > (0 : Int))) (chk (¬(10 : Int) = (0 : Int)) (br (value.tmod (10 : Int) == (0 : Int)) (chk (¬(10 : Int) = (0 : Int)) (some (Rnd.again [SV.val (AV.d (D.int IntKind.i64 (IntKind.i64.wrap (value.tdiv (10 : Int))))), SV.val (AV.d (D.int IntKind.i64 (IntKind.i64.wrap (scale - (1 : Int)))))]))) (some (Rnd.out (Ex.exit (0 : Nat)) [SV.val (AV.d (D.int IntKind.i64 value)), SV.val (AV.d (D.int IntKind.i64 scale))])))) (some (Rnd.out (Ex.exit (0 : Nat)) [SV.val (AV.d (D.int IntKind.i64 value)), SV.val (AV.d (D.int IntKind.i64 scale))]))) := by kernel_rfl
theorem lokncut_0 : LoopOK T (En (ErRight)) (Ln (Lncut)) (loopAt 0 (loops (bodyOf Tryd.f29))) := by
  refine loop_ok (live := [0, 1]) (outs := [0, 1]) (rets := []) (ks := [.v false [.int .i64], .v false [.int .i64]]) (G := lgncut_0) (lkncut_0) (lmncut_0) (by kernel_rfl) ?_
  rintro ⟨⟨(value : Int), _⟩, ⟨(scale : Int), _⟩, _⟩ x hok hx
  refine Leads.of_eq (ltncut_0 value scale) ?_
  obtain ⟨h0, h1, h2⟩ := hok
  obtain rfl := Out_leaf hx
  obtain ⟨m, rfl⟩ := Int.eq_ofNat_of_zero_le h0
  rw [wrapI (i64_tdiv h2), wrap64 (by omega) (by omega)]
  cases m with
  | zero => exact Leads.brD (fun z => absurd z (by decide)) (fun _ => Leads.brD (fun z => absurd z (by decide)) (fun _ => Leads.one (Goes.out rfl)))
  | succ m =>
    rw [show ((m + 1 : Nat) : Int) = (m : Int) + 1 by omega, cutV_succ, cutS_succ, show (m : Int) + 1 - 1 = m by omega]
    refine Leads.brD (fun z => Leads.chk (by decide : ¬ (10 : Int) = 0) fun _ => Leads.one ?_) (fun z => Leads.brD (fun _ => Leads.chk (by decide : ¬ (10 : Int) = 0) fun _ => Leads.brE (fun y => Leads.chk (by decide : ¬ (10 : Int) = 0) fun _ => Leads.one ?_) (fun y => Leads.one (Goes.out ?_))) (fun y => absurd (by omega) y))
    · have z : (m : Int) + 1 > 4 := z
      rw [if_pos (.inl (by omega)), if_pos (.inl (by omega))]
      refine Goes.again (ks := [.v false [.int .i64], .v false [.int .i64]]) (((value.tdiv 10 : Int), ()), ((m : Int), ()), ()) rfl ?_ ?_ ?_
      · exact ⟨by omega, by omega, i64_tdiv h2⟩
      · simp only [lmncut_0]; omega
      · rfl
    · rw [if_pos (.inr y), if_pos (.inr y)]
      refine Goes.again (ks := [.v false [.int .i64], .v false [.int .i64]]) (((value.tdiv 10 : Int), ()), ((m : Int), ()), ()) rfl ?_ ?_ ?_
      · exact ⟨by omega, by omega, i64_tdiv h2⟩
      · simp only [lmncut_0]; omega
      · rfl
    · have z : ¬ (m : Int) + 1 > 4 := z
      rw [if_neg, if_neg]
      all_goals exact fun q => q.elim (fun q => by omega) y
theorem tncut (value : Int) (scale : Int) (decimal : Bool) : evF T (En (ErRight)) (Ln (Lncut)) Tryd.f29 [.d (.int .i64 value), .d (.int .i64 scale), .d (.bool decimal)] =
    chk (lkncut_0 ((value, ()), (scale, ()), ())) (br (decide (cutV value scale < (-999999999 : Int))) (some (SV.val (AV.tup [AV.agg [D.int IntKind.i64 (CE.dflt (Sh.int IntKind.i64)), D.int IntKind.i64 (CE.dflt (Sh.int IntKind.i64)), D.bool (CE.dflt Sh.bool)], AV.d (D.int IntKind.i64 (5 : Int))]))) (br (decide (cutV value scale > (999999999 : Int))) (some (SV.val (AV.tup [AV.agg [D.int IntKind.i64 (CE.dflt (Sh.int IntKind.i64)), D.int IntKind.i64 (CE.dflt (Sh.int IntKind.i64)), D.bool (CE.dflt Sh.bool)], AV.d (D.int IntKind.i64 (5 : Int))]))) (some (SV.val (AV.tup [AV.agg [D.int IntKind.i64 (cutV value scale), D.int IntKind.i64 (cutS value scale), D.bool decimal], AV.d (D.int IntKind.i64 (0 : Int))]))))) := by kernel_rfl
theorem satncut : Sat P 29 (Sncut) := by
  refine sat_mk (LT := Ln (Lncut)) hC okrRight mixed Tryd.func29 (by kernel_rfl) (c := bodyOf Tryd.f29) (by kernel_rfl) (by kernel_rfl) ?_ (loops1 (by kernel_rfl) (lokncut_0))
  rintro ⟨⟨(value : Int), _⟩, ⟨(scale : Int), _⟩, ⟨(decimal : Bool), _⟩, _⟩ sv h
  refine Leads.eq (Leads.of_eq (tncut value scale decimal) ?_)
  obtain ⟨hs, h⟩ := h
  refine Leads.chk hs fun _ => ?_
  rcases Out_br h with ⟨q, h⟩ | ⟨q, h⟩
  · have h := Out_leaf h
    simp only [cutOK, Bool.and_eq_true, decide_eq_true_eq] at q
    exact Leads.brD (fun z => absurd z (by omega)) (fun _ => Leads.brD (fun z => absurd z (by omega)) (fun _ => Leads.one (by rw [h]; rfl)))
  · have h := Out_leaf h
    simp only [cutOK, Bool.and_eq_false_iff, decide_eq_false_iff_not] at q
    exact Leads.brD (fun _ => Leads.one (by rw [h]; rfl)) (fun _ => Leads.brD (fun _ => Leads.one (by rw [h]; rfl)) (fun _ => by exfalso; omega))
def Encut : Es := (29, Sncut) :: ErRight
theorem okncut : SatE P (En (Encut)) := SatE.cons (satncut) okrRight
/-! ### legation/legationref02.Cut -/
def lkrcut_0 : St [.v false [.int .i64], .v false [.int .i64]] → Prop := fun ⟨⟨(value : Int), _⟩, ⟨(scale : Int), _⟩, _⟩ => 0 ≤ scale ∧ scale ≤ 100 ∧ i64 value
def lgrcut_0 : St [.v false [.int .i64], .v false [.int .i64]] → Tr (Ex × List SV) := fun ⟨⟨(value : Int), _⟩, ⟨(scale : Int), _⟩, _⟩ => .leaf (.exit 0, [.val (.d (.int .i64 (downV value scale))), .val (.d (.int .i64 (downS value scale)))])
def lmrcut_0 : St [.v false [.int .i64], .v false [.int .i64]] → Nat := fun ⟨⟨(value : Int), _⟩, ⟨(scale : Int), _⟩, _⟩ => scale.toNat
def lsrcut_0 : LoopS := mkR [0, 1] [0, 1] [] [.v false [.int .i64], .v false [.int .i64]] (fun r => .chk (lkrcut_0 r) (lgrcut_0 r))
def lkrcut_1 : St [.v false [.int .i64], .v false [.int .i64]] → Prop := fun ⟨⟨(value : Int), _⟩, ⟨(scale : Int), _⟩, _⟩ => 0 ≤ scale ∧ scale ≤ 4 ∧ i64 value
def lgrcut_1 : St [.v false [.int .i64], .v false [.int .i64]] → Tr (Ex × List SV) := fun ⟨⟨(value : Int), _⟩, ⟨(scale : Int), _⟩, _⟩ => .leaf (.exit 2, [.val (.d (.int .i64 (cutV value scale))), .val (.d (.int .i64 (cutS value scale)))])
def lmrcut_1 : St [.v false [.int .i64], .v false [.int .i64]] → Nat := fun ⟨⟨(value : Int), _⟩, ⟨(scale : Int), _⟩, _⟩ => scale.toNat
def lsrcut_1 : LoopS := mkR [0, 1] [0, 1] [] [.v false [.int .i64], .v false [.int .i64]] (fun r => .chk (lkrcut_1 r) (lgrcut_1 r))
def Lrcut : Ls := [(1, lsrcut_0), (4, lsrcut_1)]
def Srcut := mkS [(false, [.int .i64]), (false, [.int .i64]), (false, [.bool])] fun ⟨⟨(value : Int), _⟩, ⟨(scale : Int), _⟩, ⟨(decimal : Bool), _⟩, _⟩ => .chk (0 ≤ scale ∧ scale ≤ 100 ∧ i64 value) (.br (cutOK value scale) (.leaf (.val (.tup [.agg (rowD nmS (cutV value scale, cutS value scale, decimal, ())), .d (.bool true)]))) (.leaf (.val (.tup [.agg (rowD nmS n0), .d (.bool false)]))))
theorem ltrcut_0 (value : Int) (scale : Int) : evRound T (En (Encut)) (Ln (Lrcut)) (loopAt 0 (loops (bodyOf Tryd.f30))) (lsrcut_0) [.val (.d (.int .i64 value)), .val (.d (.int .i64 scale))] =
    br (decide (scale > (4 : Int))) (chk (¬(10 : Int) = (0 : Int)) (some (Rnd.again [SV.val (AV.d (D.int IntKind.i64 (IntKind.i64.wrap (value.tdiv (10 : Int))))), SV.val (AV.d (D.int IntKind.i64 (IntKind.i64.wrap (scale - (1 : Int)))))]))) (some (Rnd.out (Ex.exit (0 : Nat)) [SV.val (AV.d (D.int IntKind.i64 value)), SV.val (AV.d (D.int IntKind.i64 scale))])) := by kernel_rfl
theorem lokrcut_0 : LoopOK T (En (Encut)) (Ln (Lrcut)) (loopAt 0 (loops (bodyOf Tryd.f30))) := by
  refine loop_ok (live := [0, 1]) (outs := [0, 1]) (rets := []) (ks := [.v false [.int .i64], .v false [.int .i64]]) (G := lgrcut_0) (lkrcut_0) (lmrcut_0) (by kernel_rfl) ?_
  rintro ⟨⟨(value : Int), _⟩, ⟨(scale : Int), _⟩, _⟩ x hok hx
  refine Leads.of_eq (ltrcut_0 value scale) ?_
  obtain ⟨h0, h1, h2⟩ := hok
  obtain rfl := Out_leaf hx
  obtain ⟨m, rfl⟩ := Int.eq_ofNat_of_zero_le h0
  rw [wrapI (i64_tdiv h2), wrap64 (by omega) (by omega)]
  cases m with
  | zero => exact Leads.brD (fun z => absurd z (by decide)) (fun _ => Leads.one (Goes.out rfl))
  | succ m =>
    rw [show ((m + 1 : Nat) : Int) = (m : Int) + 1 by omega, downV_succ, downS_succ, show (m : Int) + 1 - 1 = m by omega]
    refine Leads.brD (fun z => Leads.chk (by decide : ¬ (10 : Int) = 0) fun _ => Leads.one ?_) (fun z => Leads.one (Goes.out ?_))
    · have z : (m : Int) + 1 > 4 := z
      rw [if_pos (by omega), if_pos (by omega)]
      refine Goes.again (ks := [.v false [.int .i64], .v false [.int .i64]]) (((value.tdiv 10 : Int), ()), ((m : Int), ()), ()) rfl ?_ ?_ ?_
      · exact ⟨by omega, by omega, i64_tdiv h2⟩
      · simp only [lmrcut_0]; omega
      · rfl
    · have z : ¬ (m : Int) + 1 > 4 := z
      rw [if_neg (by omega), if_neg (by omega)]
theorem ltrcut_1 (value : Int) (scale : Int) : evRound T (En (Encut)) (Ln (Lrcut)) (loopAt 1 (loops (bodyOf Tryd.f30))) (lsrcut_1) [.val (.d (.int .i64 value)), .val (.d (.int .i64 scale))] =
    br (decide (scale > (0 : Int))) (chk (¬(10 : Int) = (0 : Int)) (br (value.tmod (10 : Int) == (0 : Int)) (chk (¬(10 : Int) = (0 : Int)) (some (Rnd.again [SV.val (AV.d (D.int IntKind.i64 (IntKind.i64.wrap (value.tdiv (10 : Int))))), SV.val (AV.d (D.int IntKind.i64 (IntKind.i64.wrap (scale - (1 : Int)))))]))) (some (Rnd.out (Ex.exit (2 : Nat)) [SV.val (AV.d (D.int IntKind.i64 value)), SV.val (AV.d (D.int IntKind.i64 scale))])))) (some (Rnd.out (Ex.exit (2 : Nat)) [SV.val (AV.d (D.int IntKind.i64 value)), SV.val (AV.d (D.int IntKind.i64 scale))])) := by kernel_rfl
theorem lokrcut_1 : LoopOK T (En (Encut)) (Ln (Lrcut)) (loopAt 1 (loops (bodyOf Tryd.f30))) := by
  refine loop_ok (live := [0, 1]) (outs := [0, 1]) (rets := []) (ks := [.v false [.int .i64], .v false [.int .i64]]) (G := lgrcut_1) (lkrcut_1) (lmrcut_1) (by kernel_rfl) ?_
  rintro ⟨⟨(value : Int), _⟩, ⟨(scale : Int), _⟩, _⟩ x hok hx
  refine Leads.of_eq (ltrcut_1 value scale) ?_
  obtain ⟨h0, h1, h2⟩ := hok
  obtain rfl := Out_leaf hx
  obtain ⟨m, rfl⟩ := Int.eq_ofNat_of_zero_le h0
  rw [wrapI (i64_tdiv h2), wrap64 (by omega) (by omega)]
  cases m with
  | zero => exact Leads.brD (fun z => absurd z (by decide)) (fun _ => Leads.one (Goes.out rfl))
  | succ m =>
    rw [show ((m + 1 : Nat) : Int) = (m : Int) + 1 by omega, cutV_succ, cutS_succ, show (m : Int) + 1 - 1 = m by omega]
    refine Leads.brD (fun _ => Leads.chk (by decide : ¬ (10 : Int) = 0) fun _ => Leads.brE (fun y => Leads.chk (by decide : ¬ (10 : Int) = 0) fun _ => Leads.one ?_) (fun y => Leads.one (Goes.out ?_))) (fun y => absurd (by omega) y)
    · rw [if_pos (.inr y), if_pos (.inr y)]
      refine Goes.again (ks := [.v false [.int .i64], .v false [.int .i64]]) (((value.tdiv 10 : Int), ()), ((m : Int), ()), ()) rfl ?_ ?_ ?_
      · exact ⟨by omega, by omega, i64_tdiv h2⟩
      · simp only [lmrcut_1]; omega
      · rfl
    · rw [if_neg, if_neg]
      all_goals exact fun q => q.elim (fun q => by omega) y
theorem trcut (value : Int) (scale : Int) (decimal : Bool) : evF T (En (Encut)) (Ln (Lrcut)) Tryd.f30 [.d (.int .i64 value), .d (.int .i64 scale), .d (.bool decimal)] =
    chk (lkrcut_0 ((value, ()), (scale, ()), ())) (chk (lkrcut_1 ((downV value scale, ()), (downS value scale, ()), ())) (br (decide (cutV (downV value scale) (downS value scale) > (999999999 : Int))) (some (SV.val (AV.tup [AV.agg [D.int IntKind.i64 (CE.dflt (Sh.int IntKind.i64)), D.int IntKind.i64 (CE.dflt (Sh.int IntKind.i64)), D.bool (CE.dflt Sh.bool)], AV.d (D.bool false)]))) (br (decide (cutV (downV value scale) (downS value scale) < (-999999999 : Int))) (some (SV.val (AV.tup [AV.agg [D.int IntKind.i64 (CE.dflt (Sh.int IntKind.i64)), D.int IntKind.i64 (CE.dflt (Sh.int IntKind.i64)), D.bool (CE.dflt Sh.bool)], AV.d (D.bool false)]))) (some (SV.val (AV.tup [AV.agg [D.int IntKind.i64 (cutV (downV value scale) (downS value scale)), D.int IntKind.i64 (cutS (downV value scale) (downS value scale)), D.bool decimal], AV.d (D.bool true)])))))) := by kernel_rfl
theorem satrcut : Sat P 30 (Srcut) := by
  refine sat_mk (LT := Ln (Lrcut)) hC okncut mixed Tryd.func30 (by kernel_rfl) (c := bodyOf Tryd.f30) (by kernel_rfl) (by kernel_rfl) ?_ (loops2 (by kernel_rfl) (lokrcut_0) (lokrcut_1))
  rintro ⟨⟨(value : Int), _⟩, ⟨(scale : Int), _⟩, ⟨(decimal : Bool), _⟩, _⟩ sv h
  refine Leads.eq (Leads.of_eq (trcut value scale decimal) ?_)
  obtain ⟨hs, h⟩ := h
  have hd := downS_le value scale
  refine Leads.chk hs fun _ => Leads.chk ⟨hd.1, hd.2, downV_i64 _ hs.2.2⟩ fun _ => ?_
  rw [cutV_down, cutS_down]
  rcases Out_br h with ⟨q, h⟩ | ⟨q, h⟩
  · have h := Out_leaf h
    simp only [cutOK, Bool.and_eq_true, decide_eq_true_eq] at q
    exact Leads.brD (fun z => absurd z (by omega)) (fun _ => Leads.brD (fun z => absurd z (by omega)) (fun _ => Leads.one (by rw [h]; rfl)))
  · have h := Out_leaf h
    simp only [cutOK, Bool.and_eq_false_iff, decide_eq_false_iff_not] at q
    exact Leads.brD (fun _ => Leads.one (by rw [h]; rfl)) (fun _ => Leads.brD (fun _ => Leads.one (by rw [h]; rfl)) (fun _ => by exfalso; omega))
def Ercut : Es := (30, Srcut) :: Encut
theorem okrcut : SatE P (En (Ercut)) := SatE.cons (satrcut) okncut
/-! ### legation/number.power -/
def Lnpower : Ls := []
def Snpower := mkS [(false, [.int .i64])] fun ⟨⟨(n : Int), _⟩, _⟩ => .chk (0 ≤ n ∧ n ≤ 8) (ii (tenN n))
theorem tnpower (n : Int) : evF T (En (Ercut)) (Ln (Lnpower)) Tryd.f41 [.d (.int .i64 n)] =
    chk ((0 : Int) ≤ n ∧ n < (↑(9 : Nat) : Int)) (some (SV.val (AV.d (D.int IntKind.i64 ([(1 : Int), (10 : Int), (100 : Int), (1000 : Int), (10000 : Int), (100000 : Int), (1000000 : Int), (10000000 : Int), (100000000 : Int)].getD n.toNat (0 : Int)))))) := by kernel_rfl
theorem satnpower : Sat P 41 (Snpower) := by
  refine sat_mk (LT := Ln (Lnpower)) hC okrcut mixed Tryd.func41 (by kernel_rfl) (c := bodyOf Tryd.f41) (by kernel_rfl) (by kernel_rfl) ?_ (loops0 (by kernel_rfl))
  rintro ⟨⟨(n : Int), _⟩, _⟩ sv h
  refine Leads.eq (Leads.of_eq (tnpower n) ?_)
  obtain ⟨⟨h0, h1⟩, h⟩ := h
  have h := Out_leaf h
  refine Leads.chk ⟨h0, by omega⟩ fun _ => Leads.one ?_
  rw [h]
  rcases ten_cases h0 h1 with rfl | rfl | rfl | rfl | rfl | rfl | rfl | rfl | rfl <;> rfl
def Enpower : Es := (41, Snpower) :: Ercut
theorem oknpower : SatE P (En (Enpower)) := SatE.cons (satnpower) okrcut
/-! ### legation/legationref02.Ten -/
def lkrTen_0 : St [.v false [.int .i64], .v false [.int .i64], .v false [.int .i64]] → Prop := fun ⟨⟨(k : Int), _⟩, ⟨(n : Int), _⟩, ⟨(i : Int), _⟩, _⟩ => 0 ≤ i ∧ i ≤ k ∧ k ≤ 8 ∧ n = tenN i
def lgrTen_0 : St [.v false [.int .i64], .v false [.int .i64], .v false [.int .i64]] → Tr (Ex × List SV) := fun ⟨⟨(k : Int), _⟩, ⟨(n : Int), _⟩, ⟨(i : Int), _⟩, _⟩ => .leaf (.exit 0, [.val (.d (.int .i64 (tenN k)))])
def lmrTen_0 : St [.v false [.int .i64], .v false [.int .i64], .v false [.int .i64]] → Nat := fun ⟨⟨(k : Int), _⟩, ⟨(n : Int), _⟩, ⟨(i : Int), _⟩, _⟩ => (k - i).toNat
def lsrTen_0 : LoopS := mkR [0, 3, 4] [3] [] [.v false [.int .i64], .v false [.int .i64], .v false [.int .i64]] (fun r => .chk (lkrTen_0 r) (lgrTen_0 r))
def LrTen : Ls := [(3, lsrTen_0)]
def SrTen := mkS [(false, [.int .i64])] fun ⟨⟨(k : Int), _⟩, _⟩ => .chk (0 ≤ k ∧ k ≤ 8) (ii (tenN k))
theorem ltrTen_0 (k : Int) (n : Int) (i : Int) : evRound T (En (Enpower)) (Ln (LrTen)) (loopAt 0 (loops (bodyOf Tryd.f42))) (lsrTen_0) [.val (.d (.int .i64 k)), .val (.d (.int .i64 n)), .val (.d (.int .i64 i))] =
    br (decide (i < k)) (some (Rnd.again [SV.val (AV.d (D.int IntKind.i64 k)), SV.val (AV.d (D.int IntKind.i64 (IntKind.i64.wrap (n * (10 : Int))))), SV.val (AV.d (D.int IntKind.i64 (IntKind.i64.wrap (i + (1 : Int)))))])) (some (Rnd.out (Ex.exit (0 : Nat)) [SV.val (AV.d (D.int IntKind.i64 n))])) := by kernel_rfl
theorem lokrTen_0 : LoopOK T (En (Enpower)) (Ln (LrTen)) (loopAt 0 (loops (bodyOf Tryd.f42))) := by
  refine loop_ok (live := [0, 3, 4]) (outs := [3]) (rets := []) (ks := [.v false [.int .i64], .v false [.int .i64], .v false [.int .i64]]) (G := lgrTen_0) (lkrTen_0) (lmrTen_0) (by kernel_rfl) ?_
  rintro ⟨⟨(k : Int), _⟩, ⟨(n : Int), _⟩, ⟨(i : Int), _⟩, _⟩ x hok hx
  refine Leads.of_eq (ltrTen_0 k n i) ?_
  obtain ⟨h0, h1, h2, rfl⟩ := hok
  obtain rfl := Out_leaf hx
  refine Leads.brD (fun z => Leads.one ?_) (fun z => Leads.one (Goes.out (by rw [show i = k by omega])))
  have hb := tenN_le (k := i) h0 (by omega)
  rw [wrap64 (x := i + 1) (by omega) (by omega), wrap64 (by omega) (by omega), tenN_next h0 (by omega)]
  refine Goes.again (ks := [.v false [.int .i64], .v false [.int .i64], .v false [.int .i64]]) ((_, ()), (_, ()), (_, ()), ()) rfl ?_ ?_ ?_
  · exact ⟨by omega, by omega, h2, rfl⟩
  · simp only [lmrTen_0]; omega
  · rfl
theorem trTen (k : Int) : evF T (En (Enpower)) (Ln (LrTen)) Tryd.f42 [.d (.int .i64 k)] =
    chk (lkrTen_0 ((k, ()), ((1 : Int), ()), ((0 : Int), ()), ())) (some (SV.val (AV.d (D.int IntKind.i64 (tenN k))))) := by kernel_rfl
theorem satrTen : Sat P 42 (SrTen) := by
  refine sat_mk (LT := Ln (LrTen)) hC oknpower mixed Tryd.func42 (by kernel_rfl) (c := bodyOf Tryd.f42) (by kernel_rfl) (by kernel_rfl) ?_ (loops1 (by kernel_rfl) (lokrTen_0))
  rintro ⟨⟨(k : Int), _⟩, _⟩ sv h
  refine Leads.eq (Leads.of_eq (trTen k) ?_)
  obtain ⟨⟨h0, h1⟩, h⟩ := h
  have h := Out_leaf h
  exact Leads.chk ⟨by decide, h0, h1, rfl⟩ fun _ => Leads.one (by rw [h])
def ErTen : Es := (42, SrTen) :: Enpower
theorem okrTen : SatE P (En (ErTen)) := SatE.cons (satrTen) oknpower
/-! ### legation/number.two -/
def Lntwo : Ls := []
def Sntwo := mkS [(true, nmS), (true, nmS)] fun ⟨(a : RowE nmS), (b : RowE nmS), _⟩ => bl (rightN a && rightN b)
theorem tntwo (a : RowE nmS) (b : RowE nmS) : evF T (En (ErTen)) (Ln (Lntwo)) Tryd.f32 [.agg (rowD nmS a), .agg (rowD nmS b)] =
    br ((if rightN (a.fst, a.snd.fst, a.snd.snd.fst, ()) = true then (0 : Int) else (2 : Int)) == (0 : Int)) (some (SV.val (AV.d (D.bool ((if rightN (b.fst, b.snd.fst, b.snd.snd.fst, ()) = true then (0 : Int) else (2 : Int)) == (0 : Int)))))) (some (SV.val (AV.d (D.bool false)))) := by kernel_rfl
theorem satntwo : Sat P 32 (Sntwo) := by
  refine sat_mk (LT := Ln (Lntwo)) hC okrTen mixed Tryd.func32 (by kernel_rfl) (c := bodyOf Tryd.f32) (by kernel_rfl) (by kernel_rfl) ?_ (loops0 (by kernel_rfl))
  rintro ⟨(a : RowE nmS), (b : RowE nmS), _⟩ sv h
  refine Leads.eq (Leads.of_eq (tntwo a b) ?_)
  have h := Out_leaf h
  refine Leads.brE (fun z => Leads.one ?_) (fun z => Leads.one ?_)
  · have z := if00 z
    rw [h]
    have z : rightN a = true := z
    rw [z, Bool.true_and]
    refine congrArg (fun z => SV.val (.d (.bool z))) ?_
    show ((if rightN b = true then (0 : Int) else 2) == 0) = rightN b
    cases rightN b <;> rfl
  · have z : rightN a = false := if02 z
    rw [h, z]; rfl
def Entwo : Es := (32, Sntwo) :: ErTen
theorem okntwo : SatE P (En (Entwo)) := SatE.cons (satntwo) okrTen
/-! ### legation/number.level -/
def Lnlevel : Ls := []
def Snlevel := mkS [(true, nmS), (true, nmS)] fun ⟨(a : RowE nmS), (b : RowE nmS), _⟩ => .chk (rightN a = true ∧ rightN b = true) (.leaf (.val (.tup [.d (.int .i64 (amtN a)), .d (.int .i64 (amtN b))])))
theorem tnlevel (a : RowE nmS) (b : RowE nmS) : evF T (En (Entwo)) (Ln (Lnlevel)) Tryd.f33 [.agg (rowD nmS a), .agg (rowD nmS b)] =
    chk ((0 : Int) ≤ IntKind.i64.wrap ((4 : Int) - a.snd.fst) ∧ IntKind.i64.wrap ((4 : Int) - a.snd.fst) ≤ (8 : Int)) (chk ((0 : Int) ≤ IntKind.i64.wrap ((4 : Int) - b.snd.fst) ∧ IntKind.i64.wrap ((4 : Int) - b.snd.fst) ≤ (8 : Int)) (some (SV.val (AV.tup [AV.d (D.int IntKind.i64 (IntKind.i64.wrap (a.fst * tenN (IntKind.i64.wrap ((4 : Int) - a.snd.fst))))), AV.d (D.int IntKind.i64 (IntKind.i64.wrap (b.fst * tenN (IntKind.i64.wrap ((4 : Int) - b.snd.fst)))))])))) := by kernel_rfl
theorem satnlevel : Sat P 33 (Snlevel) := by
  refine sat_mk (LT := Ln (Lnlevel)) hC okntwo mixed Tryd.func33 (by kernel_rfl) (c := bodyOf Tryd.f33) (by kernel_rfl) (by kernel_rfl) ?_ (loops0 (by kernel_rfl))
  rintro ⟨(a : RowE nmS), (b : RowE nmS), _⟩ sv h
  refine Leads.eq (Leads.of_eq (tnlevel a b) ?_)
  obtain ⟨⟨ha, hb⟩, h⟩ := h
  have h := Out_leaf h
  have ba := amt_le ha
  have bb := amt_le hb
  rw [rightN_iff] at ha hb
  rw [wrap64 (x := 4 - a.2.1) (by omega) (by omega), wrap64 (x := 4 - b.2.1) (by omega) (by omega)]
  unfold amtN at *
  exact Leads.chk ⟨by omega, by omega⟩ fun _ => Leads.chk ⟨by omega, by omega⟩ fun _ => Leads.one (by rw [h, wrap64 (by omega) (by omega), wrap64 (by omega) (by omega)])
def Enlevel : Es := (33, Snlevel) :: Entwo
theorem oknlevel : SatE P (En (Enlevel)) := SatE.cons (satnlevel) okntwo
/-! ### legation/legationref02.Amount -/
def LrAmount : Ls := []
def SrAmount := mkS [(true, nmS)] fun ⟨(n : RowE nmS), _⟩ => .chk (rightN n = true) (ii (amtN n))
theorem trAmount (n : RowE nmS) : evF T (En (Enlevel)) (Ln (LrAmount)) Tryd.f34 [.agg (rowD nmS n)] =
    chk ((0 : Int) ≤ IntKind.i64.wrap ((4 : Int) - n.snd.fst) ∧ IntKind.i64.wrap ((4 : Int) - n.snd.fst) ≤ (8 : Int)) (some (SV.val (AV.d (D.int IntKind.i64 (IntKind.i64.wrap (n.fst * tenN (IntKind.i64.wrap ((4 : Int) - n.snd.fst)))))))) := by kernel_rfl
theorem satrAmount : Sat P 34 (SrAmount) := by
  refine sat_mk (LT := Ln (LrAmount)) hC oknlevel mixed Tryd.func34 (by kernel_rfl) (c := bodyOf Tryd.f34) (by kernel_rfl) (by kernel_rfl) ?_ (loops0 (by kernel_rfl))
  rintro ⟨(n : RowE nmS), _⟩ sv h
  refine Leads.eq (Leads.of_eq (trAmount n) ?_)
  obtain ⟨ha, h⟩ := h
  have h := Out_leaf h
  have ba := amt_le ha
  rw [rightN_iff] at ha
  rw [wrap64 (x := 4 - n.2.1) (by omega) (by omega)]
  unfold amtN at *
  exact Leads.chk ⟨by omega, by omega⟩ fun _ => Leads.one (by rw [h, wrap64 (by omega) (by omega)])
def ErAmount : Es := (34, SrAmount) :: Enlevel
theorem okrAmount : SatE P (En (ErAmount)) := SatE.cons (satrAmount) oknlevel
end Go.Proofs.YtfafmpiajlgojaaDoor.T2
