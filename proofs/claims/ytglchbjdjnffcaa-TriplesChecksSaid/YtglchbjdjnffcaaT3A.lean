/- Part of a proof of the seat's statements: no statement by itself. -/
import Derived.Test.YtglchbjdjnffcaaQ3E
import Derived.Test.YtglchbjdjnffcaaSpL
set_option maxRecDepth 100000
open Go.Proofs.Ytglchbjdjnffcaa.Lg Go Go.Proofs.Ytglchbjdjnffcaa.Sp
open Go.Proofs
namespace Go.Proofs.Ytglchbjdjnffcaa.T3


abbrev t3S : List Sh := [.int .i64, .str, .str, .str, .int .i64, .str, .str, .str, .int .i64, .str, .str, .str]
/-! ### internal/stringslite.Index -/
def lksIndex_0 : St [.v false [.str], .v false [.str], .v false [.int .i64], .v false [.int .u8], .v false [.int .u8], .v false [.int .i64], .v false [.int .i64], .v false [.int .i64]] → Prop := fun ⟨⟨(s : List UInt8), _⟩, ⟨(substr : List UInt8), _⟩, ⟨(n : Int), _⟩, ⟨(c0 : Int), _⟩, ⟨(c1 : Int), _⟩, ⟨(i : Int), _⟩, ⟨(t : Int), _⟩, ⟨(fails : Int), _⟩, _⟩ => False
def lgsIndex_0 : St [.v false [.str], .v false [.str], .v false [.int .i64], .v false [.int .u8], .v false [.int .u8], .v false [.int .i64], .v false [.int .i64], .v false [.int .i64]] → Tr (Ex × List SV) := fun ⟨⟨(s : List UInt8), _⟩, ⟨(substr : List UInt8), _⟩, ⟨(n : Int), _⟩, ⟨(c0 : Int), _⟩, ⟨(c1 : Int), _⟩, ⟨(i : Int), _⟩, ⟨(t : Int), _⟩, ⟨(fails : Int), _⟩, _⟩ => .none
def lmsIndex_0 : St [.v false [.str], .v false [.str], .v false [.int .i64], .v false [.int .u8], .v false [.int .u8], .v false [.int .i64], .v false [.int .i64], .v false [.int .i64]] → Nat := fun ⟨⟨(s : List UInt8), _⟩, ⟨(substr : List UInt8), _⟩, ⟨(n : Int), _⟩, ⟨(c0 : Int), _⟩, ⟨(c1 : Int), _⟩, ⟨(i : Int), _⟩, ⟨(t : Int), _⟩, ⟨(fails : Int), _⟩, _⟩ => 0
def lssIndex_0 : LoopS := mkR [0, 1, 5, 6, 7, 8, 9, 10] [] [4] [.v false [.str], .v false [.str], .v false [.int .i64], .v false [.int .u8], .v false [.int .u8], .v false [.int .i64], .v false [.int .i64], .v false [.int .i64]] (fun r => .chk (lksIndex_0 r) (lgsIndex_0 r))
def LsIndex : Ls := [(15, lssIndex_0)]
def SsIndex := mkS [(false, [.str]), (false, [.str])] fun ⟨⟨(s : List UInt8), _⟩, ⟨(substr : List UInt8), _⟩, _⟩ => .chk (s.length ≤ 1152921504606846976 ∧ substr = [10]) (ii (Lib.indexByte s 10))
theorem ltsIndex_0 (s : List UInt8) (substr : List UInt8) (n : Int) (c0 : Int) (c1 : Int) (i : Int) (t : Int) (fails : Int) : evRound T (En (ECompare)) (Ln (LsIndex)) (loopAt 0 (loops (bodyOf Try.f54))) (lssIndex_0) [.val (.d (.str  s)), .val (.d (.str  substr)), .val (.d (.int .i64 n)), .val (.d (.int .u8 c0)), .val (.d (.int .u8 c1)), .val (.d (.int .i64 i)), .val (.d (.int .i64 t)), .val (.d (.int .i64 fails))] =
    br (decide (i < t)) (chk ((0 : Int) ≤ i ∧ i < (↑s.length : Int)) (br (byteAt s i != c0) (chk ((0 : Int) ≤ IntKind.i64.wrap (i + (1 : Int)) ∧ IntKind.i64.wrap (i + (1 : Int)) ≤ t ∧ t ≤ (↑s.length : Int)) (br (decide (Lib.indexByte (List.drop (IntKind.i64.wrap (i + (1 : Int))).toNat (List.take t.toNat s)) c0.toNat.toUInt8 < (0 : Int))) (some (Rnd.out Ex.ret [SV.val (AV.d (D.int IntKind.i64 (-1 : Int)))])) (chk ((0 : Int) ≤ IntKind.i64.wrap (IntKind.i64.wrap (i + IntKind.i64.wrap (Lib.indexByte (List.drop (IntKind.i64.wrap (i + (1 : Int))).toNat (List.take t.toNat s)) c0.toNat.toUInt8 + (1 : Int))) + (1 : Int)) ∧ IntKind.i64.wrap (IntKind.i64.wrap (i + IntKind.i64.wrap (Lib.indexByte (List.drop (IntKind.i64.wrap (i + (1 : Int))).toNat (List.take t.toNat s)) c0.toNat.toUInt8 + (1 : Int))) + (1 : Int)) < (↑s.length : Int)) (br (byteAt s (IntKind.i64.wrap (IntKind.i64.wrap (i + IntKind.i64.wrap (Lib.indexByte (List.drop (IntKind.i64.wrap (i + (1 : Int))).toNat (List.take t.toNat s)) c0.toNat.toUInt8 + (1 : Int))) + (1 : Int))) == c1) (chk ((0 : Int) ≤ IntKind.i64.wrap (i + IntKind.i64.wrap (Lib.indexByte (List.drop (IntKind.i64.wrap (i + (1 : Int))).toNat (List.take t.toNat s)) c0.toNat.toUInt8 + (1 : Int))) ∧ IntKind.i64.wrap (i + IntKind.i64.wrap (Lib.indexByte (List.drop (IntKind.i64.wrap (i + (1 : Int))).toNat (List.take t.toNat s)) c0.toNat.toUInt8 + (1 : Int))) ≤ IntKind.i64.wrap (IntKind.i64.wrap (i + IntKind.i64.wrap (Lib.indexByte (List.drop (IntKind.i64.wrap (i + (1 : Int))).toNat (List.take t.toNat s)) c0.toNat.toUInt8 + (1 : Int))) + n) ∧ IntKind.i64.wrap (IntKind.i64.wrap (i + IntKind.i64.wrap (Lib.indexByte (List.drop (IntKind.i64.wrap (i + (1 : Int))).toNat (List.take t.toNat s)) c0.toNat.toUInt8 + (1 : Int))) + n) ≤ (↑s.length : Int)) (br (List.drop (IntKind.i64.wrap (i + IntKind.i64.wrap (Lib.indexByte (List.drop (IntKind.i64.wrap (i + (1 : Int))).toNat (List.take t.toNat s)) c0.toNat.toUInt8 + (1 : Int)))).toNat (List.take (IntKind.i64.wrap (IntKind.i64.wrap (i + IntKind.i64.wrap (Lib.indexByte (List.drop (IntKind.i64.wrap (i + (1 : Int))).toNat (List.take t.toNat s)) c0.toNat.toUInt8 + (1 : Int))) + n)).toNat s) == substr) (some (Rnd.out Ex.ret [SV.val (AV.d (D.int IntKind.i64 (IntKind.i64.wrap (i + IntKind.i64.wrap (Lib.indexByte (List.drop (IntKind.i64.wrap (i + (1 : Int))).toNat (List.take t.toNat s)) c0.toNat.toUInt8 + (1 : Int))))))])) none)) none)))) (chk ((0 : Int) ≤ IntKind.i64.wrap (i + (1 : Int)) ∧ IntKind.i64.wrap (i + (1 : Int)) < (↑s.length : Int)) (br (byteAt s (IntKind.i64.wrap (i + (1 : Int))) == c1) (chk ((0 : Int) ≤ i ∧ i ≤ IntKind.i64.wrap (i + n) ∧ IntKind.i64.wrap (i + n) ≤ (↑s.length : Int)) (br (List.drop i.toNat (List.take (IntKind.i64.wrap (i + n)).toNat s) == substr) (some (Rnd.out Ex.ret [SV.val (AV.d (D.int IntKind.i64 i))])) none)) none)))) (some (Rnd.out (Ex.exit (1 : Nat)) [])) := by kernel_rfl
theorem loksIndex_0 : LoopOK T (En (ECompare)) (Ln (LsIndex)) (loopAt 0 (loops (bodyOf Try.f54))) := by
  refine loop_ok (live := [0, 1, 5, 6, 7, 8, 9, 10]) (outs := []) (rets := [4]) (ks := [.v false [.str], .v false [.str], .v false [.int .i64], .v false [.int .u8], .v false [.int .u8], .v false [.int .i64], .v false [.int .i64], .v false [.int .i64]]) (G := lgsIndex_0) (lksIndex_0) (lmsIndex_0) (by kernel_rfl) ?_
  rintro ⟨⟨(s : List UInt8), _⟩, ⟨(substr : List UInt8), _⟩, ⟨(n : Int), _⟩, ⟨(c0 : Int), _⟩, ⟨(c1 : Int), _⟩, ⟨(i : Int), _⟩, ⟨(t : Int), _⟩, ⟨(fails : Int), _⟩, _⟩ x hok hx
  refine Leads.of_eq (ltsIndex_0 s substr n c0 c1 i t fails) ?_
  exact hok.elim
theorem tsIndex (s : List UInt8) (substr : List UInt8) : evF T (En (ECompare)) (Ln (LsIndex)) Try.f54 [.d (.str s), .d (.str substr)] =
    br ((↑substr.length : Int) == (0 : Int)) (some (SV.val (AV.d (D.int IntKind.i64 (0 : Int))))) (br (substr == s) (some (SV.val (AV.d (D.int IntKind.i64 (0 : Int))))) (br ((↑substr.length : Int) == (1 : Int)) (chk ((0 : Int) ≤ (0 : Int) ∧ (0 : Int) < (↑substr.length : Int)) (some (SV.val (AV.d (D.int IntKind.i64 (Lib.indexByte s (byteAt substr (0 : Int)).toNat.toUInt8)))))) (br (decide ((↑substr.length : Int) ≥ (↑s.length : Int))) (some (SV.val (AV.d (D.int IntKind.i64 (-1 : Int))))) none))) := by kernel_rfl
theorem satsIndex : Sat P 54 (SsIndex) := by
  refine sat_mk (LT := Ln (LsIndex)) hC okCompare mixed Try.func54 (by kernel_rfl) (c := bodyOf Try.f54) (by kernel_rfl) (by kernel_rfl) ?_ (loops1 (by kernel_rfl) (loksIndex_0))
  rintro ⟨⟨(s : List UInt8), _⟩, ⟨(substr : List UInt8), _⟩, _⟩ sv h
  refine Leads.eq (Leads.of_eq (tsIndex s substr) ?_)
  obtain ⟨⟨_, rfl⟩, h⟩ := h
  have h := Out_leaf h
  refine Leads.brE (fun q => absurd q (by decide)) fun _ => Leads.brE (fun q => Leads.one ?_) fun _ => Leads.brE (fun _ => Leads.chk (by decide) fun _ => Leads.one (by rw [h]; rfl)) (fun q => absurd rfl q)
  rw [h]; have q : [10] = s := q; subst q; rfl
def EsIndex : Es := (54, SsIndex) :: ECompare
theorem oksIndex : SatE P (En (EsIndex)) := SatE.cons (satsIndex) okCompare
/-! ### internal/stringslite.Cut -/
def LsCut : Ls := []
def SsCut := mkS [(false, [.str]), (false, [.str])] fun ⟨⟨(s : List UInt8), _⟩, ⟨(sep : List UInt8), _⟩, _⟩ => (.chk (s.length ≤ (1152921504606846976 : Nat) ∧ sep = [(10 : UInt8)]) (.br (decide (Lib.indexByte s (10 : UInt8) ≥ (0 : Int))) (.chk ((0 : Int) ≤ Lib.indexByte s (10 : UInt8) ∧ Lib.indexByte s (10 : UInt8) ≤ (↑s.length : Int)) (.chk ((0 : Int) ≤ IntKind.i64.wrap (Lib.indexByte s (10 : UInt8) + (↑sep.length : Int)) ∧ IntKind.i64.wrap (Lib.indexByte s (10 : UInt8) + (↑sep.length : Int)) ≤ (↑s.length : Int)) (.leaf (SV.val (AV.tup [AV.d (D.str (List.take (Lib.indexByte s (10 : UInt8)).toNat s)), AV.d (D.str (List.drop (IntKind.i64.wrap (Lib.indexByte s (10 : UInt8) + (↑sep.length : Int))).toNat s)), AV.d (D.bool true)]))))) (.leaf (SV.val (AV.tup [AV.d (D.str s), AV.d (D.str []), AV.d (D.bool false)])))))
theorem tsCut (s : List UInt8) (sep : List UInt8) : evF T (En (EsIndex)) (Ln (LsCut)) Try.f39 [.d (.str s), .d (.str sep)] =
    chk (s.length ≤ (1152921504606846976 : Nat) ∧ sep = [(10 : UInt8)]) (br (decide (Lib.indexByte s (10 : UInt8) ≥ (0 : Int))) (chk ((0 : Int) ≤ Lib.indexByte s (10 : UInt8) ∧ Lib.indexByte s (10 : UInt8) ≤ (↑s.length : Int)) (chk ((0 : Int) ≤ IntKind.i64.wrap (Lib.indexByte s (10 : UInt8) + (↑sep.length : Int)) ∧ IntKind.i64.wrap (Lib.indexByte s (10 : UInt8) + (↑sep.length : Int)) ≤ (↑s.length : Int)) (some (SV.val (AV.tup [AV.d (D.str (List.take (Lib.indexByte s (10 : UInt8)).toNat s)), AV.d (D.str (List.drop (IntKind.i64.wrap (Lib.indexByte s (10 : UInt8) + (↑sep.length : Int))).toNat s)), AV.d (D.bool true)]))))) (some (SV.val (AV.tup [AV.d (D.str s), AV.d (D.str []), AV.d (D.bool false)])))) := by kernel_rfl
theorem satsCut : Sat P 39 (SsCut) := by
  refine sat_mk (LT := Ln (LsCut)) hC oksIndex mixed Try.func39 (by kernel_rfl) (c := bodyOf Try.f39) (by kernel_rfl) (by kernel_rfl) ?_ (loops0 (by kernel_rfl))
  rintro ⟨⟨(s : List UInt8), _⟩, ⟨(sep : List UInt8), _⟩, _⟩ sv h
  exact (tsCut s sep).trans (Tr.run_out (K := fun z => some z) h)
def EsCut : Es := (39, SsCut) :: EsIndex
theorem oksCut : SatE P (En (EsCut)) := SatE.cons (satsCut) oksIndex
/-! ### strings.Cut -/
def LtCut : Ls := []
def StCut := mkS [(false, [.str]), (false, [.str])] fun ⟨⟨(s : List UInt8), _⟩, ⟨(sep : List UInt8), _⟩, _⟩ => (.chk (s.length ≤ (1152921504606846976 : Nat) ∧ sep = [(10 : UInt8)]) (.br (decide (Lib.indexByte s (10 : UInt8) ≥ (0 : Int))) (.chk ((0 : Int) ≤ Lib.indexByte s (10 : UInt8) ∧ Lib.indexByte s (10 : UInt8) ≤ (↑s.length : Int)) (.chk ((0 : Int) ≤ IntKind.i64.wrap (Lib.indexByte s (10 : UInt8) + (↑sep.length : Int)) ∧ IntKind.i64.wrap (Lib.indexByte s (10 : UInt8) + (↑sep.length : Int)) ≤ (↑s.length : Int)) (.leaf (SV.val (AV.tup [AV.d (D.str (List.take (Lib.indexByte s (10 : UInt8)).toNat s)), AV.d (D.str (List.drop (IntKind.i64.wrap (Lib.indexByte s (10 : UInt8) + (↑sep.length : Int))).toNat s)), AV.d (D.bool true)]))))) (.leaf (SV.val (AV.tup [AV.d (D.str s), AV.d (D.str []), AV.d (D.bool false)])))))
theorem ttCut (s : List UInt8) (sep : List UInt8) : evF T (En (EsCut)) (Ln (LtCut)) Try.f27 [.d (.str s), .d (.str sep)] =
    chk (s.length ≤ (1152921504606846976 : Nat) ∧ sep = [(10 : UInt8)]) (br (decide (Lib.indexByte s (10 : UInt8) ≥ (0 : Int))) (chk ((0 : Int) ≤ Lib.indexByte s (10 : UInt8) ∧ Lib.indexByte s (10 : UInt8) ≤ (↑s.length : Int)) (chk ((0 : Int) ≤ IntKind.i64.wrap (Lib.indexByte s (10 : UInt8) + (↑sep.length : Int)) ∧ IntKind.i64.wrap (Lib.indexByte s (10 : UInt8) + (↑sep.length : Int)) ≤ (↑s.length : Int)) (some (SV.val (AV.tup [AV.d (D.str (List.take (Lib.indexByte s (10 : UInt8)).toNat s)), AV.d (D.str (List.drop (IntKind.i64.wrap (Lib.indexByte s (10 : UInt8) + (↑sep.length : Int))).toNat s)), AV.d (D.bool true)]))))) (some (SV.val (AV.tup [AV.d (D.str s), AV.d (D.str []), AV.d (D.bool false)])))) := by kernel_rfl
theorem sattCut : Sat P 27 (StCut) := by
  refine sat_mk (LT := Ln (LtCut)) hC oksCut mixed Try.func27 (by kernel_rfl) (c := bodyOf Try.f27) (by kernel_rfl) (by kernel_rfl) ?_ (loops0 (by kernel_rfl))
  rintro ⟨⟨(s : List UInt8), _⟩, ⟨(sep : List UInt8), _⟩, _⟩ sv h
  exact (ttCut s sep).trans (Tr.run_out (K := fun z => some z) h)
def EtCut : Es := (27, StCut) :: EsCut
theorem oktCut : SatE P (En (EtCut)) := SatE.cons (sattCut) oksCut
/-! ### legation/triples.terms -/
def Lterms : Ls := []
def Sterms := mkS [(true, t3S)] fun ⟨(t : RowE t3S), _⟩ => (.leaf (SV.val (AV.agg [D.int IntKind.i64 t.fst, D.str t.snd.fst, D.str t.snd.snd.fst, D.str t.snd.snd.snd.fst, D.int IntKind.i64 t.snd.snd.snd.snd.fst, D.str t.snd.snd.snd.snd.snd.fst, D.str t.snd.snd.snd.snd.snd.snd.fst, D.str t.snd.snd.snd.snd.snd.snd.snd.fst, D.int IntKind.i64 t.snd.snd.snd.snd.snd.snd.snd.snd.fst, D.str t.snd.snd.snd.snd.snd.snd.snd.snd.snd.fst, D.str t.snd.snd.snd.snd.snd.snd.snd.snd.snd.snd.fst, D.str t.snd.snd.snd.snd.snd.snd.snd.snd.snd.snd.snd.fst])))
theorem tterms (t : RowE t3S) : evF T (En (EtCut)) (Ln (Lterms)) Try.f32 [.agg (rowD t3S t)] =
    some (SV.val (AV.agg [D.int IntKind.i64 t.fst, D.str t.snd.fst, D.str t.snd.snd.fst, D.str t.snd.snd.snd.fst, D.int IntKind.i64 t.snd.snd.snd.snd.fst, D.str t.snd.snd.snd.snd.snd.fst, D.str t.snd.snd.snd.snd.snd.snd.fst, D.str t.snd.snd.snd.snd.snd.snd.snd.fst, D.int IntKind.i64 t.snd.snd.snd.snd.snd.snd.snd.snd.fst, D.str t.snd.snd.snd.snd.snd.snd.snd.snd.snd.fst, D.str t.snd.snd.snd.snd.snd.snd.snd.snd.snd.snd.fst, D.str t.snd.snd.snd.snd.snd.snd.snd.snd.snd.snd.snd.fst])) := by kernel_rfl
theorem satterms : Sat P 32 (Sterms) := by
  refine sat_mk (LT := Ln (Lterms)) hC oktCut mixed Try.func32 (by kernel_rfl) (c := bodyOf Try.f32) (by kernel_rfl) (by kernel_rfl) ?_ (loops0 (by kernel_rfl))
  rintro ⟨(t : RowE t3S), _⟩ sv h
  exact (tterms t).trans (Tr.run_out (K := fun z => some z) h)
def Eterms : Es := (32, Sterms) :: EtCut
theorem okterms : SatE P (En (Eterms)) := SatE.cons (satterms) oktCut
/-! ### legation/triples.right -/
def lstright_0 : LoopS := mkU 4
def Ltright : Ls := [(2, lstright_0)]
def Stright := mkS [(true, t3S)] fun ⟨(t : RowE t3S), _⟩ => .chk (sz3 140737488355328 t) (bl (all3 t))
theorem ttright (t : RowE t3S) : evF T (En (Eterms)) (Ln (Ltright)) Try.f30 [.agg (rowD t3S t)] =
    chk ((0 : Int) ≤ (0 : Int) ∧ (0 : Int) < (↑(3 : Nat) : Int)) (chk (List.length t.snd.fst ≤ Big ∧ List.length t.snd.snd.fst ≤ Big ∧ List.length t.snd.snd.snd.fst ≤ Big) (br ((if right t.fst t.snd.fst t.snd.snd.fst t.snd.snd.snd.fst = true then (0 : Int) else (2 : Int)) != (0 : Int)) (some (SV.val (AV.d (D.bool false)))) (chk ((0 : Int) ≤ IntKind.i64.wrap ((0 : Int) + (1 : Int)) ∧ IntKind.i64.wrap ((0 : Int) + (1 : Int)) < (↑(3 : Nat) : Int)) (chk (List.length t.snd.snd.snd.snd.snd.fst ≤ Big ∧ List.length t.snd.snd.snd.snd.snd.snd.fst ≤ Big ∧ List.length t.snd.snd.snd.snd.snd.snd.snd.fst ≤ Big) (br ((if right t.snd.snd.snd.snd.fst t.snd.snd.snd.snd.snd.fst t.snd.snd.snd.snd.snd.snd.fst t.snd.snd.snd.snd.snd.snd.snd.fst = true then (0 : Int) else (2 : Int)) != (0 : Int)) (some (SV.val (AV.d (D.bool false)))) (chk ((0 : Int) ≤ IntKind.i64.wrap (IntKind.i64.wrap ((0 : Int) + (1 : Int)) + (1 : Int)) ∧ IntKind.i64.wrap (IntKind.i64.wrap ((0 : Int) + (1 : Int)) + (1 : Int)) < (↑(3 : Nat) : Int)) (chk (List.length t.snd.snd.snd.snd.snd.snd.snd.snd.snd.fst ≤ Big ∧ List.length t.snd.snd.snd.snd.snd.snd.snd.snd.snd.snd.fst ≤ Big ∧ List.length t.snd.snd.snd.snd.snd.snd.snd.snd.snd.snd.snd.fst ≤ Big) (br ((if right t.snd.snd.snd.snd.snd.snd.snd.snd.fst t.snd.snd.snd.snd.snd.snd.snd.snd.snd.fst t.snd.snd.snd.snd.snd.snd.snd.snd.snd.snd.fst t.snd.snd.snd.snd.snd.snd.snd.snd.snd.snd.snd.fst = true then (0 : Int) else (2 : Int)) != (0 : Int)) (some (SV.val (AV.d (D.bool false)))) (some (SV.val (AV.d (D.bool true)))))))))))) := by kernel_rfl
theorem sattright : Sat P 30 (Stright) := by
  refine sat_mk (LT := Ln (Ltright)) hC okterms mixed Try.func30 (by kernel_rfl) (c := bodyOf Try.f30) (by kernel_rfl) (by kernel_rfl) ?_ (loops1 (by kernel_rfl) (loopU (n := 4) (c := loopAt 0 (loops (bodyOf Try.f30))) (by kernel_rfl)))
  rintro ⟨(t : RowE t3S), _⟩ sv h
  refine Leads.eq (Leads.of_eq (ttright t) ?_)
  obtain ⟨⟨s1, s2, s3⟩, h⟩ := h
  have h := Out_leaf h
  have hB := Big_eq
  refine Leads.chk ⟨by decide, by decide⟩ fun _ => Leads.chk (by omega) fun _ => Leads.brN (fun q1 => Leads.chk ⟨by decide, by decide⟩ fun _ => Leads.chk (by omega) fun _ => Leads.brN (fun q2 => Leads.chk ⟨by decide, by decide⟩ fun _ => Leads.chk (by omega) fun _ => Leads.brN (fun q3 => Leads.one ?_) (fun q3 => Leads.one ?_)) (fun q2 => Leads.one ?_)) (fun q1 => Leads.one ?_)
  · rw [h, all3_t (if00 q1) (if00 q2) (if00 q3)]
  · rw [h, all3_3 (if02 q3)]
  · rw [h, all3_2 (if02 q2)]
  · rw [h, all3_1 (if02 q1)]
def Etright : Es := (30, Stright) :: Eterms
theorem oktright : SatE P (En (Etright)) := SatE.cons (sattright) okterms
/-! ### legation/triples.Check -/
def LtCheck : Ls := []
def StCheck := mkS [(true, t3S)] fun ⟨(t : RowE t3S), _⟩ => .chk (sz3 140737488355328 t) (ii (if tri t = true then 0 else 2))
theorem ttCheck (t : RowE t3S) : evF T (En (Etright)) (Ln (LtCheck)) Try.f14 [.agg (rowD t3S t)] =
    chk (sz3 (140737488355328 : Nat) (t.fst, t.snd.fst, t.snd.snd.fst, t.snd.snd.snd.fst, t.snd.snd.snd.snd.fst, t.snd.snd.snd.snd.snd.fst, t.snd.snd.snd.snd.snd.snd.fst, t.snd.snd.snd.snd.snd.snd.snd.fst, t.snd.snd.snd.snd.snd.snd.snd.snd.fst, t.snd.snd.snd.snd.snd.snd.snd.snd.snd.fst, t.snd.snd.snd.snd.snd.snd.snd.snd.snd.snd.fst, t.snd.snd.snd.snd.snd.snd.snd.snd.snd.snd.snd.fst, ())) (br (!all3 (t.fst, t.snd.fst, t.snd.snd.fst, t.snd.snd.snd.fst, t.snd.snd.snd.snd.fst, t.snd.snd.snd.snd.snd.fst, t.snd.snd.snd.snd.snd.snd.fst, t.snd.snd.snd.snd.snd.snd.snd.fst, t.snd.snd.snd.snd.snd.snd.snd.snd.fst, t.snd.snd.snd.snd.snd.snd.snd.snd.snd.fst, t.snd.snd.snd.snd.snd.snd.snd.snd.snd.snd.fst, t.snd.snd.snd.snd.snd.snd.snd.snd.snd.snd.snd.fst, ())) (some (SV.val (AV.d (D.int IntKind.i64 (2 : Int))))) (br (t.fst != (1 : Int)) (br (t.fst != (3 : Int)) (some (SV.val (AV.d (D.int IntKind.i64 (2 : Int))))) (br (t.snd.snd.snd.snd.fst != (1 : Int)) (some (SV.val (AV.d (D.int IntKind.i64 (2 : Int))))) (br (decide (t.snd.snd.snd.snd.snd.snd.snd.snd.fst < (1 : Int))) (some (SV.val (AV.d (D.int IntKind.i64 (2 : Int))))) (br (decide (t.snd.snd.snd.snd.snd.snd.snd.snd.fst > (3 : Int))) (some (SV.val (AV.d (D.int IntKind.i64 (2 : Int))))) (some (SV.val (AV.d (D.int IntKind.i64 (0 : Int))))))))) (br (t.snd.snd.snd.snd.fst != (1 : Int)) (some (SV.val (AV.d (D.int IntKind.i64 (2 : Int))))) (br (decide (t.snd.snd.snd.snd.snd.snd.snd.snd.fst < (1 : Int))) (some (SV.val (AV.d (D.int IntKind.i64 (2 : Int))))) (br (decide (t.snd.snd.snd.snd.snd.snd.snd.snd.fst > (3 : Int))) (some (SV.val (AV.d (D.int IntKind.i64 (2 : Int))))) (some (SV.val (AV.d (D.int IntKind.i64 (0 : Int)))))))))) := by kernel_rfl
theorem sattCheck : Sat P 14 (StCheck) := by
  refine sat_mk (LT := Ln (LtCheck)) hC oktright mixed Try.func14 (by kernel_rfl) (c := bodyOf Try.f14) (by kernel_rfl) (by kernel_rfl) ?_ (loops0 (by kernel_rfl))
  rintro ⟨(t : RowE t3S), _⟩ sv h
  refine Leads.eq (Leads.of_eq (ttCheck t) ?_)
  obtain ⟨hs, h⟩ := h
  have h := Out_leaf h
  refine Leads.chk hs fun _ => Leads.brG (fun q => ?_) (fun q => ?_)
  · have q : all3 t = true := q
    rw [tri_of q] at h
    repeat' (first | refine Leads.brD (fun _ => ?_) (fun _ => ?_) | refine Leads.brE (fun _ => ?_) (fun _ => ?_) | refine Leads.brN (fun _ => ?_) (fun _ => ?_) | refine Leads.brM (fun _ => ?_) (fun _ => ?_) | refine Leads.brG (fun _ => ?_) (fun _ => ?_) | refine Leads.br (fun _ => ?_) (fun _ => ?_) | refine Leads.chk ?_ (fun _ => ?_) | refine Leads.one ?_ | refine Leads.brP (fun _ => ?_) (fun _ => ?_))
    all_goals rw [h]
    all_goals first | (rw [triK_a (by assumption) (by assumption)]; rfl) | (rw [triK_b (by assumption)]; rfl) | (rw [triK_c (by assumption)]; rfl) | (rw [triK_d (by assumption)]; rfl) | (rw [triK_t (.inl (by assumption)) (by assumption) (Int.not_lt.1 (by assumption)) (Int.not_lt.1 (by assumption))]; rfl) | (rw [triK_t (.inr (by assumption)) (by assumption) (Int.not_lt.1 (by assumption)) (Int.not_lt.1 (by assumption))]; rfl)
  · have q : all3 t = false := q
    rw [tri_no q] at h
    exact Leads.one (by rw [h]; rfl)
def EtCheck : Es := (14, StCheck) :: Etright
theorem oktCheck : SatE P (En (EtCheck)) := SatE.cons (sattCheck) oktright
/-! ### legation/triples.CheckPattern -/
def LtCheckP : Ls := []
def StCheckP := mkS [(true, t3S)] fun ⟨(t : RowE t3S), _⟩ => .chk (sz3 140737488355328 t) (ii (if pat t = true then 0 else 2))
theorem ttCheckP (t : RowE t3S) : evF T (En (EtCheck)) (Ln (LtCheckP)) Try.f15 [.agg (rowD t3S t)] =
    chk (sz3 (140737488355328 : Nat) (t.fst, t.snd.fst, t.snd.snd.fst, t.snd.snd.snd.fst, t.snd.snd.snd.snd.fst, t.snd.snd.snd.snd.snd.fst, t.snd.snd.snd.snd.snd.snd.fst, t.snd.snd.snd.snd.snd.snd.snd.fst, t.snd.snd.snd.snd.snd.snd.snd.snd.fst, t.snd.snd.snd.snd.snd.snd.snd.snd.snd.fst, t.snd.snd.snd.snd.snd.snd.snd.snd.snd.snd.fst, t.snd.snd.snd.snd.snd.snd.snd.snd.snd.snd.snd.fst, ())) (br (!all3 (t.fst, t.snd.fst, t.snd.snd.fst, t.snd.snd.snd.fst, t.snd.snd.snd.snd.fst, t.snd.snd.snd.snd.snd.fst, t.snd.snd.snd.snd.snd.snd.fst, t.snd.snd.snd.snd.snd.snd.snd.fst, t.snd.snd.snd.snd.snd.snd.snd.snd.fst, t.snd.snd.snd.snd.snd.snd.snd.snd.snd.fst, t.snd.snd.snd.snd.snd.snd.snd.snd.snd.snd.fst, t.snd.snd.snd.snd.snd.snd.snd.snd.snd.snd.snd.fst, ())) (some (SV.val (AV.d (D.int IntKind.i64 (2 : Int))))) (br (t.fst != (1 : Int)) (br (t.fst != (4 : Int)) (some (SV.val (AV.d (D.int IntKind.i64 (2 : Int))))) (br (t.snd.snd.snd.snd.fst != (1 : Int)) (br (t.snd.snd.snd.snd.fst != (4 : Int)) (some (SV.val (AV.d (D.int IntKind.i64 (2 : Int))))) (br (t.snd.snd.snd.snd.snd.snd.snd.snd.fst == (0 : Int)) (some (SV.val (AV.d (D.int IntKind.i64 (2 : Int))))) (br (t.snd.snd.snd.snd.snd.snd.snd.snd.fst == (3 : Int)) (some (SV.val (AV.d (D.int IntKind.i64 (2 : Int))))) (some (SV.val (AV.d (D.int IntKind.i64 (0 : Int)))))))) (br (t.snd.snd.snd.snd.snd.snd.snd.snd.fst == (0 : Int)) (some (SV.val (AV.d (D.int IntKind.i64 (2 : Int))))) (br (t.snd.snd.snd.snd.snd.snd.snd.snd.fst == (3 : Int)) (some (SV.val (AV.d (D.int IntKind.i64 (2 : Int))))) (some (SV.val (AV.d (D.int IntKind.i64 (0 : Int))))))))) (br (t.snd.snd.snd.snd.fst != (1 : Int)) (br (t.snd.snd.snd.snd.fst != (4 : Int)) (some (SV.val (AV.d (D.int IntKind.i64 (2 : Int))))) (br (t.snd.snd.snd.snd.snd.snd.snd.snd.fst == (0 : Int)) (some (SV.val (AV.d (D.int IntKind.i64 (2 : Int))))) (br (t.snd.snd.snd.snd.snd.snd.snd.snd.fst == (3 : Int)) (some (SV.val (AV.d (D.int IntKind.i64 (2 : Int))))) (some (SV.val (AV.d (D.int IntKind.i64 (0 : Int)))))))) (br (t.snd.snd.snd.snd.snd.snd.snd.snd.fst == (0 : Int)) (some (SV.val (AV.d (D.int IntKind.i64 (2 : Int))))) (br (t.snd.snd.snd.snd.snd.snd.snd.snd.fst == (3 : Int)) (some (SV.val (AV.d (D.int IntKind.i64 (2 : Int))))) (some (SV.val (AV.d (D.int IntKind.i64 (0 : Int)))))))))) := by kernel_rfl
theorem sattCheckP : Sat P 15 (StCheckP) := by
  refine sat_mk (LT := Ln (LtCheckP)) hC oktCheck mixed Try.func15 (by kernel_rfl) (c := bodyOf Try.f15) (by kernel_rfl) (by kernel_rfl) ?_ (loops0 (by kernel_rfl))
  rintro ⟨(t : RowE t3S), _⟩ sv h
  refine Leads.eq (Leads.of_eq (ttCheckP t) ?_)
  obtain ⟨hs, h⟩ := h
  have h := Out_leaf h
  refine Leads.chk hs fun _ => Leads.brG (fun q => ?_) (fun q => ?_)
  · have q : all3 t = true := q
    rw [pat_of q] at h
    have qk := right_k (all3_o q)
    repeat' (first | refine Leads.brD (fun _ => ?_) (fun _ => ?_) | refine Leads.brE (fun _ => ?_) (fun _ => ?_) | refine Leads.brN (fun _ => ?_) (fun _ => ?_) | refine Leads.brM (fun _ => ?_) (fun _ => ?_) | refine Leads.brG (fun _ => ?_) (fun _ => ?_) | refine Leads.br (fun _ => ?_) (fun _ => ?_) | refine Leads.chk ?_ (fun _ => ?_) | refine Leads.one ?_ | refine Leads.brP (fun _ => ?_) (fun _ => ?_))
    all_goals rw [h]
    all_goals first | (rw [patK_a (by assumption) (by assumption)]; rfl) | (rw [patK_b (by assumption) (by assumption)]; rfl) | (rw [patK_n (.inl (by assumption))]; rfl) | (rw [patK_n (.inr (by assumption))]; rfl) | skip
    all_goals (rw [patK_y (by first | exact .inl (by assumption) | exact .inr (by assumption)) (by first | exact .inl (by assumption) | exact .inr (by assumption)) qk (by assumption) (by assumption)]; rfl)
  · have q : all3 t = false := q
    rw [pat_no q] at h
    exact Leads.one (by rw [h]; rfl)
def EtCheckP : Es := (15, StCheckP) :: EtCheck
theorem oktCheckP : SatE P (En (EtCheckP)) := SatE.cons (sattCheckP) oktCheck
/-! ### legation/legationref03.Right -/
def Lr3_Right : Ls := []
def Sr3_Right := mkS [(true, t3S)] fun ⟨(t : RowE t3S), _⟩ => .chk (sz3 140737488355328 t) (bl (tri t))
theorem tr3_Right (t : RowE t3S) : evF T (En (EtCheckP)) (Ln (Lr3_Right)) Try.f16 [.agg (rowD t3S t)] =
    chk (List.length t.snd.fst ≤ Big ∧ List.length t.snd.snd.fst ≤ Big ∧ List.length t.snd.snd.snd.fst ≤ Big) (br (!right t.fst t.snd.fst t.snd.snd.fst t.snd.snd.snd.fst) (some (SV.val (AV.d (D.bool false)))) (chk (List.length t.snd.snd.snd.snd.snd.fst ≤ Big ∧ List.length t.snd.snd.snd.snd.snd.snd.fst ≤ Big ∧ List.length t.snd.snd.snd.snd.snd.snd.snd.fst ≤ Big) (br (!right t.snd.snd.snd.snd.fst t.snd.snd.snd.snd.snd.fst t.snd.snd.snd.snd.snd.snd.fst t.snd.snd.snd.snd.snd.snd.snd.fst) (some (SV.val (AV.d (D.bool false)))) (chk (List.length t.snd.snd.snd.snd.snd.snd.snd.snd.snd.fst ≤ Big ∧ List.length t.snd.snd.snd.snd.snd.snd.snd.snd.snd.snd.fst ≤ Big ∧ List.length t.snd.snd.snd.snd.snd.snd.snd.snd.snd.snd.snd.fst ≤ Big) (br (!right t.snd.snd.snd.snd.snd.snd.snd.snd.fst t.snd.snd.snd.snd.snd.snd.snd.snd.snd.fst t.snd.snd.snd.snd.snd.snd.snd.snd.snd.snd.fst t.snd.snd.snd.snd.snd.snd.snd.snd.snd.snd.snd.fst) (some (SV.val (AV.d (D.bool false)))) (br (t.fst == (1 : Int)) (br (t.snd.snd.snd.snd.fst == (1 : Int)) (br (t.snd.snd.snd.snd.snd.snd.snd.snd.fst == (1 : Int)) (some (SV.val (AV.d (D.bool true)))) (br (t.snd.snd.snd.snd.snd.snd.snd.snd.fst == (3 : Int)) (some (SV.val (AV.d (D.bool true)))) (some (SV.val (AV.d (D.bool (t.snd.snd.snd.snd.snd.snd.snd.snd.fst == (2 : Int)))))))) (some (SV.val (AV.d (D.bool false))))) (br (t.fst == (3 : Int)) (br (t.snd.snd.snd.snd.fst == (1 : Int)) (br (t.snd.snd.snd.snd.snd.snd.snd.snd.fst == (1 : Int)) (some (SV.val (AV.d (D.bool true)))) (br (t.snd.snd.snd.snd.snd.snd.snd.snd.fst == (3 : Int)) (some (SV.val (AV.d (D.bool true)))) (some (SV.val (AV.d (D.bool (t.snd.snd.snd.snd.snd.snd.snd.snd.fst == (2 : Int)))))))) (some (SV.val (AV.d (D.bool false))))) (some (SV.val (AV.d (D.bool false))))))))))) := by kernel_rfl
theorem satr3_Right : Sat P 16 (Sr3_Right) := by
  refine sat_mk (LT := Ln (Lr3_Right)) hC oktCheckP mixed Try.func16 (by kernel_rfl) (c := bodyOf Try.f16) (by kernel_rfl) (by kernel_rfl) ?_ (loops0 (by kernel_rfl))
  rintro ⟨(t : RowE t3S), _⟩ sv h
  refine Leads.eq (Leads.of_eq (tr3_Right t) ?_)
  obtain ⟨⟨s1, s2, s3⟩, h⟩ := h
  have h := Out_leaf h
  have hB := Big_eq
  refine Leads.chk (by omega) fun _ => Leads.brG (fun q1 => Leads.chk (by omega) fun _ => Leads.brG (fun q2 => Leads.chk (by omega) fun _ => Leads.brG (fun q3 => ?_) (fun q3 => Leads.one ?_)) (fun q2 => Leads.one ?_)) (fun q1 => Leads.one ?_)
  · rw [tri_of (all3_t q1 q2 q3)] at h
    clear s1 s2 s3 hB
    repeat' (first | refine Leads.brD (fun _ => ?_) (fun _ => ?_) | refine Leads.brE (fun _ => ?_) (fun _ => ?_) | refine Leads.brN (fun _ => ?_) (fun _ => ?_) | refine Leads.brM (fun _ => ?_) (fun _ => ?_) | refine Leads.brG (fun _ => ?_) (fun _ => ?_) | refine Leads.br (fun _ => ?_) (fun _ => ?_) | refine Leads.chk ?_ (fun _ => ?_) | refine Leads.one ?_ | refine Leads.brP (fun _ => ?_) (fun _ => ?_))
    all_goals rw [h]
    all_goals first | (rw [triK_a (by assumption) (by assumption)]; done) | (rw [triK_b (by assumption)]; done) | (rw [triK_1 (by first | exact .inl (by assumption) | exact .inr (by assumption)) (by assumption) (by assumption)]; done) | (rw [triK_3 (by first | exact .inl (by assumption) | exact .inr (by assumption)) (by assumption) (by assumption)]; done) | (rw [triK_e (by first | exact .inl (by assumption) | exact .inr (by assumption)) (by assumption) (by assumption) (by assumption)]; rfl)
  · rw [h, tri_no (all3_3 q3)]
  · rw [h, tri_no (all3_2 q2)]
  · rw [h, tri_no (all3_1 q1)]
def Er3_Right : Es := (16, Sr3_Right) :: EtCheckP
theorem okr3_Right : SatE P (En (Er3_Right)) := SatE.cons (satr3_Right) oktCheckP
/-! ### legation/legationref03.RightPattern -/
def Lr3_RightPattern : Ls := []
def Sr3_RightPattern := mkS [(true, t3S)] fun ⟨(t : RowE t3S), _⟩ => .chk (sz3 140737488355328 t) (bl (pat t))
theorem tr3_RightPattern (t : RowE t3S) : evF T (En (Er3_Right)) (Ln (Lr3_RightPattern)) Try.f17 [.agg (rowD t3S t)] =
    chk (List.length t.snd.fst ≤ Big ∧ List.length t.snd.snd.fst ≤ Big ∧ List.length t.snd.snd.snd.fst ≤ Big) (br (!right t.fst t.snd.fst t.snd.snd.fst t.snd.snd.snd.fst) (some (SV.val (AV.d (D.bool false)))) (chk (List.length t.snd.snd.snd.snd.snd.fst ≤ Big ∧ List.length t.snd.snd.snd.snd.snd.snd.fst ≤ Big ∧ List.length t.snd.snd.snd.snd.snd.snd.snd.fst ≤ Big) (br (!right t.snd.snd.snd.snd.fst t.snd.snd.snd.snd.snd.fst t.snd.snd.snd.snd.snd.snd.fst t.snd.snd.snd.snd.snd.snd.snd.fst) (some (SV.val (AV.d (D.bool false)))) (chk (List.length t.snd.snd.snd.snd.snd.snd.snd.snd.snd.fst ≤ Big ∧ List.length t.snd.snd.snd.snd.snd.snd.snd.snd.snd.snd.fst ≤ Big ∧ List.length t.snd.snd.snd.snd.snd.snd.snd.snd.snd.snd.snd.fst ≤ Big) (br (!right t.snd.snd.snd.snd.snd.snd.snd.snd.fst t.snd.snd.snd.snd.snd.snd.snd.snd.snd.fst t.snd.snd.snd.snd.snd.snd.snd.snd.snd.snd.fst t.snd.snd.snd.snd.snd.snd.snd.snd.snd.snd.snd.fst) (some (SV.val (AV.d (D.bool false)))) (br (t.fst == (1 : Int)) (br (t.snd.snd.snd.snd.fst == (1 : Int)) (br (t.snd.snd.snd.snd.snd.snd.snd.snd.fst == (1 : Int)) (some (SV.val (AV.d (D.bool true)))) (br (t.snd.snd.snd.snd.snd.snd.snd.snd.fst == (2 : Int)) (some (SV.val (AV.d (D.bool true)))) (some (SV.val (AV.d (D.bool (t.snd.snd.snd.snd.snd.snd.snd.snd.fst == (4 : Int)))))))) (br (t.snd.snd.snd.snd.fst == (4 : Int)) (br (t.snd.snd.snd.snd.snd.snd.snd.snd.fst == (1 : Int)) (some (SV.val (AV.d (D.bool true)))) (br (t.snd.snd.snd.snd.snd.snd.snd.snd.fst == (2 : Int)) (some (SV.val (AV.d (D.bool true)))) (some (SV.val (AV.d (D.bool (t.snd.snd.snd.snd.snd.snd.snd.snd.fst == (4 : Int)))))))) (some (SV.val (AV.d (D.bool false)))))) (br (t.fst == (4 : Int)) (br (t.snd.snd.snd.snd.fst == (1 : Int)) (br (t.snd.snd.snd.snd.snd.snd.snd.snd.fst == (1 : Int)) (some (SV.val (AV.d (D.bool true)))) (br (t.snd.snd.snd.snd.snd.snd.snd.snd.fst == (2 : Int)) (some (SV.val (AV.d (D.bool true)))) (some (SV.val (AV.d (D.bool (t.snd.snd.snd.snd.snd.snd.snd.snd.fst == (4 : Int)))))))) (br (t.snd.snd.snd.snd.fst == (4 : Int)) (br (t.snd.snd.snd.snd.snd.snd.snd.snd.fst == (1 : Int)) (some (SV.val (AV.d (D.bool true)))) (br (t.snd.snd.snd.snd.snd.snd.snd.snd.fst == (2 : Int)) (some (SV.val (AV.d (D.bool true)))) (some (SV.val (AV.d (D.bool (t.snd.snd.snd.snd.snd.snd.snd.snd.fst == (4 : Int)))))))) (some (SV.val (AV.d (D.bool false)))))) (some (SV.val (AV.d (D.bool false))))))))))) := by kernel_rfl
theorem satr3_RightPattern : Sat P 17 (Sr3_RightPattern) := by
  refine sat_mk (LT := Ln (Lr3_RightPattern)) hC okr3_Right mixed Try.func17 (by kernel_rfl) (c := bodyOf Try.f17) (by kernel_rfl) (by kernel_rfl) ?_ (loops0 (by kernel_rfl))
  rintro ⟨(t : RowE t3S), _⟩ sv h
  refine Leads.eq (Leads.of_eq (tr3_RightPattern t) ?_)
  obtain ⟨⟨s1, s2, s3⟩, h⟩ := h
  have h := Out_leaf h
  have hB := Big_eq
  refine Leads.chk (by omega) fun _ => Leads.brG (fun q1 => Leads.chk (by omega) fun _ => Leads.brG (fun q2 => Leads.chk (by omega) fun _ => Leads.brG (fun q3 => ?_) (fun q3 => Leads.one ?_)) (fun q2 => Leads.one ?_)) (fun q1 => Leads.one ?_)
  · rw [pat_of (all3_t q1 q2 q3)] at h
    clear s1 s2 s3 hB
    repeat' (first | refine Leads.brD (fun _ => ?_) (fun _ => ?_) | refine Leads.brE (fun _ => ?_) (fun _ => ?_) | refine Leads.brN (fun _ => ?_) (fun _ => ?_) | refine Leads.brM (fun _ => ?_) (fun _ => ?_) | refine Leads.brG (fun _ => ?_) (fun _ => ?_) | refine Leads.br (fun _ => ?_) (fun _ => ?_) | refine Leads.chk ?_ (fun _ => ?_) | refine Leads.one ?_ | refine Leads.brP (fun _ => ?_) (fun _ => ?_))
    all_goals rw [h]
    all_goals first | (rw [patK_a (by assumption) (by assumption)]; done) | (rw [patK_b (by assumption) (by assumption)]; done) | (rw [patK_1 (by first | exact .inl (by assumption) | exact .inr (by assumption)) (by first | exact .inl (by assumption) | exact .inr (by assumption)) (by assumption)]; done) | (rw [patK_2 (by first | exact .inl (by assumption) | exact .inr (by assumption)) (by first | exact .inl (by assumption) | exact .inr (by assumption)) (by assumption)]; done) | (rw [patK_e (by first | exact .inl (by assumption) | exact .inr (by assumption)) (by first | exact .inl (by assumption) | exact .inr (by assumption)) (by assumption) (by assumption)]; rfl)
  · rw [h, pat_no (all3_3 q3)]
  · rw [h, pat_no (all3_2 q2)]
  · rw [h, pat_no (all3_1 q1)]
def Er3_RightPattern : Es := (17, Sr3_RightPattern) :: Er3_Right
theorem okr3_RightPattern : SatE P (En (Er3_RightPattern)) := SatE.cons (satr3_RightPattern) okr3_Right
end Go.Proofs.Ytglchbjdjnffcaa.T3
