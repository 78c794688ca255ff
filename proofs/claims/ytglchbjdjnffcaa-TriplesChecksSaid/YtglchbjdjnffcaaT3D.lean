/- Part of a proof of the seat's statements: no statement by itself. -/
import Derived.Test.YtglchbjdjnffcaaT3C
set_option maxRecDepth 100000
open Go.Proofs.Ytglchbjdjnffcaa.Lg Go Go.Proofs.Ytglchbjdjnffcaa.Sp
open Go.Proofs
namespace Go.Proofs.Ytglchbjdjnffcaa.T3


/-! ### legation/legationref03.one -/
def Lr3_one : Ls := []
def Sr3_one := mkS [(false, [.str])] fun ⟨⟨(s : List UInt8), _⟩, _⟩ => .chk (s.length ≤ 140737488351232) (.leaf (.val (.tup [.agg (rowD t3S (lineR s).1), .d (.bool (lineR s).2)])))
theorem tr3_one (s : List UInt8) : evF T (En (Etline)) (Ln (Lr3_one)) Try.f29 [.d (.str s)] =
    chk (s.length ≤ (1152921504606846976 : Nat))
  (br ((prefixS s).snd.snd.snd.snd == (0 : Int)) (some (SV.val (AV.tup [AV.agg [D.int IntKind.i64 (CE.dflt (Sh.int IntKind.i64)), D.str (CE.dflt Sh.str), D.str (CE.dflt Sh.str), D.str (CE.dflt Sh.str), D.int IntKind.i64 (CE.dflt (Sh.int IntKind.i64)), D.str (CE.dflt Sh.str), D.str (CE.dflt Sh.str), D.str (CE.dflt Sh.str), D.int IntKind.i64 (CE.dflt (Sh.int IntKind.i64)), D.str (CE.dflt Sh.str), D.str (CE.dflt Sh.str), D.str (CE.dflt Sh.str)], AV.d (D.bool false)])))
    (br (decide ((prefixS s).snd.snd.snd.snd ≥ (↑s.length : Int))) (some (SV.val (AV.tup [AV.agg [D.int IntKind.i64 (CE.dflt (Sh.int IntKind.i64)), D.str (CE.dflt Sh.str), D.str (CE.dflt Sh.str), D.str (CE.dflt Sh.str), D.int IntKind.i64 (CE.dflt (Sh.int IntKind.i64)), D.str (CE.dflt Sh.str), D.str (CE.dflt Sh.str), D.str (CE.dflt Sh.str), D.int IntKind.i64 (CE.dflt (Sh.int IntKind.i64)), D.str (CE.dflt Sh.str), D.str (CE.dflt Sh.str), D.str (CE.dflt Sh.str)], AV.d (D.bool false)])))
      (chk ((0 : Int) ≤ (prefixS s).snd.snd.snd.snd ∧ (prefixS s).snd.snd.snd.snd < (↑s.length : Int))
        (br (byteAt s (prefixS s).snd.snd.snd.snd != (32 : Int)) (some (SV.val (AV.tup [AV.agg [D.int IntKind.i64 (CE.dflt (Sh.int IntKind.i64)), D.str (CE.dflt Sh.str), D.str (CE.dflt Sh.str), D.str (CE.dflt Sh.str), D.int IntKind.i64 (CE.dflt (Sh.int IntKind.i64)), D.str (CE.dflt Sh.str), D.str (CE.dflt Sh.str), D.str (CE.dflt Sh.str), D.int IntKind.i64 (CE.dflt (Sh.int IntKind.i64)), D.str (CE.dflt Sh.str), D.str (CE.dflt Sh.str), D.str (CE.dflt Sh.str)], AV.d (D.bool false)])))
          (chk ((0 : Int) ≤ IntKind.i64.wrap ((prefixS s).snd.snd.snd.snd + (1 : Int)) ∧ IntKind.i64.wrap ((prefixS s).snd.snd.snd.snd + (1 : Int)) ≤ (↑s.length : Int))
            (chk ((List.drop (IntKind.i64.wrap ((prefixS s).snd.snd.snd.snd + (1 : Int))).toNat s).length ≤ (1152921504606846976 : Nat))
              (br ((prefixS (List.drop (IntKind.i64.wrap ((prefixS s).snd.snd.snd.snd + (1 : Int))).toNat s)).snd.snd.snd.snd == (0 : Int)) (some (SV.val (AV.tup [AV.agg [D.int IntKind.i64 (CE.dflt (Sh.int IntKind.i64)), D.str (CE.dflt Sh.str), D.str (CE.dflt Sh.str), D.str (CE.dflt Sh.str), D.int IntKind.i64 (CE.dflt (Sh.int IntKind.i64)), D.str (CE.dflt Sh.str), D.str (CE.dflt Sh.str), D.str (CE.dflt Sh.str), D.int IntKind.i64 (CE.dflt (Sh.int IntKind.i64)), D.str (CE.dflt Sh.str), D.str (CE.dflt Sh.str), D.str (CE.dflt Sh.str)], AV.d (D.bool false)])))
                (br (decide ((prefixS (List.drop (IntKind.i64.wrap ((prefixS s).snd.snd.snd.snd + (1 : Int))).toNat s)).snd.snd.snd.snd ≥ (↑(List.drop (IntKind.i64.wrap ((prefixS s).snd.snd.snd.snd + (1 : Int))).toNat s).length : Int))) (some (SV.val (AV.tup [AV.agg [D.int IntKind.i64 (CE.dflt (Sh.int IntKind.i64)), D.str (CE.dflt Sh.str), D.str (CE.dflt Sh.str), D.str (CE.dflt Sh.str), D.int IntKind.i64 (CE.dflt (Sh.int IntKind.i64)), D.str (CE.dflt Sh.str), D.str (CE.dflt Sh.str), D.str (CE.dflt Sh.str), D.int IntKind.i64 (CE.dflt (Sh.int IntKind.i64)), D.str (CE.dflt Sh.str), D.str (CE.dflt Sh.str), D.str (CE.dflt Sh.str)], AV.d (D.bool false)])))
                  (chk ((0 : Int) ≤ (prefixS (List.drop (IntKind.i64.wrap ((prefixS s).snd.snd.snd.snd + (1 : Int))).toNat s)).snd.snd.snd.snd ∧ (prefixS (List.drop (IntKind.i64.wrap ((prefixS s).snd.snd.snd.snd + (1 : Int))).toNat s)).snd.snd.snd.snd < (↑(List.drop (IntKind.i64.wrap ((prefixS s).snd.snd.snd.snd + (1 : Int))).toNat s).length : Int))
                    (br (byteAt (List.drop (IntKind.i64.wrap ((prefixS s).snd.snd.snd.snd + (1 : Int))).toNat s) (prefixS (List.drop (IntKind.i64.wrap ((prefixS s).snd.snd.snd.snd + (1 : Int))).toNat s)).snd.snd.snd.snd != (32 : Int)) (some (SV.val (AV.tup [AV.agg [D.int IntKind.i64 (CE.dflt (Sh.int IntKind.i64)), D.str (CE.dflt Sh.str), D.str (CE.dflt Sh.str), D.str (CE.dflt Sh.str), D.int IntKind.i64 (CE.dflt (Sh.int IntKind.i64)), D.str (CE.dflt Sh.str), D.str (CE.dflt Sh.str), D.str (CE.dflt Sh.str), D.int IntKind.i64 (CE.dflt (Sh.int IntKind.i64)), D.str (CE.dflt Sh.str), D.str (CE.dflt Sh.str), D.str (CE.dflt Sh.str)], AV.d (D.bool false)])))
                      (chk ((0 : Int) ≤ IntKind.i64.wrap ((prefixS (List.drop (IntKind.i64.wrap ((prefixS s).snd.snd.snd.snd + (1 : Int))).toNat s)).snd.snd.snd.snd + (1 : Int)) ∧ IntKind.i64.wrap ((prefixS (List.drop (IntKind.i64.wrap ((prefixS s).snd.snd.snd.snd + (1 : Int))).toNat s)).snd.snd.snd.snd + (1 : Int)) ≤ (↑(List.drop (IntKind.i64.wrap ((prefixS s).snd.snd.snd.snd + (1 : Int))).toNat s).length : Int))
                        (chk ((List.drop (IntKind.i64.wrap ((prefixS (List.drop (IntKind.i64.wrap ((prefixS s).snd.snd.snd.snd + (1 : Int))).toNat s)).snd.snd.snd.snd + (1 : Int))).toNat (List.drop (IntKind.i64.wrap ((prefixS s).snd.snd.snd.snd + (1 : Int))).toNat s)).length ≤ (1152921504606846976 : Nat))
                          (br (decide ((prefixS (List.drop (IntKind.i64.wrap ((prefixS (List.drop (IntKind.i64.wrap ((prefixS s).snd.snd.snd.snd + (1 : Int))).toNat s)).snd.snd.snd.snd + (1 : Int))).toNat (List.drop (IntKind.i64.wrap ((prefixS s).snd.snd.snd.snd + (1 : Int))).toNat s))).snd.snd.snd.snd > (0 : Int)))
                            (chk ((0 : Int) ≤ (prefixS (List.drop (IntKind.i64.wrap ((prefixS (List.drop (IntKind.i64.wrap ((prefixS s).snd.snd.snd.snd + (1 : Int))).toNat s)).snd.snd.snd.snd + (1 : Int))).toNat (List.drop (IntKind.i64.wrap ((prefixS s).snd.snd.snd.snd + (1 : Int))).toNat s))).snd.snd.snd.snd ∧ (prefixS (List.drop (IntKind.i64.wrap ((prefixS (List.drop (IntKind.i64.wrap ((prefixS s).snd.snd.snd.snd + (1 : Int))).toNat s)).snd.snd.snd.snd + (1 : Int))).toNat (List.drop (IntKind.i64.wrap ((prefixS s).snd.snd.snd.snd + (1 : Int))).toNat s))).snd.snd.snd.snd ≤ (↑(List.drop (IntKind.i64.wrap ((prefixS (List.drop (IntKind.i64.wrap ((prefixS s).snd.snd.snd.snd + (1 : Int))).toNat s)).snd.snd.snd.snd + (1 : Int))).toNat (List.drop (IntKind.i64.wrap ((prefixS s).snd.snd.snd.snd + (1 : Int))).toNat s)).length : Int))
                              (br (List.drop (prefixS (List.drop (IntKind.i64.wrap ((prefixS (List.drop (IntKind.i64.wrap ((prefixS s).snd.snd.snd.snd + (1 : Int))).toNat s)).snd.snd.snd.snd + (1 : Int))).toNat (List.drop (IntKind.i64.wrap ((prefixS s).snd.snd.snd.snd + (1 : Int))).toNat s))).snd.snd.snd.snd.toNat (List.drop (IntKind.i64.wrap ((prefixS (List.drop (IntKind.i64.wrap ((prefixS s).snd.snd.snd.snd + (1 : Int))).toNat s)).snd.snd.snd.snd + (1 : Int))).toNat (List.drop (IntKind.i64.wrap ((prefixS s).snd.snd.snd.snd + (1 : Int))).toNat s)) == [(32 : UInt8), (46 : UInt8)])
                                (chk (sz3 (140737488355328 : Nat) ((prefixS s).fst, (prefixS s).snd.fst, (prefixS s).snd.snd.fst, (prefixS s).snd.snd.snd.fst, (prefixS (List.drop (IntKind.i64.wrap ((prefixS s).snd.snd.snd.snd + (1 : Int))).toNat s)).fst, (prefixS (List.drop (IntKind.i64.wrap ((prefixS s).snd.snd.snd.snd + (1 : Int))).toNat s)).snd.fst, (prefixS (List.drop (IntKind.i64.wrap ((prefixS s).snd.snd.snd.snd + (1 : Int))).toNat s)).snd.snd.fst, (prefixS (List.drop (IntKind.i64.wrap ((prefixS s).snd.snd.snd.snd + (1 : Int))).toNat s)).snd.snd.snd.fst, (prefixS (List.drop (IntKind.i64.wrap ((prefixS (List.drop (IntKind.i64.wrap ((prefixS s).snd.snd.snd.snd + (1 : Int))).toNat s)).snd.snd.snd.snd + (1 : Int))).toNat (List.drop (IntKind.i64.wrap ((prefixS s).snd.snd.snd.snd + (1 : Int))).toNat s))).fst, (prefixS (List.drop (IntKind.i64.wrap ((prefixS (List.drop (IntKind.i64.wrap ((prefixS s).snd.snd.snd.snd + (1 : Int))).toNat s)).snd.snd.snd.snd + (1 : Int))).toNat (List.drop (IntKind.i64.wrap ((prefixS s).snd.snd.snd.snd + (1 : Int))).toNat s))).snd.fst, (prefixS (List.drop (IntKind.i64.wrap ((prefixS (List.drop (IntKind.i64.wrap ((prefixS s).snd.snd.snd.snd + (1 : Int))).toNat s)).snd.snd.snd.snd + (1 : Int))).toNat (List.drop (IntKind.i64.wrap ((prefixS s).snd.snd.snd.snd + (1 : Int))).toNat s))).snd.snd.fst, (prefixS (List.drop (IntKind.i64.wrap ((prefixS (List.drop (IntKind.i64.wrap ((prefixS s).snd.snd.snd.snd + (1 : Int))).toNat s)).snd.snd.snd.snd + (1 : Int))).toNat (List.drop (IntKind.i64.wrap ((prefixS s).snd.snd.snd.snd + (1 : Int))).toNat s))).snd.snd.snd.fst, ()))
                                  (some (SV.val (AV.tup [AV.agg [D.int IntKind.i64 (prefixS s).fst, D.str (prefixS s).snd.fst, D.str (prefixS s).snd.snd.fst, D.str (prefixS s).snd.snd.snd.fst, D.int IntKind.i64 (prefixS (List.drop (IntKind.i64.wrap ((prefixS s).snd.snd.snd.snd + (1 : Int))).toNat s)).fst, D.str (prefixS (List.drop (IntKind.i64.wrap ((prefixS s).snd.snd.snd.snd + (1 : Int))).toNat s)).snd.fst, D.str (prefixS (List.drop (IntKind.i64.wrap ((prefixS s).snd.snd.snd.snd + (1 : Int))).toNat s)).snd.snd.fst, D.str (prefixS (List.drop (IntKind.i64.wrap ((prefixS s).snd.snd.snd.snd + (1 : Int))).toNat s)).snd.snd.snd.fst, D.int IntKind.i64 (prefixS (List.drop (IntKind.i64.wrap ((prefixS (List.drop (IntKind.i64.wrap ((prefixS s).snd.snd.snd.snd + (1 : Int))).toNat s)).snd.snd.snd.snd + (1 : Int))).toNat (List.drop (IntKind.i64.wrap ((prefixS s).snd.snd.snd.snd + (1 : Int))).toNat s))).fst, D.str (prefixS (List.drop (IntKind.i64.wrap ((prefixS (List.drop (IntKind.i64.wrap ((prefixS s).snd.snd.snd.snd + (1 : Int))).toNat s)).snd.snd.snd.snd + (1 : Int))).toNat (List.drop (IntKind.i64.wrap ((prefixS s).snd.snd.snd.snd + (1 : Int))).toNat s))).snd.fst, D.str (prefixS (List.drop (IntKind.i64.wrap ((prefixS (List.drop (IntKind.i64.wrap ((prefixS s).snd.snd.snd.snd + (1 : Int))).toNat s)).snd.snd.snd.snd + (1 : Int))).toNat (List.drop (IntKind.i64.wrap ((prefixS s).snd.snd.snd.snd + (1 : Int))).toNat s))).snd.snd.fst, D.str (prefixS (List.drop (IntKind.i64.wrap ((prefixS (List.drop (IntKind.i64.wrap ((prefixS s).snd.snd.snd.snd + (1 : Int))).toNat s)).snd.snd.snd.snd + (1 : Int))).toNat (List.drop (IntKind.i64.wrap ((prefixS s).snd.snd.snd.snd + (1 : Int))).toNat s))).snd.snd.snd.fst], AV.d (D.bool (tri ((prefixS s).fst, (prefixS s).snd.fst, (prefixS s).snd.snd.fst, (prefixS s).snd.snd.snd.fst, (prefixS (List.drop (IntKind.i64.wrap ((prefixS s).snd.snd.snd.snd + (1 : Int))).toNat s)).fst, (prefixS (List.drop (IntKind.i64.wrap ((prefixS s).snd.snd.snd.snd + (1 : Int))).toNat s)).snd.fst, (prefixS (List.drop (IntKind.i64.wrap ((prefixS s).snd.snd.snd.snd + (1 : Int))).toNat s)).snd.snd.fst, (prefixS (List.drop (IntKind.i64.wrap ((prefixS s).snd.snd.snd.snd + (1 : Int))).toNat s)).snd.snd.snd.fst, (prefixS (List.drop (IntKind.i64.wrap ((prefixS (List.drop (IntKind.i64.wrap ((prefixS s).snd.snd.snd.snd + (1 : Int))).toNat s)).snd.snd.snd.snd + (1 : Int))).toNat (List.drop (IntKind.i64.wrap ((prefixS s).snd.snd.snd.snd + (1 : Int))).toNat s))).fst, (prefixS (List.drop (IntKind.i64.wrap ((prefixS (List.drop (IntKind.i64.wrap ((prefixS s).snd.snd.snd.snd + (1 : Int))).toNat s)).snd.snd.snd.snd + (1 : Int))).toNat (List.drop (IntKind.i64.wrap ((prefixS s).snd.snd.snd.snd + (1 : Int))).toNat s))).snd.fst, (prefixS (List.drop (IntKind.i64.wrap ((prefixS (List.drop (IntKind.i64.wrap ((prefixS s).snd.snd.snd.snd + (1 : Int))).toNat s)).snd.snd.snd.snd + (1 : Int))).toNat (List.drop (IntKind.i64.wrap ((prefixS s).snd.snd.snd.snd + (1 : Int))).toNat s))).snd.snd.fst, (prefixS (List.drop (IntKind.i64.wrap ((prefixS (List.drop (IntKind.i64.wrap ((prefixS s).snd.snd.snd.snd + (1 : Int))).toNat s)).snd.snd.snd.snd + (1 : Int))).toNat (List.drop (IntKind.i64.wrap ((prefixS s).snd.snd.snd.snd + (1 : Int))).toNat s))).snd.snd.snd.fst, ())))]))))
                                (some (SV.val (AV.tup [AV.agg [D.int IntKind.i64 (prefixS s).fst, D.str (prefixS s).snd.fst, D.str (prefixS s).snd.snd.fst, D.str (prefixS s).snd.snd.snd.fst, D.int IntKind.i64 (prefixS (List.drop (IntKind.i64.wrap ((prefixS s).snd.snd.snd.snd + (1 : Int))).toNat s)).fst, D.str (prefixS (List.drop (IntKind.i64.wrap ((prefixS s).snd.snd.snd.snd + (1 : Int))).toNat s)).snd.fst, D.str (prefixS (List.drop (IntKind.i64.wrap ((prefixS s).snd.snd.snd.snd + (1 : Int))).toNat s)).snd.snd.fst, D.str (prefixS (List.drop (IntKind.i64.wrap ((prefixS s).snd.snd.snd.snd + (1 : Int))).toNat s)).snd.snd.snd.fst, D.int IntKind.i64 (prefixS (List.drop (IntKind.i64.wrap ((prefixS (List.drop (IntKind.i64.wrap ((prefixS s).snd.snd.snd.snd + (1 : Int))).toNat s)).snd.snd.snd.snd + (1 : Int))).toNat (List.drop (IntKind.i64.wrap ((prefixS s).snd.snd.snd.snd + (1 : Int))).toNat s))).fst, D.str (prefixS (List.drop (IntKind.i64.wrap ((prefixS (List.drop (IntKind.i64.wrap ((prefixS s).snd.snd.snd.snd + (1 : Int))).toNat s)).snd.snd.snd.snd + (1 : Int))).toNat (List.drop (IntKind.i64.wrap ((prefixS s).snd.snd.snd.snd + (1 : Int))).toNat s))).snd.fst, D.str (prefixS (List.drop (IntKind.i64.wrap ((prefixS (List.drop (IntKind.i64.wrap ((prefixS s).snd.snd.snd.snd + (1 : Int))).toNat s)).snd.snd.snd.snd + (1 : Int))).toNat (List.drop (IntKind.i64.wrap ((prefixS s).snd.snd.snd.snd + (1 : Int))).toNat s))).snd.snd.fst, D.str (prefixS (List.drop (IntKind.i64.wrap ((prefixS (List.drop (IntKind.i64.wrap ((prefixS s).snd.snd.snd.snd + (1 : Int))).toNat s)).snd.snd.snd.snd + (1 : Int))).toNat (List.drop (IntKind.i64.wrap ((prefixS s).snd.snd.snd.snd + (1 : Int))).toNat s))).snd.snd.snd.fst], AV.d (D.bool false)])))))
                            (some (SV.val (AV.tup [AV.agg [D.int IntKind.i64 (prefixS s).fst, D.str (prefixS s).snd.fst, D.str (prefixS s).snd.snd.fst, D.str (prefixS s).snd.snd.snd.fst, D.int IntKind.i64 (prefixS (List.drop (IntKind.i64.wrap ((prefixS s).snd.snd.snd.snd + (1 : Int))).toNat s)).fst, D.str (prefixS (List.drop (IntKind.i64.wrap ((prefixS s).snd.snd.snd.snd + (1 : Int))).toNat s)).snd.fst, D.str (prefixS (List.drop (IntKind.i64.wrap ((prefixS s).snd.snd.snd.snd + (1 : Int))).toNat s)).snd.snd.fst, D.str (prefixS (List.drop (IntKind.i64.wrap ((prefixS s).snd.snd.snd.snd + (1 : Int))).toNat s)).snd.snd.snd.fst, D.int IntKind.i64 (prefixS (List.drop (IntKind.i64.wrap ((prefixS (List.drop (IntKind.i64.wrap ((prefixS s).snd.snd.snd.snd + (1 : Int))).toNat s)).snd.snd.snd.snd + (1 : Int))).toNat (List.drop (IntKind.i64.wrap ((prefixS s).snd.snd.snd.snd + (1 : Int))).toNat s))).fst, D.str (prefixS (List.drop (IntKind.i64.wrap ((prefixS (List.drop (IntKind.i64.wrap ((prefixS s).snd.snd.snd.snd + (1 : Int))).toNat s)).snd.snd.snd.snd + (1 : Int))).toNat (List.drop (IntKind.i64.wrap ((prefixS s).snd.snd.snd.snd + (1 : Int))).toNat s))).snd.fst, D.str (prefixS (List.drop (IntKind.i64.wrap ((prefixS (List.drop (IntKind.i64.wrap ((prefixS s).snd.snd.snd.snd + (1 : Int))).toNat s)).snd.snd.snd.snd + (1 : Int))).toNat (List.drop (IntKind.i64.wrap ((prefixS s).snd.snd.snd.snd + (1 : Int))).toNat s))).snd.snd.fst, D.str (prefixS (List.drop (IntKind.i64.wrap ((prefixS (List.drop (IntKind.i64.wrap ((prefixS s).snd.snd.snd.snd + (1 : Int))).toNat s)).snd.snd.snd.snd + (1 : Int))).toNat (List.drop (IntKind.i64.wrap ((prefixS s).snd.snd.snd.snd + (1 : Int))).toNat s))).snd.snd.snd.fst], AV.d (D.bool false)])))))))))))))))) := by kernel_rfl
theorem satr3_one : Sat P 29 (Sr3_one) := by
  refine sat_mk (LT := Ln (Lr3_one)) hC oktline mixed Try.func29 (by kernel_rfl) (c := bodyOf Try.f29) (by kernel_rfl) (by kernel_rfl) ?_ (loops0 (by kernel_rfl))
  rintro ⟨⟨(s : List UInt8), _⟩, _⟩ sv h
  refine Leads.eq (Leads.of_eq (tr3_one s) ?_)
  obtain ⟨hs, h⟩ := h
  have h := Out_leaf h
  have hs : s.length ≤ 1152921504606846976 := Nat.le_trans hs (by decide)
  have step : ∀ s : B, s.length ≤ 1152921504606846976 → True ∧ 0 ≤ (prefixS s).2.2.2.2 ∧ (prefixS s).2.2.2.2 ≤ s.length := fun s hs => ⟨trivial, prefixS_ge s, prefixS_le s⟩
  have endless : ∀ s : B, (prefixS s).2.2.2.2 ≥ s.length → ¬ (s.drop (prefixS s).2.2.2.2.toNat).take 1 = [32] := by
    intro s h e
    rw [List.drop_of_length_le (by have := prefixS_ge s; omega)] at e
    simp at e
  have at1 : ∀ s : B, ¬ (prefixS s).2.2.2.2 ≥ s.length → ((s.drop (prefixS s).2.2.2.2.toNat).take 1 = [32] ↔ byteAt s (prefixS s).2.2.2.2 = 32) := by
    intro s h
    have h0 := prefixS_ge s
    obtain ⟨b, hd, hb, _⟩ := byteAt_drop (s := s) (n := (prefixS s).2.2.2.2.toNat) (by omega)
    rw [hd]
    rw [show (((prefixS s).2.2.2.2.toNat : Nat) : Int) = (prefixS s).2.2.2.2 by omega] at hb
    rw [hb]
    simp only [List.take_succ_cons, List.take_zero, List.cons.injEq, and_true]
    constructor
    · rintro rfl; rfl
    · intro q; exact u_inj q
  have byte : ∀ s : B, ¬ (prefixS s).2.2.2.2 ≥ s.length → (s.drop (prefixS s).2.2.2.2.toNat).take 1 = [32] → byteAt s (prefixS s).2.2.2.2 = 32 := fun s h => (at1 s h).1
  have byte' : ∀ s : B, ¬ (prefixS s).2.2.2.2 ≥ s.length → byteAt s (prefixS s).2.2.2.2 = 32 → (s.drop (prefixS s).2.2.2.2.toNat).take 1 = [32] := fun s h => (at1 s h).2
  have key : ∀ s : B, s.length ≤ 1152921504606846976 → ¬ (prefixS s).2.2.2.2 = 0 → (s.drop (prefixS s).2.2.2.2.toNat).take 1 = [32] → IntKind.i64.wrap ((prefixS s).2.2.2.2 + 1) = (prefixS s).2.2.2.2 + 1 ∧ (prefixS s).2.2.2.2 + 1 ≤ s.length ∧ ((prefixS s).2.2.2.2 + 1).toNat = (prefixS s).2.2.2.2.toNat + 1 ∧
      head3 s = some (((prefixS s).1, (prefixS s).2.1, (prefixS s).2.2.1, (prefixS s).2.2.2.1, ()), s.drop ((prefixS s).2.2.2.2.toNat + 1)) := by
    intro s hs n0 tk
    obtain ⟨_, g0, g1⟩ := step s hs
    have n0 : ¬ (prefixS s).2.2.2.2 = (0 : Int) := n0
    have hh := head3_some n0 tk
    have hl : (s.drop (prefixS s).2.2.2.2.toNat).length ≠ 0 := fun e => by rw [List.length_eq_zero_iff.1 e] at tk; simp at tk
    simp only [List.length_drop] at hl
    refine ⟨?_, ?_, ?_, hh⟩
    all_goals generalize (prefixS s).2.2.2.2 = n at *
    · exact wrap64 (by omega) (by omega)
    · omega
    · omega
  simp only [lineR] at h
  obtain ⟨k1, k2, k3⟩ := step s hs
  refine Leads.chk hs fun _ => Leads.brE (fun n0 => Leads.one (by rw [h, head3_none (.inl n0)]; rfl)) (fun n0 => Leads.brD (fun n1 => Leads.one (by rw [h, head3_none (.inr (endless s n1))]; rfl)) (fun n1 => Leads.chk ⟨k2, Int.not_le.1 n1⟩ fun _ => Leads.brN (fun tk => ?_) (fun tk => Leads.one (by rw [h, head3_none (.inr (fun q => tk (byte s n1 q)))]; rfl))))
  have tk := byte' s n1 tk
  obtain ⟨e1, e2, e3, hh⟩ := key s hs n0 tk
  rw [e1, e3]
  refine Leads.chk ⟨by omega, e2⟩ fun _ => ?_
  have hs : (s.drop ((prefixS s).2.2.2.2.toNat + 1)).length ≤ 1152921504606846976 := by simp; omega
  simp only [hh] at h
  have r1 := right_le (text_prefix (s := s) (k := (prefixS s).1) (a := (prefixS s).2.1) (t := (prefixS s).2.2.1) (l := (prefixS s).2.2.2.1) (n := (prefixS s).2.2.2.2) rfl n0).1
  clear k1 k2 k3 tk e1 e2 e3 hh n0 n1
  generalize s.drop ((prefixS s).2.2.2.2.toNat + 1) = s1 at *
  obtain ⟨k1, k2, k3⟩ := step s1 hs
  refine Leads.chk hs fun _ => Leads.brE (fun n0 => Leads.one (by rw [h, head3_none (.inl n0)]; rfl)) (fun n0 => Leads.brD (fun n1 => Leads.one (by rw [h, head3_none (.inr (endless s1 n1))]; rfl)) (fun n1 => Leads.chk ⟨k2, Int.not_le.1 n1⟩ fun _ => Leads.brN (fun tk => ?_) (fun tk => Leads.one (by rw [h, head3_none (.inr (fun q => tk (byte s1 n1 q)))]; rfl))))
  have tk := byte' s1 n1 tk
  obtain ⟨e1, e2, e3, hh⟩ := key s1 hs n0 tk
  rw [e1, e3]
  refine Leads.chk ⟨by omega, e2⟩ fun _ => ?_
  have hs : (s1.drop ((prefixS s1).2.2.2.2.toNat + 1)).length ≤ 1152921504606846976 := by simp; omega
  simp only [hh] at h
  have r2 := right_le (text_prefix (s := s1) (k := (prefixS s1).1) (a := (prefixS s1).2.1) (t := (prefixS s1).2.2.1) (l := (prefixS s1).2.2.2.1) (n := (prefixS s1).2.2.2.2) rfl n0).1
  clear k1 k2 k3 tk e1 e2 e3 hh n0 n1
  generalize s1.drop ((prefixS s1).2.2.2.2.toNat + 1) = s2 at *
  obtain ⟨_, k2, k3⟩ := step s2 hs
  refine Leads.chk hs fun _ => Leads.brD (fun q => Leads.chk ⟨k2, k3⟩ fun _ => Leads.brE (fun q2 => Leads.chk ?_ fun _ => Leads.one ?_) (fun q2 => Leads.one ?_)) (fun q => Leads.one ?_)
  · have q : (prefixS s2).2.2.2.2 > 0 := q
    have r3 := right_le (text_prefix (s := s2) (k := (prefixS s2).1) (a := (prefixS s2).2.1) (t := (prefixS s2).2.2.1) (l := (prefixS s2).2.2.2.1) (n := (prefixS s2).2.2.2.2) rfl (by omega)).1
    exact ⟨⟨Nat.le_trans r1.1 (by decide), Nat.le_trans r1.2.1 (by decide), Nat.le_trans r1.2.2 (by decide)⟩, ⟨Nat.le_trans r2.1 (by decide), Nat.le_trans r2.2.1 (by decide), Nat.le_trans r2.2.2 (by decide)⟩, ⟨Nat.le_trans r3.1 (by decide), Nat.le_trans r3.2.1 (by decide), Nat.le_trans r3.2.2 (by decide)⟩⟩
  · have q : 0 < (prefixS s2).2.2.2.2 := q
    have q2 : s2.drop (prefixS s2).2.2.2.2.toNat = [32, 46] := q2
    rw [h, decide_eq_true q, decide_eq_true q2, Bool.true_and, Bool.true_and]; rfl
  · have q : 0 < (prefixS s2).2.2.2.2 := q
    have q2 : ¬ s2.drop (prefixS s2).2.2.2.2.toNat = [32, 46] := q2
    rw [h, decide_eq_true q, decide_eq_false q2, Bool.true_and, Bool.false_and]; rfl
  · have q : ¬ 0 < (prefixS s2).2.2.2.2 := q
    rw [h, decide_eq_false q, Bool.false_and, Bool.false_and]; rfl
def Er3_one : Es := (29, Sr3_one) :: Etline
theorem okr3_one : SatE P (En (Er3_one)) := SatE.cons (satr3_one) oktline
end Go.Proofs.Ytglchbjdjnffcaa.T3
