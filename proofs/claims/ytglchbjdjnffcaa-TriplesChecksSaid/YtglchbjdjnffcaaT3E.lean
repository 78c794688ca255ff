/- Part of a proof of the seat's statements: no statement by itself. -/
import Derived.Test.YtglchbjdjnffcaaT3D
set_option maxRecDepth 100000
open Go.Proofs.Ytglchbjdjnffcaa.Lg Go Go.Proofs.Ytglchbjdjnffcaa.Sp
open Go.Proofs
namespace Go.Proofs.Ytglchbjdjnffcaa.T3


/-! ### legation/triples.Read -/
def lktRead_0 : St [.v false [.str], .a t3S, .v false [.int .i64]] → Prop := fun ⟨⟨(s : List UInt8), _⟩, (out : List (RowE t3S)), ⟨(at_ : Int), _⟩, _⟩ => s.length ≤ 549755813888 ∧ 0 ≤ at_ ∧ at_ + s.length ≤ 549755813888 ∧ out.length + s.length ≤ 549755813888
def lgtRead_0 : St [.v false [.str], .a t3S, .v false [.int .i64]] → Tr (Ex × List SV) := fun ⟨⟨(s : List UInt8), _⟩, (out : List (RowE t3S)), ⟨(at_ : Int), _⟩, _⟩ => .br (failL s) (.leaf (.ret, [.app t3S ([]), .val (.d (.int .i64 (at_ + ((readL s).1.length : Nat) + 1))), .val (.d (.int .i64 (2)))])) (.leaf (.exit 0, [.app t3S (out ++ (readL s).1)]))
def lmtRead_0 : St [.v false [.str], .a t3S, .v false [.int .i64]] → Nat := fun ⟨⟨(s : List UInt8), _⟩, (out : List (RowE t3S)), ⟨(at_ : Int), _⟩, _⟩ => s.length
def lstRead_0 : LoopS := mkR [0, 5, 6] [5] [2, 3, 4] [.v false [.str], .a t3S, .v false [.int .i64]] (fun r => .chk (lktRead_0 r) (lgtRead_0 r))
def LtRead : Ls := [(3, lstRead_0)]
def StRead := mkS [(false, [.str])] fun ⟨⟨(s : List UInt8), _⟩, _⟩ => .chk (s.length ≤ 549755813888) (.br (failL s) (.leaf (.val (.tup [.d (.sl t3S []), .d (.int .i64 ((readL s).1.length + 1 : Nat)), .d (.int .i64 2)]))) (.brP (4096 < (readL s).1.length) (.leaf (.val (.tup [.d (.sl t3S []), .d (.int .i64 0), .d (.int .i64 3)]))) (.leaf (.val (.tup [.d (.sl t3S (readL s).1), .d (.int .i64 0), .d (.int .i64 0)])))))
theorem lttRead_0 (s : List UInt8) (out : List (RowE t3S)) (at_ : Int) : evRound T (En (Er3_one)) (Ln (LtRead)) (loopAt 0 (loops (bodyOf Try.f10))) (lstRead_0) [.val (.d (.str  s)), .app t3S out, .val (.d (.int .i64 at_))] =
    br (!s == [])
  (chk (s.length ≤ (1152921504606846976 : Nat) ∧ [(10 : UInt8)] = [(10 : UInt8)])
    (br (decide (Lib.indexByte s (10 : UInt8) ≥ (0 : Int))) (chk ((0 : Int) ≤ Lib.indexByte s (10 : UInt8) ∧ Lib.indexByte s (10 : UInt8) ≤ (↑s.length : Int)) (chk ((0 : Int) ≤ IntKind.i64.wrap (Lib.indexByte s (10 : UInt8) + (↑[(10 : UInt8)].length : Int)) ∧ IntKind.i64.wrap (Lib.indexByte s (10 : UInt8) + (↑[(10 : UInt8)].length : Int)) ≤ (↑s.length : Int)) (chk ((List.take (Lib.indexByte s (10 : UInt8)).toNat s).length ≤ (140737488351232 : Nat)) (br (!(lineS (List.take (Lib.indexByte s (10 : UInt8)).toNat s)).snd) (some (Rnd.out Ex.ret [SV.app t3S [], SV.val (AV.d (D.int IntKind.i64 (IntKind.i64.wrap (at_ + (1 : Int))))), SV.val (AV.d (D.int IntKind.i64 (2 : Int)))])) (chk (((↑out.length : Int) + (↑[((lineS (List.take (Lib.indexByte s (10 : UInt8)).toNat s)).fst.fst, (lineS (List.take (Lib.indexByte s (10 : UInt8)).toNat s)).fst.snd.fst, (lineS (List.take (Lib.indexByte s (10 : UInt8)).toNat s)).fst.snd.snd.fst, (lineS (List.take (Lib.indexByte s (10 : UInt8)).toNat s)).fst.snd.snd.snd.fst, (lineS (List.take (Lib.indexByte s (10 : UInt8)).toNat s)).fst.snd.snd.snd.snd.fst, (lineS (List.take (Lib.indexByte s (10 : UInt8)).toNat s)).fst.snd.snd.snd.snd.snd.fst, (lineS (List.take (Lib.indexByte s (10 : UInt8)).toNat s)).fst.snd.snd.snd.snd.snd.snd.fst, (lineS (List.take (Lib.indexByte s (10 : UInt8)).toNat s)).fst.snd.snd.snd.snd.snd.snd.snd.fst, (lineS (List.take (Lib.indexByte s (10 : UInt8)).toNat s)).fst.snd.snd.snd.snd.snd.snd.snd.snd.fst, (lineS (List.take (Lib.indexByte s (10 : UInt8)).toNat s)).fst.snd.snd.snd.snd.snd.snd.snd.snd.snd.fst, (lineS (List.take (Lib.indexByte s (10 : UInt8)).toNat s)).fst.snd.snd.snd.snd.snd.snd.snd.snd.snd.snd.fst, (lineS (List.take (Lib.indexByte s (10 : UInt8)).toNat s)).fst.snd.snd.snd.snd.snd.snd.snd.snd.snd.snd.snd.fst, ())].length : Int)) * (↑(168 : Nat) : Int) < lim) (some (Rnd.again [SV.val (AV.d (D.str (List.drop (IntKind.i64.wrap (Lib.indexByte s (10 : UInt8) + (↑[(10 : UInt8)].length : Int))).toNat s))), SV.app t3S (out ++ [((lineS (List.take (Lib.indexByte s (10 : UInt8)).toNat s)).fst.fst, (lineS (List.take (Lib.indexByte s (10 : UInt8)).toNat s)).fst.snd.fst, (lineS (List.take (Lib.indexByte s (10 : UInt8)).toNat s)).fst.snd.snd.fst, (lineS (List.take (Lib.indexByte s (10 : UInt8)).toNat s)).fst.snd.snd.snd.fst, (lineS (List.take (Lib.indexByte s (10 : UInt8)).toNat s)).fst.snd.snd.snd.snd.fst, (lineS (List.take (Lib.indexByte s (10 : UInt8)).toNat s)).fst.snd.snd.snd.snd.snd.fst, (lineS (List.take (Lib.indexByte s (10 : UInt8)).toNat s)).fst.snd.snd.snd.snd.snd.snd.fst, (lineS (List.take (Lib.indexByte s (10 : UInt8)).toNat s)).fst.snd.snd.snd.snd.snd.snd.snd.fst, (lineS (List.take (Lib.indexByte s (10 : UInt8)).toNat s)).fst.snd.snd.snd.snd.snd.snd.snd.snd.fst, (lineS (List.take (Lib.indexByte s (10 : UInt8)).toNat s)).fst.snd.snd.snd.snd.snd.snd.snd.snd.snd.fst, (lineS (List.take (Lib.indexByte s (10 : UInt8)).toNat s)).fst.snd.snd.snd.snd.snd.snd.snd.snd.snd.snd.fst, (lineS (List.take (Lib.indexByte s (10 : UInt8)).toNat s)).fst.snd.snd.snd.snd.snd.snd.snd.snd.snd.snd.snd.fst, ())]), SV.val (AV.d (D.int IntKind.i64 (IntKind.i64.wrap (at_ + (1 : Int)))))])))))))
      (chk (s.length ≤ (140737488351232 : Nat)) (br (!(lineS s).snd) (some (Rnd.out Ex.ret [SV.app t3S [], SV.val (AV.d (D.int IntKind.i64 (IntKind.i64.wrap (at_ + (1 : Int))))), SV.val (AV.d (D.int IntKind.i64 (2 : Int)))])) (some (Rnd.out Ex.ret [SV.app t3S [], SV.val (AV.d (D.int IntKind.i64 (IntKind.i64.wrap (at_ + (1 : Int))))), SV.val (AV.d (D.int IntKind.i64 (2 : Int)))]))))))
  (some (Rnd.out (Ex.exit (0 : Nat)) [SV.app t3S out])) := by kernel_rfl
theorem loktRead_0 : LoopOK T (En (Er3_one)) (Ln (LtRead)) (loopAt 0 (loops (bodyOf Try.f10))) := by
  refine loop_ok (live := [0, 5, 6]) (outs := [5]) (rets := [2, 3, 4]) (ks := [.v false [.str], .a t3S, .v false [.int .i64]]) (G := lgtRead_0) (lktRead_0) (lmtRead_0) (by kernel_rfl) ?_
  rintro ⟨⟨(s : List UInt8), _⟩, (out : List (RowE t3S)), ⟨(at_ : Int), _⟩, _⟩ x hok hx
  refine Leads.of_eq (lttRead_0 s out at_) ?_
  obtain ⟨h0, h1, h2, h3⟩ := hok
  simp only [lgtRead_0] at hx
  have hp := indexByte_le s 10
  have wa : 0 < s.length → IntKind.i64.wrap (at_ + 1) = at_ + 1 := fun z => wrap64 (by omega) (by omega)
  refine Leads.brM (fun q0 => ?_) (fun q0 => ?_)
  · have q0 : s = [] := q0
    subst q0
    refine Leads.one (Goes.out ?_)
    have := Out_leaf (Out_ff hx)
    simpa [readL_nil] using this
  have q0 : ¬ s = [] := q0
  have hl : 0 < s.length := by cases s with | nil => exact absurd rfl q0 | cons _ _ => simp
  rw [wa hl]
  have ef := failL_eq s
  rw [if_neg q0] at ef
  have er := readL_fst s
  refine Leads.chk ⟨by omega, rfl⟩ fun _ => Leads.brD (fun q => ?_) (fun q => ?_)
  · have q : ¬ Go.Lib.indexByte s 10 < 0 := by have q : Go.Lib.indexByte s 10 ≥ 0 := q; omega
    rw [if_neg q] at ef er
    have e : IntKind.i64.wrap (Go.Lib.indexByte s 10 + (([10] : B).length : Int)) = Go.Lib.indexByte s 10 + 1 := wrap64 (by simp; omega) (by simp; omega)
    rw [e]
    have e3 : (Go.Lib.indexByte s 10 + 1).toNat = (Go.Lib.indexByte s 10).toNat + 1 := by omega
    rw [e3]
    refine Leads.chk (by omega) fun _ => Leads.chk (by omega) fun _ => Leads.chk (by simp; omega) fun _ => Leads.brG (fun z => Leads.chk ?_ fun _ => Leads.one ?_) (fun z => Leads.one (Goes.out ?_))
    · simp [lim]; omega
    · rw [if_pos z] at ef er
      rw [ef, er] at hx
      refine Goes.again (ks := [.v false [.str], .a t3S, .v false [.int .i64]]) ((_, ()), _, (_, ()), ()) rfl ?_ ?_ ?_
      · exact ⟨by simp; omega, by omega, by simp; omega, by simp; omega⟩
      · simp only [lmtRead_0, List.length_drop]; omega
      · simp only [lgtRead_0]
        rcases hx with ⟨y, hx⟩ | ⟨y, hx⟩
        · refine .inl ⟨y, ?_⟩
          have := Out_leaf hx
          rw [this]
          show _ = _
          simp only [List.length_cons]
          rw [show at_ + 1 + ((readL (s.drop ((Go.Lib.indexByte s 10).toNat + 1))).1.length : Int) + 1 = at_ + (((readL (s.drop ((Go.Lib.indexByte s 10).toNat + 1))).1.length + 1 : Nat) : Int) + 1 by omega]
        · refine .inr ⟨y, ?_⟩
          have := Out_leaf hx
          rw [this]
          show _ = _
          simp
    · rw [if_neg (by rw [z]; simp)] at ef er
      rw [ef, er] at hx
      have := Out_leaf (Out_tt hx)
      simpa using this
  · have q : Go.Lib.indexByte s 10 < 0 := Int.not_le.1 q
    rw [if_pos q] at ef er
    rw [ef, er] at hx
    have := Out_leaf (Out_tt hx)
    refine Leads.chk (by omega) fun _ => Leads.brG (fun z => Leads.one (Goes.out ?_)) (fun z => Leads.one (Goes.out ?_))
    all_goals simpa using this
theorem ttRead (s : List UInt8) : evF T (En (Er3_one)) (Ln (LtRead)) Try.f10 [.d (.str s)] =
    chk (lktRead_0 ((s, ()), [], ((0 : Int), ()), ())) (br (failL s) (some (SV.val (AV.tup [AV.d (D.sl t3S []), AV.d (D.int IntKind.i64 ((0 : Int) + (↑(readL s).fst.length : Int) + (1 : Int))), AV.d (D.int IntKind.i64 (2 : Int))]))) (br (decide ((↑([] ++ (readL s).fst).length : Int) > (4096 : Int))) (some (SV.val (AV.tup [AV.d (D.sl t3S []), AV.d (D.int IntKind.i64 (0 : Int)), AV.d (D.int IntKind.i64 (3 : Int))]))) (some (SV.val (AV.tup [AV.d (D.sl t3S ([] ++ (readL s).fst)), AV.d (D.int IntKind.i64 (0 : Int)), AV.d (D.int IntKind.i64 (0 : Int))]))))) := by kernel_rfl
theorem sattRead : Sat P 10 (StRead) := by
  refine sat_mk (LT := Ln (LtRead)) hC okr3_one mixed Try.func10 (by kernel_rfl) (c := bodyOf Try.f10) (by kernel_rfl) (by kernel_rfl) ?_ (loops1 (by kernel_rfl) (loktRead_0))
  rintro ⟨⟨(s : List UInt8), _⟩, _⟩ sv h
  refine Leads.eq (Leads.of_eq (ttRead s) ?_)
  obtain ⟨hs, h⟩ := h
  refine Leads.chk ⟨hs, by omega, by simp; omega, by simp; omega⟩ fun _ => ?_
  rcases Out_br h with ⟨q, h⟩ | ⟨q, h⟩
  · rw [q]
    have h := Out_leaf h
    refine Leads.one ?_
    rw [h]; simp
  · rw [q]
    rcases Out_brP h with ⟨z, h⟩ | ⟨z, h⟩
    · have h := Out_leaf h
      refine Leads.brD (fun _ => Leads.one (by rw [h])) (fun y => absurd (by simp; omega) y)
    · have h := Out_leaf h
      refine Leads.brD (fun y => absurd y (by simp; omega)) (fun _ => Leads.one (by rw [h]; rfl))
def EtRead : Es := (10, StRead) :: Er3_one
theorem oktRead : SatE P (En (EtRead)) := SatE.cons (sattRead) okr3_one
end Go.Proofs.Ytglchbjdjnffcaa.T3
