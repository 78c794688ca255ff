/- Part of a proof of the seat's statements: no statement by itself. -/
import Derived.Test.YtfpojhphmgnfhaaT7F
import Derived.Test.YtfpojhphmgnfhaaSvG
set_option maxRecDepth 100000
open Go.Proofs.Ytfpojhphmgnfhaa.Lg Go Go.Proofs.Ytfpojhphmgnfhaa.Sp
open Go.Proofs
namespace Go.Proofs.Ytfpojhphmgnfhaa.T7


/-! ### legation/legationref07.shaped -/
def lkq_shaped_0 : St [.v false [.sl [.int .i64, .sl [.int .i64, .str, .str, .str, .int .i64, .str, .str, .str, .int .i64, .str, .str, .str], .sl [.str], .sl [.sl [.int .i64, .str, .str, .str]], .sl [.int .i64, .int .i64, .str, .str, .str, .str, .int .i64], .str, .bool]], .v false [.int .i64], .v false [.int .i64]] → Prop := fun ⟨⟨(c : List (RowE [.int .i64, .sl [.int .i64, .str, .str, .str, .int .i64, .str, .str, .str, .int .i64, .str, .str, .str], .sl [.str], .sl [.sl [.int .i64, .str, .str, .str]], .sl [.int .i64, .int .i64, .str, .str, .str, .str, .int .i64], .str, .bool])), _⟩, ⟨(n : Int), _⟩, ⟨(i : Int), _⟩, _⟩ => 0 ≤ i ∧ i ≤ (c.length : Int) ∧ 0 ≤ n ∧ n ≤ i ∧ szC c
def lgq_shaped_0 : St [.v false [.sl [.int .i64, .sl [.int .i64, .str, .str, .str, .int .i64, .str, .str, .str, .int .i64, .str, .str, .str], .sl [.str], .sl [.sl [.int .i64, .str, .str, .str]], .sl [.int .i64, .int .i64, .str, .str, .str, .str, .int .i64], .str, .bool]], .v false [.int .i64], .v false [.int .i64]] → Tr (Ex × List SV) := fun ⟨⟨(c : List (RowE [.int .i64, .sl [.int .i64, .str, .str, .str, .int .i64, .str, .str, .str, .int .i64, .str, .str, .str], .sl [.str], .sl [.sl [.int .i64, .str, .str, .str]], .sl [.int .i64, .int .i64, .str, .str, .str, .str, .int .i64], .str, .bool])), _⟩, ⟨(n : Int), _⟩, ⟨(i : Int), _⟩, _⟩ => .br (shO (c.drop i.toNat) n) (.leaf (.exit 0, [.val (.d (.int .i64 (shE (c.drop i.toNat) n)))])) (.leaf (.ret, [.val (.d (.bool  (false)))]))
def lmq_shaped_0 : St [.v false [.sl [.int .i64, .sl [.int .i64, .str, .str, .str, .int .i64, .str, .str, .str, .int .i64, .str, .str, .str], .sl [.str], .sl [.sl [.int .i64, .str, .str, .str]], .sl [.int .i64, .int .i64, .str, .str, .str, .str, .int .i64], .str, .bool]], .v false [.int .i64], .v false [.int .i64]] → Nat := fun ⟨⟨(c : List (RowE [.int .i64, .sl [.int .i64, .str, .str, .str, .int .i64, .str, .str, .str, .int .i64, .str, .str, .str], .sl [.str], .sl [.sl [.int .i64, .str, .str, .str]], .sl [.int .i64, .int .i64, .str, .str, .str, .str, .int .i64], .str, .bool])), _⟩, ⟨(n : Int), _⟩, ⟨(i : Int), _⟩, _⟩ => c.length - i.toNat
def lsq_shaped_0 : LoopS := mkR [0, 3, 4] [3] [2] [.v false [.sl [.int .i64, .sl [.int .i64, .str, .str, .str, .int .i64, .str, .str, .str, .int .i64, .str, .str, .str], .sl [.str], .sl [.sl [.int .i64, .str, .str, .str]], .sl [.int .i64, .int .i64, .str, .str, .str, .str, .int .i64], .str, .bool]], .v false [.int .i64], .v false [.int .i64]] (fun r => .chk (lkq_shaped_0 r) (lgq_shaped_0 r))
def Lq_shaped : Ls := [(3, lsq_shaped_0)]
def Sq_shaped := mkS [(false, [.sl [.int .i64, .sl [.int .i64, .str, .str, .str, .int .i64, .str, .str, .str, .int .i64, .str, .str, .str], .sl [.str], .sl [.sl [.int .i64, .str, .str, .str]], .sl [.int .i64, .int .i64, .str, .str, .str, .str, .int .i64], .str, .bool]])] fun ⟨⟨(c : List (RowE [.int .i64, .sl [.int .i64, .str, .str, .str, .int .i64, .str, .str, .str, .int .i64, .str, .str, .str], .sl [.str], .sl [.sl [.int .i64, .str, .str, .str]], .sl [.int .i64, .int .i64, .str, .str, .str, .str, .int .i64], .str, .bool])), _⟩, _⟩ => .chk (szC c) (bl (shpB c 0))
theorem ltq_shaped_0 (c : List (RowE [.int .i64, .sl [.int .i64, .str, .str, .str, .int .i64, .str, .str, .str, .int .i64, .str, .str, .str], .sl [.str], .sl [.sl [.int .i64, .str, .str, .str]], .sl [.int .i64, .int .i64, .str, .str, .str, .str, .int .i64], .str, .bool])) (n : Int) (i : Int) : evRound T (Ep (El_Certain)) (Ln (Lq_shaped)) (loopAt 0 (loops (bodyOf Try.f39))) (lsq_shaped_0) [.val (.d (.sl [.int .i64, .sl [.int .i64, .str, .str, .str, .int .i64, .str, .str, .str, .int .i64, .str, .str, .str], .sl [.str], .sl [.sl [.int .i64, .str, .str, .str]], .sl [.int .i64, .int .i64, .str, .str, .str, .str, .int .i64], .str, .bool] c)), .val (.d (.int .i64 n)), .val (.d (.int .i64 i))] =
    br (decide (i < (↑c.length : Int))) (chk ((0 : Int) ≤ i ∧ i < (↑c.length : Int)) (chk (szO (getR opS c i)) (br (!rightO (getR opS c i)) (some (Rnd.out Ex.ret [SV.val (AV.d (D.bool false))])) (chk ((0 : Int) ≤ i ∧ i < (↑c.length : Int)) (br (decide (needsK (getR opS c i).fst > n)) (some (Rnd.out Ex.ret [SV.val (AV.d (D.bool false))])) (chk ((0 : Int) ≤ i ∧ i < (↑c.length : Int)) (some (Rnd.again [SV.val (AV.d (D.sl opS c)), SV.val (AV.d (D.int IntKind.i64 (IntKind.i64.wrap (IntKind.i64.wrap (n - needsK (getR opS c i).fst) + (1 : Int))))), SV.val (AV.d (D.int IntKind.i64 (IntKind.i64.wrap (i + (1 : Int)))))])))))))) (some (Rnd.out (Ex.exit (0 : Nat)) [SV.val (AV.d (D.int IntKind.i64 n))])) := by kernel_rfl
theorem lokq_shaped_0 : LoopOK T (Ep (El_Certain)) (Ln (Lq_shaped)) (loopAt 0 (loops (bodyOf Try.f39))) := by
  refine loop_ok (live := [0, 3, 4]) (outs := [3]) (rets := [2]) (ks := [.v false [.sl [.int .i64, .sl [.int .i64, .str, .str, .str, .int .i64, .str, .str, .str, .int .i64, .str, .str, .str], .sl [.str], .sl [.sl [.int .i64, .str, .str, .str]], .sl [.int .i64, .int .i64, .str, .str, .str, .str, .int .i64], .str, .bool]], .v false [.int .i64], .v false [.int .i64]]) (G := lgq_shaped_0) (lkq_shaped_0) (lmq_shaped_0) (by kernel_rfl) ?_
  rintro ⟨⟨(c : List (RowE [.int .i64, .sl [.int .i64, .str, .str, .str, .int .i64, .str, .str, .str, .int .i64, .str, .str, .str], .sl [.str], .sl [.sl [.int .i64, .str, .str, .str]], .sl [.int .i64, .int .i64, .str, .str, .str, .str, .int .i64], .str, .bool])), _⟩, ⟨(n : Int), _⟩, ⟨(i : Int), _⟩, _⟩ x hok hx
  refine Leads.of_eq (ltq_shaped_0 c n i) ?_
  obtain ⟨h0, h1, h2, h3, h4, h5⟩ := hok
  obtain ⟨m, rfl⟩ := Int.eq_ofNat_of_zero_le h0
  have h4 : c.length ≤ 140737488355328 := h4
  simp only [lgq_shaped_0, Int.toNat_natCast] at hx
  rcases drop_cases c m with ⟨hle, hd⟩ | ⟨o, hlt, hd, hb⟩
  · rw [hd] at hx
    exact Leads.brD (fun q => by omega) (fun _ => Leads.one (Goes.out (Out_leaf (Out_tt hx))))
  rw [hd] at hx
  simp only [shO, shE] at hx
  rw [getR_of hb, wrap64 (x := (m : Int) + 1) (by omega) (by omega)]
  have hz := h5 o (List.mem_of_getElem? hb)
  have c1 : (0 : Int) ≤ (m : Int) ∧ (m : Int) < (c.length : Int) := ⟨by omega, by omega⟩
  refine Leads.brD (fun _ => Leads.chk c1 fun _ => Leads.chk hz fun _ => Leads.brG (fun e => Leads.chk c1 fun _ => Leads.brD (fun q => Leads.one (Goes.out ?_)) (fun q => ?_)) (fun e => Leads.one (Goes.out ?_))) (fun q => absurd c1.2 q)
  · have e : rightO o = true := e
    rw [e, decide_eq_false (show ¬ needsK o.1 ≤ n by omega)] at hx
    exact Out_leaf (Out_ff hx)
  · have e : rightO o = true := e
    rw [e, decide_eq_true (show needsK o.1 ≤ n by omega), Bool.true_and, Bool.true_and] at hx
    have hn := right_needs e
    have hn2 := needsK_le o.1
    rw [wrap64 (x := n - needsK o.1) (by omega) (by omega), wrap64 (x := n - needsK o.1 + 1) (by omega) (by omega)]
    refine Leads.chk c1 fun _ => Leads.one ?_
    refine Goes.again (ks := [.v false [.sl [.int .i64, .sl [.int .i64, .str, .str, .str, .int .i64, .str, .str, .str, .int .i64, .str, .str, .str], .sl [.str], .sl [.sl [.int .i64, .str, .str, .str]], .sl [.int .i64, .int .i64, .str, .str, .str, .str, .int .i64], .str, .bool]], .v false [.int .i64], .v false [.int .i64]]) ((_, ()), (_, ()), (_, ()), ()) rfl ?_ ?_ ?_
    · exact ⟨by omega, by omega, by omega, by omega, h4, h5⟩
    · simp only [lmq_shaped_0]; omega
    · simp only [lgq_shaped_0, toNat_add1]; exact hx
  · have e : rightO o = false := e
    rw [e, Bool.false_and, Bool.false_and] at hx
    exact Out_leaf (Out_ff hx)
theorem tq_shaped (c : List (RowE [.int .i64, .sl [.int .i64, .str, .str, .str, .int .i64, .str, .str, .str, .int .i64, .str, .str, .str], .sl [.str], .sl [.sl [.int .i64, .str, .str, .str]], .sl [.int .i64, .int .i64, .str, .str, .str, .str, .int .i64], .str, .bool])) : evF T (Ep (El_Certain)) (Ln (Lq_shaped)) Try.f39 [.d (.sl [.int .i64, .sl [.int .i64, .str, .str, .str, .int .i64, .str, .str, .str, .int .i64, .str, .str, .str], .sl [.str], .sl [.sl [.int .i64, .str, .str, .str]], .sl [.int .i64, .int .i64, .str, .str, .str, .str, .int .i64], .str, .bool] c)] =
    chk (lkq_shaped_0 ((c, ()), ((0 : Int), ()), ((0 : Int), ()), ())) (br (shO (List.drop (Int.toNat (0 : Int)) c) (0 : Int)) (some (SV.val (AV.d (D.bool (shE (List.drop (Int.toNat (0 : Int)) c) (0 : Int) == (1 : Int)))))) (some (SV.val (AV.d (D.bool false))))) := by kernel_rfl
theorem satq_shaped : Sat P 39 (Sq_shaped) := by
  refine sat_mk (LT := Ln (Lq_shaped)) hC (SatE.ep okl_Certain) mixed Try.func39 (by kernel_rfl) (c := bodyOf Try.f39) (by kernel_rfl) (by kernel_rfl) ?_ (loops1 (by kernel_rfl) (lokq_shaped_0))
  rintro ⟨⟨(c : List (RowE [.int .i64, .sl [.int .i64, .str, .str, .str, .int .i64, .str, .str, .str, .int .i64, .str, .str, .str], .sl [.str], .sl [.sl [.int .i64, .str, .str, .str]], .sl [.int .i64, .int .i64, .str, .str, .str, .str, .int .i64], .str, .bool])), _⟩, _⟩ sv h
  refine Leads.eq (Leads.of_eq (tq_shaped c) ?_)
  obtain ⟨hc, h⟩ := h
  have h := Out_leaf h
  refine Leads.chk ⟨by omega, by omega, by omega, by omega, hc⟩ fun _ => Leads.br (fun z => Leads.one ?_) (fun z => Leads.one ?_)
  · have z : shO c 0 = true := z
    rw [h, shpB_eq, z]; rfl
  · have z : shO c 0 = false := z
    rw [h, shpB_eq, z]; rfl
def Eq_shaped : Es := (39, (Sq_shaped)) :: El_Certain
theorem okq_shaped : SatE P (En (Eq_shaped)) := SatE.cons (satq_shaped) okl_Certain
/-! ### legation/legationref07.From -/
def lkq_From_0 : St [.v false [.sl [.int .i64, .sl [.int .i64, .str, .str, .str, .int .i64, .str, .str, .str, .int .i64, .str, .str, .str], .sl [.str], .sl [.sl [.int .i64, .str, .str, .str]], .sl [.int .i64, .int .i64, .str, .str, .str, .str, .int .i64], .str, .bool]], .v false [.int .i64], .v false [.int .i64]] → Prop := fun ⟨⟨(c : List (RowE [.int .i64, .sl [.int .i64, .str, .str, .str, .int .i64, .str, .str, .str, .int .i64, .str, .str, .str], .sl [.str], .sl [.sl [.int .i64, .str, .str, .str]], .sl [.int .i64, .int .i64, .str, .str, .str, .str, .int .i64], .str, .bool])), _⟩, ⟨(lacks : Int), _⟩, ⟨(at_ : Int), _⟩, _⟩ => -1 ≤ at_ ∧ at_ < (c.length : Int) ∧ c.length ≤ 140737488355328 ∧ lacks ≤ 1 + ((c.length : Int) - at_) ∧ -(2 * ((c.length : Int) - at_)) ≤ lacks
def lgq_From_0 : St [.v false [.sl [.int .i64, .sl [.int .i64, .str, .str, .str, .int .i64, .str, .str, .str, .int .i64, .str, .str, .str], .sl [.str], .sl [.sl [.int .i64, .str, .str, .str]], .sl [.int .i64, .int .i64, .str, .str, .str, .str, .int .i64], .str, .bool]], .v false [.int .i64], .v false [.int .i64]] → Tr (Ex × List SV) := fun ⟨⟨(c : List (RowE [.int .i64, .sl [.int .i64, .str, .str, .str, .int .i64, .str, .str, .str, .int .i64, .str, .str, .str], .sl [.str], .sl [.sl [.int .i64, .str, .str, .str]], .sl [.int .i64, .int .i64, .str, .str, .str, .str, .int .i64], .str, .bool])), _⟩, ⟨(lacks : Int), _⟩, ⟨(at_ : Int), _⟩, _⟩ => .br (frH c (at_ + 1).toNat lacks) (.leaf (.ret, [.val (.d (.int .i64 (frA c (at_ + 1).toNat lacks)))])) (.leaf (.exit 0, []))
def lmq_From_0 : St [.v false [.sl [.int .i64, .sl [.int .i64, .str, .str, .str, .int .i64, .str, .str, .str, .int .i64, .str, .str, .str], .sl [.str], .sl [.sl [.int .i64, .str, .str, .str]], .sl [.int .i64, .int .i64, .str, .str, .str, .str, .int .i64], .str, .bool]], .v false [.int .i64], .v false [.int .i64]] → Nat := fun ⟨⟨(c : List (RowE [.int .i64, .sl [.int .i64, .str, .str, .str, .int .i64, .str, .str, .str, .int .i64, .str, .str, .str], .sl [.str], .sl [.sl [.int .i64, .str, .str, .str]], .sl [.int .i64, .int .i64, .str, .str, .str, .str, .int .i64], .str, .bool])), _⟩, ⟨(lacks : Int), _⟩, ⟨(at_ : Int), _⟩, _⟩ => (at_ + 1).toNat
def lsq_From_0 : LoopS := mkR [0, 5, 6] [] [4] [.v false [.sl [.int .i64, .sl [.int .i64, .str, .str, .str, .int .i64, .str, .str, .str, .int .i64, .str, .str, .str], .sl [.str], .sl [.sl [.int .i64, .str, .str, .str]], .sl [.int .i64, .int .i64, .str, .str, .str, .str, .int .i64], .str, .bool]], .v false [.int .i64], .v false [.int .i64]] (fun r => .chk (lkq_From_0 r) (lgq_From_0 r))
def Lq_From : Ls := [(3, lsq_From_0)]
def Sq_From := mkS [(false, [.sl [.int .i64, .sl [.int .i64, .str, .str, .str, .int .i64, .str, .str, .str, .int .i64, .str, .str, .str], .sl [.str], .sl [.sl [.int .i64, .str, .str, .str]], .sl [.int .i64, .int .i64, .str, .str, .str, .str, .int .i64], .str, .bool]]), (false, [.int .i64])] fun ⟨⟨(c : List (RowE [.int .i64, .sl [.int .i64, .str, .str, .str, .int .i64, .str, .str, .str, .int .i64, .str, .str, .str], .sl [.str], .sl [.sl [.int .i64, .str, .str, .str]], .sl [.int .i64, .int .i64, .str, .str, .str, .str, .int .i64], .str, .bool])), _⟩, ⟨(i : Int), _⟩, _⟩ => .chk (szC c ∧ -1 ≤ i ∧ i < (c.length : Int)) (ii (fromP c i))
theorem ltq_From_0 (c : List (RowE [.int .i64, .sl [.int .i64, .str, .str, .str, .int .i64, .str, .str, .str, .int .i64, .str, .str, .str], .sl [.str], .sl [.sl [.int .i64, .str, .str, .str]], .sl [.int .i64, .int .i64, .str, .str, .str, .str, .int .i64], .str, .bool])) (lacks : Int) (at_ : Int) : evRound T (Ep (Eq_shaped)) (Ln (Lq_From)) (loopAt 0 (loops (bodyOf Try.f21))) (lsq_From_0) [.val (.d (.sl [.int .i64, .sl [.int .i64, .str, .str, .str, .int .i64, .str, .str, .str, .int .i64, .str, .str, .str], .sl [.str], .sl [.sl [.int .i64, .str, .str, .str]], .sl [.int .i64, .int .i64, .str, .str, .str, .str, .int .i64], .str, .bool] c)), .val (.d (.int .i64 lacks)), .val (.d (.int .i64 at_))] =
    br (decide (at_ ≥ (0 : Int))) (chk ((0 : Int) ≤ at_ ∧ at_ < (↑c.length : Int)) (br (IntKind.i64.wrap (IntKind.i64.wrap (lacks + needsK (getR opS c at_).fst) - (1 : Int)) == (0 : Int)) (some (Rnd.out Ex.ret [SV.val (AV.d (D.int IntKind.i64 at_))])) (some (Rnd.again [SV.val (AV.d (D.sl opS c)), SV.val (AV.d (D.int IntKind.i64 (IntKind.i64.wrap (IntKind.i64.wrap (lacks + needsK (getR opS c at_).fst) - (1 : Int))))), SV.val (AV.d (D.int IntKind.i64 (IntKind.i64.wrap (at_ - (1 : Int)))))])))) (some (Rnd.out (Ex.exit (0 : Nat)) [])) := by kernel_rfl
theorem lokq_From_0 : LoopOK T (Ep (Eq_shaped)) (Ln (Lq_From)) (loopAt 0 (loops (bodyOf Try.f21))) := by
  refine loop_ok (live := [0, 5, 6]) (outs := []) (rets := [4]) (ks := [.v false [.sl [.int .i64, .sl [.int .i64, .str, .str, .str, .int .i64, .str, .str, .str, .int .i64, .str, .str, .str], .sl [.str], .sl [.sl [.int .i64, .str, .str, .str]], .sl [.int .i64, .int .i64, .str, .str, .str, .str, .int .i64], .str, .bool]], .v false [.int .i64], .v false [.int .i64]]) (G := lgq_From_0) (lkq_From_0) (lmq_From_0) (by kernel_rfl) ?_
  rintro ⟨⟨(c : List (RowE [.int .i64, .sl [.int .i64, .str, .str, .str, .int .i64, .str, .str, .str, .int .i64, .str, .str, .str], .sl [.str], .sl [.sl [.int .i64, .str, .str, .str]], .sl [.int .i64, .int .i64, .str, .str, .str, .str, .int .i64], .str, .bool])), _⟩, ⟨(lacks : Int), _⟩, ⟨(at_ : Int), _⟩, _⟩ x hok hx
  refine Leads.of_eq (ltq_From_0 c lacks at_) ?_
  obtain ⟨h0, h1, h2, h3, h4⟩ := hok
  simp only [lgq_From_0] at hx
  rcases (show at_ = -1 ∨ 0 ≤ at_ by omega) with rfl | h0
  · exact Leads.brD (fun q => by omega) (fun _ => Leads.one (Goes.out (Out_leaf (Out_ff hx))))
  obtain ⟨m, rfl⟩ := Int.eq_ofNat_of_zero_le h0
  have e1 : ((m : Int) + 1).toNat = m + 1 := by omega
  rw [e1] at hx
  simp only [frH, frA] at hx
  have hn := needsK_le (opA c m).1
  have c1 : (0 : Int) ≤ (m : Int) ∧ (m : Int) < (c.length : Int) := ⟨by omega, by omega⟩
  rw [wrap64 (x := (m : Int) - 1) (by omega) (by omega)]
  show Leads (br _ (chk _ (br (_ == 0) _ _)) _) _
  have ew : IntKind.wrap .i64 (IntKind.wrap .i64 (lacks + needsK (getR opS c (m : Int)).1) - 1) = lacks + needsK (opA c m).1 - 1 := by
    show IntKind.wrap .i64 (IntKind.wrap .i64 (lacks + needsK (opA c m).1) - 1) = _
    rw [wrap64 (x := lacks + needsK (opA c m).1) (by omega) (by omega), wrap64 (by omega) (by omega)]
  rw [ew]
  refine Leads.brD (fun _ => Leads.chk c1 fun _ => Leads.brE (fun q => Leads.one (Goes.out ?_)) (fun q => Leads.one ?_)) (fun q => absurd c1.1 q)
  · have q : lacks + needsK (opA c m).1 - 1 = 0 := q
    rw [decide_eq_true q, Bool.true_or, if_pos q] at hx
    exact Out_leaf (Out_tt hx)
  · have q : ¬ lacks + needsK (opA c m).1 - 1 = 0 := q
    rw [decide_eq_false q, Bool.false_or, if_neg q] at hx
    refine Goes.again (ks := [.v false [.sl [.int .i64, .sl [.int .i64, .str, .str, .str, .int .i64, .str, .str, .str, .int .i64, .str, .str, .str], .sl [.str], .sl [.sl [.int .i64, .str, .str, .str]], .sl [.int .i64, .int .i64, .str, .str, .str, .str, .int .i64], .str, .bool]], .v false [.int .i64], .v false [.int .i64]]) ((_, ()), (_, ()), (_, ()), ()) rfl ?_ ?_ ?_
    · exact ⟨by omega, by omega, h2, by omega, by omega⟩
    · simp only [lmq_From_0]; omega
    · simp only [lgq_From_0]; rw [show ((m : Int) - 1 + 1).toNat = m by omega]; exact hx
theorem tq_From (c : List (RowE [.int .i64, .sl [.int .i64, .str, .str, .str, .int .i64, .str, .str, .str, .int .i64, .str, .str, .str], .sl [.str], .sl [.sl [.int .i64, .str, .str, .str]], .sl [.int .i64, .int .i64, .str, .str, .str, .str, .int .i64], .str, .bool])) (i : Int) : evF T (Ep (Eq_shaped)) (Ln (Lq_From)) Try.f21 [.d (.sl [.int .i64, .sl [.int .i64, .str, .str, .str, .int .i64, .str, .str, .str, .int .i64, .str, .str, .str], .sl [.str], .sl [.sl [.int .i64, .str, .str, .str]], .sl [.int .i64, .int .i64, .str, .str, .str, .str, .int .i64], .str, .bool] c), .d (.int .i64 i)] =
    chk (lkq_From_0 ((c, ()), ((1 : Int), ()), (i, ()), ())) (br (frH c (i + (1 : Int)).toNat (1 : Int)) (some (SV.val (AV.d (D.int IntKind.i64 (frA c (i + (1 : Int)).toNat (1 : Int)))))) (some (SV.val (AV.d (D.int IntKind.i64 (0 : Int)))))) := by kernel_rfl
theorem satq_From : Sat P 21 (Sq_From) := by
  refine sat_mk (LT := Ln (Lq_From)) hC (SatE.ep okq_shaped) mixed Try.func21 (by kernel_rfl) (c := bodyOf Try.f21) (by kernel_rfl) (by kernel_rfl) ?_ (loops1 (by kernel_rfl) (lokq_From_0))
  rintro ⟨⟨(c : List (RowE [.int .i64, .sl [.int .i64, .str, .str, .str, .int .i64, .str, .str, .str, .int .i64, .str, .str, .str], .sl [.str], .sl [.sl [.int .i64, .str, .str, .str]], .sl [.int .i64, .int .i64, .str, .str, .str, .str, .int .i64], .str, .bool])), _⟩, ⟨(i : Int), _⟩, _⟩ sv h
  refine Leads.eq (Leads.of_eq (tq_From c i) ?_)
  obtain ⟨⟨hc, h1, h2⟩, h⟩ := h
  have h := Out_leaf h
  have hl : c.length ≤ 140737488355328 := hc.1
  rw [← frA_P c i h1] at h
  refine Leads.chk ⟨h1, h2, hl, by omega, by omega⟩ fun _ => Leads.br (fun z => Leads.one ?_) (fun z => Leads.one ?_)
  · exact h.symm
  · have z : frH c (i + 1).toNat 1 = false := z
    rw [frH_no c _ _ z] at h
    exact h.symm
def Eq_From : Es := (21, (Sq_From)) :: Eq_shaped
theorem okq_From : SatE P (En (Eq_From)) := SatE.cons (satq_From) okq_shaped
/-! ### legation/legationref07.Second -/
def Lq_Second : Ls := []
def Sq_Second := mkS [(false, [.sl [.int .i64, .sl [.int .i64, .str, .str, .str, .int .i64, .str, .str, .str, .int .i64, .str, .str, .str], .sl [.str], .sl [.sl [.int .i64, .str, .str, .str]], .sl [.int .i64, .int .i64, .str, .str, .str, .str, .int .i64], .str, .bool]]), (false, [.int .i64])] fun ⟨⟨(c : List (RowE [.int .i64, .sl [.int .i64, .str, .str, .str, .int .i64, .str, .str, .str, .int .i64, .str, .str, .str], .sl [.str], .sl [.sl [.int .i64, .str, .str, .str]], .sl [.int .i64, .int .i64, .str, .str, .str, .str, .int .i64], .str, .bool])), _⟩, ⟨(i : Int), _⟩, _⟩ => .chk (szC c ∧ 0 ≤ i ∧ i < (c.length : Int)) (ii (fromP c (i - 1)))
theorem tq_Second (c : List (RowE [.int .i64, .sl [.int .i64, .str, .str, .str, .int .i64, .str, .str, .str, .int .i64, .str, .str, .str], .sl [.str], .sl [.sl [.int .i64, .str, .str, .str]], .sl [.int .i64, .int .i64, .str, .str, .str, .str, .int .i64], .str, .bool])) (i : Int) : evF T (Ep (Eq_From)) (Ln (Lq_Second)) Try.f59 [.d (.sl [.int .i64, .sl [.int .i64, .str, .str, .str, .int .i64, .str, .str, .str, .int .i64, .str, .str, .str], .sl [.str], .sl [.sl [.int .i64, .str, .str, .str]], .sl [.int .i64, .int .i64, .str, .str, .str, .str, .int .i64], .str, .bool] c), .d (.int .i64 i)] =
    chk (szC c ∧ (-1 : Int) ≤ IntKind.i64.wrap (i - (1 : Int)) ∧ IntKind.i64.wrap (i - (1 : Int)) < (↑c.length : Int)) (some (SV.val (AV.d (D.int IntKind.i64 (fromP c (IntKind.i64.wrap (i - (1 : Int)))))))) := by kernel_rfl
theorem satq_Second : Sat P 59 (Sq_Second) := by
  refine sat_mk (LT := Ln (Lq_Second)) hC (SatE.ep okq_From) mixed Try.func59 (by kernel_rfl) (c := bodyOf Try.f59) (by kernel_rfl) (by kernel_rfl) ?_ (loops0 (by kernel_rfl))
  rintro ⟨⟨(c : List (RowE [.int .i64, .sl [.int .i64, .str, .str, .str, .int .i64, .str, .str, .str, .int .i64, .str, .str, .str], .sl [.str], .sl [.sl [.int .i64, .str, .str, .str]], .sl [.int .i64, .int .i64, .str, .str, .str, .str, .int .i64], .str, .bool])), _⟩, ⟨(i : Int), _⟩, _⟩ sv h
  refine Leads.eq (Leads.of_eq (tq_Second c i) ?_)
  obtain ⟨⟨hc, h1, h2⟩, h⟩ := h
  obtain rfl := Out_leaf h
  have hl : c.length ≤ 140737488355328 := hc.1
  rw [wrap64 (x := i - 1) (by omega) (by omega)]
  exact Leads.chk ⟨hc, by omega, by omega⟩ fun _ => Leads.one rfl
def Eq_Second : Es := (59, (Sq_Second)) :: Eq_From
theorem okq_Second : SatE P (En (Eq_Second)) := SatE.cons (satq_Second) okq_From
/-! ### legation/legationref07.nested -/
def lkq_nested_0 : St [.v false [.sl [.int .i64, .sl [.int .i64, .str, .str, .str, .int .i64, .str, .str, .str, .int .i64, .str, .str, .str], .sl [.str], .sl [.sl [.int .i64, .str, .str, .str]], .sl [.int .i64, .int .i64, .str, .str, .str, .str, .int .i64], .str, .bool]], .v false [.int .i64]] → Prop := fun ⟨⟨(c : List (RowE [.int .i64, .sl [.int .i64, .str, .str, .str, .int .i64, .str, .str, .str, .int .i64, .str, .str, .str], .sl [.str], .sl [.sl [.int .i64, .str, .str, .str]], .sl [.int .i64, .int .i64, .str, .str, .str, .str, .int .i64], .str, .bool])), _⟩, ⟨(i : Int), _⟩, _⟩ => 0 ≤ i ∧ i ≤ (c.length : Int) ∧ szC c
def lgq_nested_0 : St [.v false [.sl [.int .i64, .sl [.int .i64, .str, .str, .str, .int .i64, .str, .str, .str, .int .i64, .str, .str, .str], .sl [.str], .sl [.sl [.int .i64, .str, .str, .str]], .sl [.int .i64, .int .i64, .str, .str, .str, .str, .int .i64], .str, .bool]], .v false [.int .i64]] → Tr (Ex × List SV) := fun ⟨⟨(c : List (RowE [.int .i64, .sl [.int .i64, .str, .str, .str, .int .i64, .str, .str, .str, .int .i64, .str, .str, .str], .sl [.str], .sl [.sl [.int .i64, .str, .str, .str]], .sl [.int .i64, .int .i64, .str, .str, .str, .str, .int .i64], .str, .bool])), _⟩, ⟨(i : Int), _⟩, _⟩ => .br (nstB c i.toNat (c.length - i.toNat)) (.leaf (.ret, [.val (.d (.bool  (true)))])) (.leaf (.exit 0, []))
def lmq_nested_0 : St [.v false [.sl [.int .i64, .sl [.int .i64, .str, .str, .str, .int .i64, .str, .str, .str, .int .i64, .str, .str, .str], .sl [.str], .sl [.sl [.int .i64, .str, .str, .str]], .sl [.int .i64, .int .i64, .str, .str, .str, .str, .int .i64], .str, .bool]], .v false [.int .i64]] → Nat := fun ⟨⟨(c : List (RowE [.int .i64, .sl [.int .i64, .str, .str, .str, .int .i64, .str, .str, .str, .int .i64, .str, .str, .str], .sl [.str], .sl [.sl [.int .i64, .str, .str, .str]], .sl [.int .i64, .int .i64, .str, .str, .str, .str, .int .i64], .str, .bool])), _⟩, ⟨(i : Int), _⟩, _⟩ => c.length - i.toNat
def lsq_nested_0 : LoopS := mkR [0, 3] [] [2] [.v false [.sl [.int .i64, .sl [.int .i64, .str, .str, .str, .int .i64, .str, .str, .str, .int .i64, .str, .str, .str], .sl [.str], .sl [.sl [.int .i64, .str, .str, .str]], .sl [.int .i64, .int .i64, .str, .str, .str, .str, .int .i64], .str, .bool]], .v false [.int .i64]] (fun r => .chk (lkq_nested_0 r) (lgq_nested_0 r))
def lkq_nested_1 : St [.v false [.sl [.int .i64, .sl [.int .i64, .str, .str, .str, .int .i64, .str, .str, .str, .int .i64, .str, .str, .str], .sl [.str], .sl [.sl [.int .i64, .str, .str, .str]], .sl [.int .i64, .int .i64, .str, .str, .str, .str, .int .i64], .str, .bool]], .v false [.int .i64], .v false [.int .i64]] → Prop := fun ⟨⟨(c : List (RowE [.int .i64, .sl [.int .i64, .str, .str, .str, .int .i64, .str, .str, .str, .int .i64, .str, .str, .str], .sl [.str], .sl [.sl [.int .i64, .str, .str, .str]], .sl [.int .i64, .int .i64, .str, .str, .str, .str, .int .i64], .str, .bool])), _⟩, ⟨(i : Int), _⟩, ⟨(k : Int), _⟩, _⟩ => 0 ≤ k ∧ 0 ≤ i ∧ i < (c.length : Int) ∧ k ≤ i ∧ c.length ≤ 140737488355328
def lgq_nested_1 : St [.v false [.sl [.int .i64, .sl [.int .i64, .str, .str, .str, .int .i64, .str, .str, .str, .int .i64, .str, .str, .str], .sl [.str], .sl [.sl [.int .i64, .str, .str, .str]], .sl [.int .i64, .int .i64, .str, .str, .str, .str, .int .i64], .str, .bool]], .v false [.int .i64], .v false [.int .i64]] → Tr (Ex × List SV) := fun ⟨⟨(c : List (RowE [.int .i64, .sl [.int .i64, .str, .str, .str, .int .i64, .str, .str, .str, .int .i64, .str, .str, .str], .sl [.str], .sl [.sl [.int .i64, .str, .str, .str]], .sl [.int .i64, .int .i64, .str, .str, .str, .str, .int .i64], .str, .bool])), _⟩, ⟨(i : Int), _⟩, ⟨(k : Int), _⟩, _⟩ => .br (innB c k.toNat (i.toNat - k.toNat)) (.leaf (.ret, [.val (.d (.bool  (true)))])) (.leaf (.exit 2, [.val (.d (.sl [.int .i64, .sl [.int .i64, .str, .str, .str, .int .i64, .str, .str, .str, .int .i64, .str, .str, .str], .sl [.str], .sl [.sl [.int .i64, .str, .str, .str]], .sl [.int .i64, .int .i64, .str, .str, .str, .str, .int .i64], .str, .bool] (c))), .val (.d (.int .i64 (i)))]))
def lmq_nested_1 : St [.v false [.sl [.int .i64, .sl [.int .i64, .str, .str, .str, .int .i64, .str, .str, .str, .int .i64, .str, .str, .str], .sl [.str], .sl [.sl [.int .i64, .str, .str, .str]], .sl [.int .i64, .int .i64, .str, .str, .str, .str, .int .i64], .str, .bool]], .v false [.int .i64], .v false [.int .i64]] → Nat := fun ⟨⟨(c : List (RowE [.int .i64, .sl [.int .i64, .str, .str, .str, .int .i64, .str, .str, .str, .int .i64, .str, .str, .str], .sl [.str], .sl [.sl [.int .i64, .str, .str, .str]], .sl [.int .i64, .int .i64, .str, .str, .str, .str, .int .i64], .str, .bool])), _⟩, ⟨(i : Int), _⟩, ⟨(k : Int), _⟩, _⟩ => i.toNat - k.toNat
def lsq_nested_1 : LoopS := mkR [0, 3, 4] [0, 3] [2] [.v false [.sl [.int .i64, .sl [.int .i64, .str, .str, .str, .int .i64, .str, .str, .str, .int .i64, .str, .str, .str], .sl [.str], .sl [.sl [.int .i64, .str, .str, .str]], .sl [.int .i64, .int .i64, .str, .str, .str, .str, .int .i64], .str, .bool]], .v false [.int .i64], .v false [.int .i64]] (fun r => .chk (lkq_nested_1 r) (lgq_nested_1 r))
def Lq_nested : Ls := [(2, lsq_nested_0), (6, lsq_nested_1)]
def Sq_nested := mkS [(false, [.sl [.int .i64, .sl [.int .i64, .str, .str, .str, .int .i64, .str, .str, .str, .int .i64, .str, .str, .str], .sl [.str], .sl [.sl [.int .i64, .str, .str, .str]], .sl [.int .i64, .int .i64, .str, .str, .str, .str, .int .i64], .str, .bool]])] fun ⟨⟨(c : List (RowE [.int .i64, .sl [.int .i64, .str, .str, .str, .int .i64, .str, .str, .str, .int .i64, .str, .str, .str], .sl [.str], .sl [.sl [.int .i64, .str, .str, .str]], .sl [.int .i64, .int .i64, .str, .str, .str, .str, .int .i64], .str, .bool])), _⟩, _⟩ => .chk (szC c) (bl (nstB c 0 c.length))
theorem ltq_nested_0 (c : List (RowE [.int .i64, .sl [.int .i64, .str, .str, .str, .int .i64, .str, .str, .str, .int .i64, .str, .str, .str], .sl [.str], .sl [.sl [.int .i64, .str, .str, .str]], .sl [.int .i64, .int .i64, .str, .str, .str, .str, .int .i64], .str, .bool])) (i : Int) : evRound T (Ep (Eq_Second)) (Ln (Lq_nested)) (loopAt 0 (loops (bodyOf Try.f40))) (lsq_nested_0) [.val (.d (.sl [.int .i64, .sl [.int .i64, .str, .str, .str, .int .i64, .str, .str, .str, .int .i64, .str, .str, .str], .sl [.str], .sl [.sl [.int .i64, .str, .str, .str]], .sl [.int .i64, .int .i64, .str, .str, .str, .str, .int .i64], .str, .bool] c)), .val (.d (.int .i64 i))] =
    br (decide (i < (↑c.length : Int))) (chk ((0 : Int) ≤ i ∧ i < (↑c.length : Int)) (br ((getR opS c i).fst != (9 : Int)) (some (Rnd.again [SV.val (AV.d (D.sl opS c)), SV.val (AV.d (D.int IntKind.i64 (IntKind.i64.wrap (i + (1 : Int)))))])) (chk (szC c ∧ (-1 : Int) ≤ i ∧ i < (↑c.length : Int)) (chk (lkq_nested_1 ((c, ()), (i, ()), (fromP c i, ()), ())) (br (innB c (fromP c i).toNat (i.toNat - (fromP c i).toNat)) (some (Rnd.out Ex.ret [SV.val (AV.d (D.bool true))])) (some (Rnd.again [SV.val (AV.d (D.sl opS c)), SV.val (AV.d (D.int IntKind.i64 (IntKind.i64.wrap (i + (1 : Int)))))]))))))) (some (Rnd.out (Ex.exit (0 : Nat)) [])) := by kernel_rfl
theorem lokq_nested_0 : LoopOK T (Ep (Eq_Second)) (Ln (Lq_nested)) (loopAt 0 (loops (bodyOf Try.f40))) := by
  refine loop_ok (live := [0, 3]) (outs := []) (rets := [2]) (ks := [.v false [.sl [.int .i64, .sl [.int .i64, .str, .str, .str, .int .i64, .str, .str, .str, .int .i64, .str, .str, .str], .sl [.str], .sl [.sl [.int .i64, .str, .str, .str]], .sl [.int .i64, .int .i64, .str, .str, .str, .str, .int .i64], .str, .bool]], .v false [.int .i64]]) (G := lgq_nested_0) (lkq_nested_0) (lmq_nested_0) (by kernel_rfl) ?_
  rintro ⟨⟨(c : List (RowE [.int .i64, .sl [.int .i64, .str, .str, .str, .int .i64, .str, .str, .str, .int .i64, .str, .str, .str], .sl [.str], .sl [.sl [.int .i64, .str, .str, .str]], .sl [.int .i64, .int .i64, .str, .str, .str, .str, .int .i64], .str, .bool])), _⟩, ⟨(i : Int), _⟩, _⟩ x hok hx
  refine Leads.of_eq (ltq_nested_0 c i) ?_
  obtain ⟨h0, h1, hc⟩ := hok
  obtain ⟨m, rfl⟩ := Int.eq_ofNat_of_zero_le h0
  have hl : c.length ≤ 140737488355328 := hc.1
  simp only [lgq_nested_0, Int.toNat_natCast] at hx
  rcases Nat.lt_or_ge m c.length with hlt | hge
  · have c1 : (0 : Int) ≤ (m : Int) ∧ (m : Int) < (c.length : Int) := ⟨by omega, by omega⟩
    rw [show c.length - m = (c.length - (m + 1)) + 1 by omega] at hx
    simp only [nstB] at hx
    rw [wrap64 (x := (m : Int) + 1) (by omega) (by omega)]
    have hf : 0 ≤ fromP c m ∧ fromP c m ≤ (m : Int) := by unfold fromP; rw [Int.toNat_natCast]; exact fromF_le c m 1
    have hg : (decide ((opA c m).1 = 9) && innB c (fromP c m).toNat (m - (fromP c m).toNat)) = false → Goes [.v false [.sl [.int .i64, .sl [.int .i64, .str, .str, .str, .int .i64, .str, .str, .str, .int .i64, .str, .str, .str], .sl [.str], .sl [.sl [.int .i64, .str, .str, .str]], .sl [.int .i64, .int .i64, .str, .str, .str, .str, .int .i64], .str, .bool]], .v false [.int .i64]] lgq_nested_0 lkq_nested_0 lmq_nested_0 ((c, ()), ((m : Int), ()), ()) x (.again (St.svs [.v false [.sl [.int .i64, .sl [.int .i64, .str, .str, .str, .int .i64, .str, .str, .str, .int .i64, .str, .str, .str], .sl [.str], .sl [.sl [.int .i64, .str, .str, .str]], .sl [.int .i64, .int .i64, .str, .str, .str, .str, .int .i64], .str, .bool]], .v false [.int .i64]] ((c, ()), ((m : Int) + 1, ()), ()))) := fun e => by
      rw [e, Bool.false_or] at hx
      refine Goes.again (ks := [.v false [.sl [.int .i64, .sl [.int .i64, .str, .str, .str, .int .i64, .str, .str, .str, .int .i64, .str, .str, .str], .sl [.str], .sl [.sl [.int .i64, .str, .str, .str]], .sl [.int .i64, .int .i64, .str, .str, .str, .str, .int .i64], .str, .bool]], .v false [.int .i64]]) _ rfl ?_ ?_ ?_
      · exact ⟨by omega, by omega, hc⟩
      · simp only [lmq_nested_0]; omega
      · simp only [lgq_nested_0, toNat_add1]; exact hx
    refine Leads.brD (fun _ => Leads.chk c1 fun _ => Leads.brN (fun q => Leads.chk ⟨hc, by omega, c1.2⟩ fun _ => Leads.chk ⟨hf.1, c1.1, c1.2, hf.2, hl⟩ fun _ => Leads.br (fun z => Leads.one (Goes.out ?_)) (fun z => Leads.one (hg ?_))) (fun q => Leads.one (hg ?_))) (fun q => absurd c1.2 q)
    · have q : (opA c m).1 = 9 := q
      have z : innB c (fromP c m).toNat (m - (fromP c m).toNat) = true := z
      rw [decide_eq_true q, z] at hx
      exact Out_leaf (Out_tt hx)
    · have z : innB c (fromP c m).toNat (m - (fromP c m).toNat) = false := z
      rw [z, Bool.and_false]
    · have q : ¬ (opA c m).1 = 9 := q
      rw [decide_eq_false q, Bool.false_and]
  · rw [show c.length - m = 0 by omega] at hx
    exact Leads.brD (fun q => by omega) (fun _ => Leads.one (Goes.out (Out_leaf (Out_ff hx))))
theorem ltq_nested_1 (c : List (RowE [.int .i64, .sl [.int .i64, .str, .str, .str, .int .i64, .str, .str, .str, .int .i64, .str, .str, .str], .sl [.str], .sl [.sl [.int .i64, .str, .str, .str]], .sl [.int .i64, .int .i64, .str, .str, .str, .str, .int .i64], .str, .bool])) (i : Int) (k : Int) : evRound T (Ep (Eq_Second)) (Ln (Lq_nested)) (loopAt 1 (loops (bodyOf Try.f40))) (lsq_nested_1) [.val (.d (.sl [.int .i64, .sl [.int .i64, .str, .str, .str, .int .i64, .str, .str, .str, .int .i64, .str, .str, .str], .sl [.str], .sl [.sl [.int .i64, .str, .str, .str]], .sl [.int .i64, .int .i64, .str, .str, .str, .str, .int .i64], .str, .bool] c)), .val (.d (.int .i64 i)), .val (.d (.int .i64 k))] =
    br (decide (k < i)) (chk ((0 : Int) ≤ k ∧ k < (↑c.length : Int)) (br ((getR opS c k).fst == (9 : Int)) (some (Rnd.out Ex.ret [SV.val (AV.d (D.bool true))])) (some (Rnd.again [SV.val (AV.d (D.sl opS c)), SV.val (AV.d (D.int IntKind.i64 i)), SV.val (AV.d (D.int IntKind.i64 (IntKind.i64.wrap (k + (1 : Int)))))])))) (some (Rnd.out (Ex.exit (2 : Nat)) [SV.val (AV.d (D.sl opS c)), SV.val (AV.d (D.int IntKind.i64 i))])) := by kernel_rfl
theorem lokq_nested_1 : LoopOK T (Ep (Eq_Second)) (Ln (Lq_nested)) (loopAt 1 (loops (bodyOf Try.f40))) := by
  refine loop_ok (live := [0, 3, 4]) (outs := [0, 3]) (rets := [2]) (ks := [.v false [.sl [.int .i64, .sl [.int .i64, .str, .str, .str, .int .i64, .str, .str, .str, .int .i64, .str, .str, .str], .sl [.str], .sl [.sl [.int .i64, .str, .str, .str]], .sl [.int .i64, .int .i64, .str, .str, .str, .str, .int .i64], .str, .bool]], .v false [.int .i64], .v false [.int .i64]]) (G := lgq_nested_1) (lkq_nested_1) (lmq_nested_1) (by kernel_rfl) ?_
  rintro ⟨⟨(c : List (RowE [.int .i64, .sl [.int .i64, .str, .str, .str, .int .i64, .str, .str, .str, .int .i64, .str, .str, .str], .sl [.str], .sl [.sl [.int .i64, .str, .str, .str]], .sl [.int .i64, .int .i64, .str, .str, .str, .str, .int .i64], .str, .bool])), _⟩, ⟨(i : Int), _⟩, ⟨(k : Int), _⟩, _⟩ x hok hx
  refine Leads.of_eq (ltq_nested_1 c i k) ?_
  obtain ⟨h0, g0, g1, h1, hl⟩ := hok
  obtain ⟨m, rfl⟩ := Int.eq_ofNat_of_zero_le h0
  obtain ⟨p, rfl⟩ := Int.eq_ofNat_of_zero_le g0
  simp only [lgq_nested_1, Int.toNat_natCast] at hx
  rcases Nat.lt_or_ge m p with hlt | hge
  · rw [show p - m = (p - (m + 1)) + 1 by omega] at hx
    simp only [innB] at hx
    rw [wrap64 (x := (m : Int) + 1) (by omega) (by omega)]
    refine Leads.brD (fun _ => Leads.chk ⟨by omega, by omega⟩ fun _ => Leads.brE (fun q => Leads.one (Goes.out ?_)) (fun q => Leads.one ?_)) (fun q => by omega)
    · have q : (opA c m).1 = 9 := q
      rw [decide_eq_true q, Bool.true_or] at hx
      exact Out_leaf (Out_tt hx)
    · have q : ¬ (opA c m).1 = 9 := q
      rw [decide_eq_false q, Bool.false_or] at hx
      refine Goes.again (ks := [.v false [.sl [.int .i64, .sl [.int .i64, .str, .str, .str, .int .i64, .str, .str, .str, .int .i64, .str, .str, .str], .sl [.str], .sl [.sl [.int .i64, .str, .str, .str]], .sl [.int .i64, .int .i64, .str, .str, .str, .str, .int .i64], .str, .bool]], .v false [.int .i64], .v false [.int .i64]]) ((_, ()), (_, ()), (_, ()), ()) rfl ?_ ?_ ?_
      · exact ⟨by omega, by omega, g1, by show (m : Int) + 1 ≤ (p : Int); omega, hl⟩
      · show (p : Int).toNat - ((m : Int) + 1).toNat < (p : Int).toNat - (m : Int).toNat
        omega
      · simp only [lgq_nested_1, toNat_add1, Int.toNat_natCast]; exact hx
  · rw [show p - m = 0 by omega] at hx
    exact Leads.brD (fun q => by omega) (fun _ => Leads.one (Goes.out (Out_leaf (Out_ff hx))))
theorem tq_nested (c : List (RowE [.int .i64, .sl [.int .i64, .str, .str, .str, .int .i64, .str, .str, .str, .int .i64, .str, .str, .str], .sl [.str], .sl [.sl [.int .i64, .str, .str, .str]], .sl [.int .i64, .int .i64, .str, .str, .str, .str, .int .i64], .str, .bool])) : evF T (Ep (Eq_Second)) (Ln (Lq_nested)) Try.f40 [.d (.sl [.int .i64, .sl [.int .i64, .str, .str, .str, .int .i64, .str, .str, .str, .int .i64, .str, .str, .str], .sl [.str], .sl [.sl [.int .i64, .str, .str, .str]], .sl [.int .i64, .int .i64, .str, .str, .str, .str, .int .i64], .str, .bool] c)] =
    chk (lkq_nested_0 ((c, ()), ((0 : Int), ()), ())) (br (nstB c (Int.toNat (0 : Int)) (c.length - Int.toNat (0 : Int))) (some (SV.val (AV.d (D.bool true)))) (some (SV.val (AV.d (D.bool false))))) := by kernel_rfl
theorem satq_nested : Sat P 40 (Sq_nested) := by
  refine sat_mk (LT := Ln (Lq_nested)) hC (SatE.ep okq_Second) mixed Try.func40 (by kernel_rfl) (c := bodyOf Try.f40) (by kernel_rfl) (by kernel_rfl) ?_ (loops2 (by kernel_rfl) (lokq_nested_0) (lokq_nested_1))
  rintro ⟨⟨(c : List (RowE [.int .i64, .sl [.int .i64, .str, .str, .str, .int .i64, .str, .str, .str, .int .i64, .str, .str, .str], .sl [.str], .sl [.sl [.int .i64, .str, .str, .str]], .sl [.int .i64, .int .i64, .str, .str, .str, .str, .int .i64], .str, .bool])), _⟩, _⟩ sv h
  refine Leads.eq (Leads.of_eq (tq_nested c) ?_)
  obtain ⟨hc, h⟩ := h
  have h := Out_leaf h
  refine Leads.chk ⟨by omega, by omega, hc⟩ fun _ => Leads.br (fun z => Leads.one ?_) (fun z => Leads.one ?_)
  · have z : nstB c 0 c.length = true := z
    rw [h, z]
  · have z : nstB c 0 c.length = false := z
    rw [h, z]
def Eq_nested : Es := (40, (Sq_nested)) :: Eq_Second
theorem okq_nested : SatE P (En (Eq_nested)) := SatE.cons (satq_nested) okq_Second
/-! ### legation/legationref07.more -/
def lkq_more_0 : St [.v false [.sl [.str]], .v false [.str], .a [.str], .v false [.bool], .v false [.int .i64]] → Prop := fun ⟨⟨(l : List (RowE [.str])), _⟩, ⟨(s : List UInt8), _⟩, (out : List (RowE [.str])), ⟨(done : Bool), _⟩, ⟨(i : Int), _⟩, _⟩ => 0 ≤ i ∧ i ≤ (l.length : Int) ∧ l.length ≤ 100000 ∧ (out.length : Int) ≤ i + 1 ∧ (done = false → (out.length : Int) ≤ i)
def lgq_more_0 : St [.v false [.sl [.str]], .v false [.str], .a [.str], .v false [.bool], .v false [.int .i64]] → Tr (Ex × List SV) := fun ⟨⟨(l : List (RowE [.str])), _⟩, ⟨(s : List UInt8), _⟩, (out : List (RowE [.str])), ⟨(done : Bool), _⟩, ⟨(i : Int), _⟩, _⟩ => .br done (.leaf (.exit 0, [.val (.d (.str  (s))), .app [.str] (out ++ l.drop i.toNat), .val (.d (.bool  (true)))])) (.leaf (.exit 0, [.val (.d (.str  (s))), .app [.str] (out ++ (insQ s (l.drop i.toNat)).1), .val (.d (.bool  ((insQ s (l.drop i.toNat)).2)))]))
def lmq_more_0 : St [.v false [.sl [.str]], .v false [.str], .a [.str], .v false [.bool], .v false [.int .i64]] → Nat := fun ⟨⟨(l : List (RowE [.str])), _⟩, ⟨(s : List UInt8), _⟩, (out : List (RowE [.str])), ⟨(done : Bool), _⟩, ⟨(i : Int), _⟩, _⟩ => l.length - i.toNat
def lsq_more_0 : LoopS := mkR [0, 1, 5, 6, 7] [1, 5, 6] [] [.v false [.sl [.str]], .v false [.str], .a [.str], .v false [.bool], .v false [.int .i64]] (fun r => .chk (lkq_more_0 r) (lgq_more_0 r))
def Lq_more : Ls := [(6, lsq_more_0)]
def Sq_more := mkS [(false, [.sl [.str]]), (false, [.str])] fun ⟨⟨(l : List (RowE [.str])), _⟩, ⟨(s : List UInt8), _⟩, _⟩ => .chk (l.length ≤ 100000) (.leaf (.val (.d (.sl [.str] (moreL l s)))))
theorem ltq_more_0 (l : List (RowE [.str])) (s : List UInt8) (out : List (RowE [.str])) (done : Bool) (i : Int) : evRound T (Ez [] [4] true (Eq_nested)) (Ln (Lq_more)) (loopAt 0 (loops (bodyOf Try.f58))) (lsq_more_0) [.val (.d (.sl [.str] l)), .val (.d (.str  s)), .app [.str] out, .val (.d (.bool  done)), .val (.d (.int .i64 i))] =
    br (decide (i < (↑l.length : Int))) (br (!done) (chk ((0 : Int) ≤ i ∧ i < (↑l.length : Int)) (br (bytesLess s (getR [Sh.str] l i).fst) (chk (((↑out.length : Int) + (↑[(s, ())].length : Int)) * (↑(16 : Nat) : Int) < lim) (chk ((0 : Int) ≤ i ∧ i < (↑l.length : Int)) (chk (((↑(out ++ [(s, ())]).length : Int) + (↑[getR [Sh.str] l i].length : Int)) * (↑(16 : Nat) : Int) < lim) (some (Rnd.again [SV.val (AV.d (D.sl [Sh.str] l)), SV.val (AV.d (D.str s)), SV.app [Sh.str] (out ++ [(s, ())] ++ [getR [Sh.str] l i]), SV.val (AV.d (D.bool true)), SV.val (AV.d (D.int IntKind.i64 (IntKind.i64.wrap (i + (1 : Int)))))]))))) (chk ((0 : Int) ≤ i ∧ i < (↑l.length : Int)) (chk (((↑out.length : Int) + (↑[getR [Sh.str] l i].length : Int)) * (↑(16 : Nat) : Int) < lim) (some (Rnd.again [SV.val (AV.d (D.sl [Sh.str] l)), SV.val (AV.d (D.str s)), SV.app [Sh.str] (out ++ [getR [Sh.str] l i]), SV.val (AV.d (D.bool done)), SV.val (AV.d (D.int IntKind.i64 (IntKind.i64.wrap (i + (1 : Int)))))])))))) (chk ((0 : Int) ≤ i ∧ i < (↑l.length : Int)) (chk (((↑out.length : Int) + (↑[getR [Sh.str] l i].length : Int)) * (↑(16 : Nat) : Int) < lim) (some (Rnd.again [SV.val (AV.d (D.sl [Sh.str] l)), SV.val (AV.d (D.str s)), SV.app [Sh.str] (out ++ [getR [Sh.str] l i]), SV.val (AV.d (D.bool done)), SV.val (AV.d (D.int IntKind.i64 (IntKind.i64.wrap (i + (1 : Int)))))]))))) (some (Rnd.out (Ex.exit (0 : Nat)) [SV.val (AV.d (D.str s)), SV.app [Sh.str] out, SV.val (AV.d (D.bool done))])) := by kernel_rfl
theorem lokq_more_0 : LoopOK T (Ez [] [4] true (Eq_nested)) (Ln (Lq_more)) (loopAt 0 (loops (bodyOf Try.f58))) := by
  refine loop_ok (live := [0, 1, 5, 6, 7]) (outs := [1, 5, 6]) (rets := []) (ks := [.v false [.sl [.str]], .v false [.str], .a [.str], .v false [.bool], .v false [.int .i64]]) (G := lgq_more_0) (lkq_more_0) (lmq_more_0) (by kernel_rfl) ?_
  rintro ⟨⟨(l : List (RowE [.str])), _⟩, ⟨(s : List UInt8), _⟩, (out : List (RowE [.str])), ⟨(done : Bool), _⟩, ⟨(i : Int), _⟩, _⟩ x hok hx
  refine Leads.of_eq (ltq_more_0 l s out done i) ?_
  obtain ⟨h0, h1, h2, h3, h4⟩ := hok
  obtain ⟨m, rfl⟩ := Int.eq_ofNat_of_zero_le h0
  simp only [lgq_more_0, Int.toNat_natCast] at hx
  rcases drop_cases l m with ⟨hle, hd⟩ | ⟨x1, hlt, hd, hb⟩
  · rw [hd] at hx
    refine Leads.brD (fun q => by omega) (fun _ => Leads.one (Goes.out ?_))
    cases done
    · have hx := Out_leaf (Out_ff hx)
      simp only [insQ, List.append_nil] at hx; exact hx
    · have hx := Out_leaf (Out_tt hx)
      simp only [List.append_nil] at hx; exact hx
  rw [hd] at hx
  rw [getR_of hb, wrap64 (x := (m : Int) + 1) (by omega) (by omega)]
  have c1 : (0 : Int) ≤ (m : Int) ∧ (m : Int) < (l.length : Int) := ⟨by omega, by omega⟩
  cases done
  · have h4 := h4 rfl
    simp only [insQ] at hx
    refine Leads.brD (fun _ => Leads.br (fun _ => Leads.chk c1 fun _ => Leads.br (fun e => Leads.chk (by simp only [lim, List.length_cons, List.length_nil]; omega) fun _ => Leads.chk c1 fun _ => Leads.chk (by simp only [lim, List.length_append, List.length_cons, List.length_nil]; omega) fun _ => Leads.one ?_) (fun e => Leads.chk c1 fun _ => Leads.chk (by simp only [lim, List.length_cons, List.length_nil]; omega) fun _ => Leads.one ?_)) (fun q => by cases q)) (fun q => absurd c1.2 q)
    · have e : bytesLess s x1.1 = true := e
      simp only [e, if_true] at hx
      refine Goes.again (ks := [.v false [.sl [.str]], .v false [.str], .a [.str], .v false [.bool], .v false [.int .i64]]) ((_, ()), (_, ()), _, (_, ()), (_, ()), ()) rfl ?_ ?_ ?_
      · refine ⟨by omega, by omega, by omega, ?_, fun q => by cases q⟩
        simp only [List.length_append, List.length_cons, List.length_nil]; omega
      · simp only [lmq_more_0]; omega
      · simp only [lgq_more_0, toNat_add1, List.append_assoc, List.cons_append, List.nil_append]; exact .inl ⟨rfl, Out_ff hx⟩
    · have e : bytesLess s x1.1 = false := e
      simp only [e, Bool.false_eq_true, if_false] at hx
      refine Goes.again (ks := [.v false [.sl [.str]], .v false [.str], .a [.str], .v false [.bool], .v false [.int .i64]]) ((_, ()), (_, ()), _, (_, ()), (_, ()), ()) rfl ?_ ?_ ?_
      · refine ⟨by omega, by omega, by omega, ?_, fun _ => ?_⟩ <;> (simp only [List.length_append, List.length_cons, List.length_nil]; omega)
      · simp only [lmq_more_0]; omega
      · simp only [lgq_more_0, toNat_add1, List.append_assoc, List.cons_append, List.nil_append]; exact hx
  · refine Leads.brD (fun _ => Leads.br (fun q => by cases q) (fun _ => Leads.chk c1 fun _ => Leads.chk (by simp only [lim, List.length_cons, List.length_nil]; omega) fun _ => Leads.one ?_)) (fun q => absurd c1.2 q)
    refine Goes.again (ks := [.v false [.sl [.str]], .v false [.str], .a [.str], .v false [.bool], .v false [.int .i64]]) ((_, ()), (_, ()), _, (_, ()), (_, ()), ()) rfl ?_ ?_ ?_
    · refine ⟨by omega, by omega, by omega, ?_, fun q => by cases q⟩
      simp only [List.length_append, List.length_cons, List.length_nil]; omega
    · simp only [lmq_more_0]; omega
    · simp only [lgq_more_0, toNat_add1, List.append_assoc, List.cons_append, List.nil_append]; exact .inl ⟨rfl, Out_tt hx⟩
theorem tq_more (l : List (RowE [.str])) (s : List UInt8) : evF T (Ez [] [4] true (Eq_nested)) (Ln (Lq_more)) Try.f58 [.d (.sl [.str] l), .d (.str s)] =
    chk (l.length ≤ (140737488355328 : Nat)) (br (hasS l s) (some (SV.val (AV.d (D.sl [Sh.str] l)))) (chk (lkq_more_0 ((l, ()), (s, ()), [], (false, ()), ((0 : Int), ()), ())) (br (!(insQ s (List.drop (Int.toNat (0 : Int)) l)).snd) (chk (((↑([] ++ (insQ s (List.drop (Int.toNat (0 : Int)) l)).fst).length : Int) + (↑[(s, ())].length : Int)) * (↑(16 : Nat) : Int) < lim) (some (SV.val (AV.d (D.sl [Sh.str] ([] ++ (insQ s (List.drop (Int.toNat (0 : Int)) l)).fst ++ [(s, ())])))))) (some (SV.val (AV.d (D.sl [Sh.str] ([] ++ (insQ s (List.drop (Int.toNat (0 : Int)) l)).fst)))))))) := by kernel_rfl
theorem satq_more : Sat P 58 (Sq_more) := by
  refine sat_mk (LT := Ln (Lq_more)) hC (SatE.ez okq_nested) mixed Try.func58 (by kernel_rfl) (c := bodyOf Try.f58) (by kernel_rfl) (by kernel_rfl) ?_ (loops1 (by kernel_rfl) (lokq_more_0))
  rintro ⟨⟨(l : List (RowE [.str])), _⟩, ⟨(s : List UInt8), _⟩, _⟩ sv h
  refine Leads.eq (Leads.of_eq (tq_more l s) ?_)
  obtain ⟨hl, h⟩ := h
  have h := Out_leaf h
  have hl : l.length ≤ 100000 := hl
  have hq := insQ_len s l
  unfold moreL at h
  refine Leads.chk (by omega) fun _ => Leads.br (fun z => Leads.one ?_) (fun z => Leads.chk ⟨by omega, by omega, hl, by simp only [List.length_nil]; omega, fun _ => by simp only [List.length_nil]; omega⟩ fun _ => Leads.br (fun y => Leads.chk ?_ fun _ => Leads.one ?_) (fun y => Leads.one ?_))
  · have z : hasS l s = true := z
    rw [if_pos z] at h; exact h.symm
  · change (((List.length (([] : List (RowE [.str])) ++ (insQ s l).1) : Nat) : Int) + (List.length [((s, ()) : RowE [.str])] : Nat)) * ((16 : Nat) : Int) < lim
    rw [List.nil_append]
    simp only [lim, List.length_cons, List.length_nil]; omega
  · have z : hasS l s = false := z
    have y : (!(insQ s l).2) = true := y
    have y : (insQ s l).2 = false := by simpa using y
    rw [z, if_neg (by simp), ins_Q, y, if_neg (by simp)] at h; exact h.symm
  · have z : hasS l s = false := z
    have y : (!(insQ s l).2) = false := y
    have y : (insQ s l).2 = true := by simpa using y
    rw [z, if_neg (by simp), ins_Q, y, if_pos rfl] at h; exact h.symm
def Eq_more : Es := (58, (Sq_more)) :: Eq_nested
theorem okq_more : SatE P (En (Eq_more)) := SatE.cons (satq_more) okq_nested
/-! ### legation/legationref07.union -/
def lkq_union_0 : St [.v false [.sl [.str]], .v false [.sl [.str]], .v false [.int .i64]] → Prop := fun ⟨⟨(a : List (RowE [.str])), _⟩, ⟨(b : List (RowE [.str])), _⟩, ⟨(i : Int), _⟩, _⟩ => 0 ≤ i ∧ i ≤ (b.length : Int) ∧ (a.length : Int) + b.length ≤ 100000 + i ∧ b.length ≤ 100000
def lgq_union_0 : St [.v false [.sl [.str]], .v false [.sl [.str]], .v false [.int .i64]] → Tr (Ex × List SV) := fun ⟨⟨(a : List (RowE [.str])), _⟩, ⟨(b : List (RowE [.str])), _⟩, ⟨(i : Int), _⟩, _⟩ => .leaf (.exit 0, [.val (.d (.sl [.str] (unionL a (b.drop i.toNat))))])
def lmq_union_0 : St [.v false [.sl [.str]], .v false [.sl [.str]], .v false [.int .i64]] → Nat := fun ⟨⟨(a : List (RowE [.str])), _⟩, ⟨(b : List (RowE [.str])), _⟩, ⟨(i : Int), _⟩, _⟩ => b.length - i.toNat
def lsq_union_0 : LoopS := mkR [0, 1, 5] [0] [] [.v false [.sl [.str]], .v false [.sl [.str]], .v false [.int .i64]] (fun r => .chk (lkq_union_0 r) (lgq_union_0 r))
def Lq_union : Ls := [(2, lsq_union_0)]
def Sq_union := mkS [(false, [.sl [.str]]), (false, [.sl [.str]])] fun ⟨⟨(a : List (RowE [.str])), _⟩, ⟨(b : List (RowE [.str])), _⟩, _⟩ => .chk (a.length + b.length ≤ 100000) (.leaf (.val (.d (.sl [.str] (unionL a b)))))
theorem ltq_union_0 (a : List (RowE [.str])) (b : List (RowE [.str])) (i : Int) : evRound T (Ep (Eq_more)) (Ln (Lq_union)) (loopAt 0 (loops (bodyOf Try.f61))) (lsq_union_0) [.val (.d (.sl [.str] a)), .val (.d (.sl [.str] b)), .val (.d (.int .i64 i))] =
    br (decide (i < (↑b.length : Int))) (chk ((0 : Int) ≤ i ∧ i < (↑b.length : Int)) (chk (a.length ≤ (100000 : Nat)) (some (Rnd.again [SV.val (AV.d (D.sl [Sh.str] (moreL a (getR [Sh.str] b i).fst))), SV.val (AV.d (D.sl [Sh.str] b)), SV.val (AV.d (D.int IntKind.i64 (IntKind.i64.wrap (i + (1 : Int)))))])))) (some (Rnd.out (Ex.exit (0 : Nat)) [SV.val (AV.d (D.sl [Sh.str] a))])) := by kernel_rfl
theorem lokq_union_0 : LoopOK T (Ep (Eq_more)) (Ln (Lq_union)) (loopAt 0 (loops (bodyOf Try.f61))) := by
  refine loop_ok (live := [0, 1, 5]) (outs := [0]) (rets := []) (ks := [.v false [.sl [.str]], .v false [.sl [.str]], .v false [.int .i64]]) (G := lgq_union_0) (lkq_union_0) (lmq_union_0) (by kernel_rfl) ?_
  rintro ⟨⟨(a : List (RowE [.str])), _⟩, ⟨(b : List (RowE [.str])), _⟩, ⟨(i : Int), _⟩, _⟩ x hok hx
  refine Leads.of_eq (ltq_union_0 a b i) ?_
  obtain ⟨h0, h1, h2, h3⟩ := hok
  obtain ⟨m, rfl⟩ := Int.eq_ofNat_of_zero_le h0
  simp only [lgq_union_0, Int.toNat_natCast] at hx
  rcases drop_cases b m with ⟨hle, hd⟩ | ⟨x1, hlt, hd, hb⟩
  · rw [hd] at hx
    exact Leads.brD (fun q => by omega) (fun _ => Leads.one (Goes.out (Out_leaf hx)))
  rw [hd, union_cons] at hx
  have c1 : (0 : Int) ≤ (m : Int) ∧ (m : Int) < (b.length : Int) := ⟨by omega, by omega⟩
  have hm := more_len a x1.1
  rw [getR_of hb, wrap64 (x := (m : Int) + 1) (by omega) (by omega)]
  refine Leads.brD (fun _ => Leads.chk c1 fun _ => Leads.chk (by omega) fun _ => Leads.one ?_) (fun q => absurd c1.2 q)
  refine Goes.again (ks := [.v false [.sl [.str]], .v false [.sl [.str]], .v false [.int .i64]]) ((_, ()), (_, ()), (_, ()), ()) rfl ?_ ?_ ?_
  · exact ⟨by omega, by omega, by show ((moreL a x1.1).length : Int) + b.length ≤ 100000 + ((m : Int) + 1); omega, h3⟩
  · simp only [lmq_union_0]; omega
  · simp only [lgq_union_0, toNat_add1]; exact hx
theorem tq_union (a : List (RowE [.str])) (b : List (RowE [.str])) : evF T (Ep (Eq_more)) (Ln (Lq_union)) Try.f61 [.d (.sl [.str] a), .d (.sl [.str] b)] =
    chk (lkq_union_0 ((a, ()), (b, ()), ((0 : Int), ()), ())) (some (SV.val (AV.d (D.sl [Sh.str] (unionL a (List.drop (Int.toNat (0 : Int)) b)))))) := by kernel_rfl
theorem satq_union : Sat P 61 (Sq_union) := by
  refine sat_mk (LT := Ln (Lq_union)) hC (SatE.ep okq_more) mixed Try.func61 (by kernel_rfl) (c := bodyOf Try.f61) (by kernel_rfl) (by kernel_rfl) ?_ (loops1 (by kernel_rfl) (lokq_union_0))
  rintro ⟨⟨(a : List (RowE [.str])), _⟩, ⟨(b : List (RowE [.str])), _⟩, _⟩ sv h
  refine Leads.eq (Leads.of_eq (tq_union a b) ?_)
  obtain ⟨hl, h⟩ := h
  obtain rfl := Out_leaf h
  have hl : a.length + b.length ≤ 100000 := hl
  exact Leads.chk ⟨by omega, by omega, by omega, by omega⟩ fun _ => Leads.one rfl
def Eq_union : Es := (61, (Sq_union)) :: Eq_more
theorem okq_union : SatE P (En (Eq_union)) := SatE.cons (satq_union) okq_more
/-! ### legation/legationref07.meet -/
def lkq_meet_0 : St [.v false [.sl [.str]], .v false [.sl [.str]], .a [.str], .v false [.int .i64]] → Prop := fun ⟨⟨(a : List (RowE [.str])), _⟩, ⟨(b : List (RowE [.str])), _⟩, (out : List (RowE [.str])), ⟨(i : Int), _⟩, _⟩ => 0 ≤ i ∧ i ≤ (a.length : Int) ∧ a.length ≤ 100000 ∧ b.length ≤ 100000 ∧ (out.length : Int) ≤ i
def lgq_meet_0 : St [.v false [.sl [.str]], .v false [.sl [.str]], .a [.str], .v false [.int .i64]] → Tr (Ex × List SV) := fun ⟨⟨(a : List (RowE [.str])), _⟩, ⟨(b : List (RowE [.str])), _⟩, (out : List (RowE [.str])), ⟨(i : Int), _⟩, _⟩ => .leaf (.exit 0, [.app [.str] (out ++ meetL (a.drop i.toNat) b)])
def lmq_meet_0 : St [.v false [.sl [.str]], .v false [.sl [.str]], .a [.str], .v false [.int .i64]] → Nat := fun ⟨⟨(a : List (RowE [.str])), _⟩, ⟨(b : List (RowE [.str])), _⟩, (out : List (RowE [.str])), ⟨(i : Int), _⟩, _⟩ => a.length - i.toNat
def lsq_meet_0 : LoopS := mkR [0, 1, 5, 6] [5] [] [.v false [.sl [.str]], .v false [.sl [.str]], .a [.str], .v false [.int .i64]] (fun r => .chk (lkq_meet_0 r) (lgq_meet_0 r))
def Lq_meet : Ls := [(3, lsq_meet_0)]
def Sq_meet := mkS [(false, [.sl [.str]]), (false, [.sl [.str]])] fun ⟨⟨(a : List (RowE [.str])), _⟩, ⟨(b : List (RowE [.str])), _⟩, _⟩ => .chk (a.length ≤ 100000 ∧ b.length ≤ 100000) (.leaf (.val (.d (.sl [.str] (meetL a b)))))
theorem ltq_meet_0 (a : List (RowE [.str])) (b : List (RowE [.str])) (out : List (RowE [.str])) (i : Int) : evRound T (Ez [] [4] true (Eq_union)) (Ln (Lq_meet)) (loopAt 0 (loops (bodyOf Try.f60))) (lsq_meet_0) [.val (.d (.sl [.str] a)), .val (.d (.sl [.str] b)), .app [.str] out, .val (.d (.int .i64 i))] =
    br (decide (i < (↑a.length : Int))) (chk ((0 : Int) ≤ i ∧ i < (↑a.length : Int)) (chk (b.length ≤ (140737488355328 : Nat)) (br (hasS b (getR [Sh.str] a i).fst) (chk ((0 : Int) ≤ i ∧ i < (↑a.length : Int)) (chk (((↑out.length : Int) + (↑[getR [Sh.str] a i].length : Int)) * (↑(16 : Nat) : Int) < lim) (some (Rnd.again [SV.val (AV.d (D.sl [Sh.str] a)), SV.val (AV.d (D.sl [Sh.str] b)), SV.app [Sh.str] (out ++ [getR [Sh.str] a i]), SV.val (AV.d (D.int IntKind.i64 (IntKind.i64.wrap (i + (1 : Int)))))])))) (some (Rnd.again [SV.val (AV.d (D.sl [Sh.str] a)), SV.val (AV.d (D.sl [Sh.str] b)), SV.app [Sh.str] out, SV.val (AV.d (D.int IntKind.i64 (IntKind.i64.wrap (i + (1 : Int)))))]))))) (some (Rnd.out (Ex.exit (0 : Nat)) [SV.app [Sh.str] out])) := by kernel_rfl
theorem lokq_meet_0 : LoopOK T (Ez [] [4] true (Eq_union)) (Ln (Lq_meet)) (loopAt 0 (loops (bodyOf Try.f60))) := by
  refine loop_ok (live := [0, 1, 5, 6]) (outs := [5]) (rets := []) (ks := [.v false [.sl [.str]], .v false [.sl [.str]], .a [.str], .v false [.int .i64]]) (G := lgq_meet_0) (lkq_meet_0) (lmq_meet_0) (by kernel_rfl) ?_
  rintro ⟨⟨(a : List (RowE [.str])), _⟩, ⟨(b : List (RowE [.str])), _⟩, (out : List (RowE [.str])), ⟨(i : Int), _⟩, _⟩ x hok hx
  refine Leads.of_eq (ltq_meet_0 a b out i) ?_
  obtain ⟨h0, h1, h2, h3, h4⟩ := hok
  obtain ⟨m, rfl⟩ := Int.eq_ofNat_of_zero_le h0
  simp only [lgq_meet_0, Int.toNat_natCast] at hx
  rcases drop_cases a m with ⟨hle, hd⟩ | ⟨x1, hlt, hd, hb⟩
  · rw [hd] at hx
    have hx := Out_leaf hx
    simp only [meetL, List.filter_nil, List.append_nil] at hx
    exact Leads.brD (fun q => by omega) (fun _ => Leads.one (Goes.out hx))
  rw [hd] at hx
  have c1 : (0 : Int) ≤ (m : Int) ∧ (m : Int) < (a.length : Int) := ⟨by omega, by omega⟩
  rw [getR_of hb, wrap64 (x := (m : Int) + 1) (by omega) (by omega)]
  refine Leads.brD (fun _ => Leads.chk c1 fun _ => Leads.chk (by omega) fun _ => Leads.br (fun e => Leads.chk c1 fun _ => Leads.chk (by simp only [lim, List.length_cons, List.length_nil]; omega) fun _ => Leads.one ?_) (fun e => Leads.one ?_)) (fun q => absurd c1.2 q)
  · have e : hasS b x1.1 = true := e
    have em : meetL (x1 :: List.drop (m + 1) a) b = x1 :: meetL (List.drop (m + 1) a) b := by unfold meetL; rw [List.filter_cons, if_pos e]
    rw [em] at hx
    refine Goes.again (ks := [.v false [.sl [.str]], .v false [.sl [.str]], .a [.str], .v false [.int .i64]]) ((_, ()), (_, ()), _, (_, ()), ()) rfl ?_ ?_ ?_
    · refine ⟨by omega, by omega, h2, h3, ?_⟩
      simp only [List.length_append, List.length_cons, List.length_nil]; omega
    · simp only [lmq_meet_0]; omega
    · simp only [lgq_meet_0, toNat_add1, List.append_assoc, List.cons_append, List.nil_append]; exact hx
  · have e : hasS b x1.1 = false := e
    have em : meetL (x1 :: List.drop (m + 1) a) b = meetL (List.drop (m + 1) a) b := by unfold meetL; rw [List.filter_cons, if_neg (by rw [e]; simp)]
    rw [em] at hx
    refine Goes.again (ks := [.v false [.sl [.str]], .v false [.sl [.str]], .a [.str], .v false [.int .i64]]) ((_, ()), (_, ()), _, (_, ()), ()) rfl ?_ ?_ ?_
    · exact ⟨by omega, by omega, h2, h3, by omega⟩
    · simp only [lmq_meet_0]; omega
    · simp only [lgq_meet_0, toNat_add1]; exact hx
theorem tq_meet (a : List (RowE [.str])) (b : List (RowE [.str])) : evF T (Ez [] [4] true (Eq_union)) (Ln (Lq_meet)) Try.f60 [.d (.sl [.str] a), .d (.sl [.str] b)] =
    chk (lkq_meet_0 ((a, ()), (b, ()), [], ((0 : Int), ()), ())) (some (SV.val (AV.d (D.sl [Sh.str] ([] ++ meetL (List.drop (Int.toNat (0 : Int)) a) b))))) := by kernel_rfl
theorem satq_meet : Sat P 60 (Sq_meet) := by
  refine sat_mk (LT := Ln (Lq_meet)) hC (SatE.ez okq_union) mixed Try.func60 (by kernel_rfl) (c := bodyOf Try.f60) (by kernel_rfl) (by kernel_rfl) ?_ (loops1 (by kernel_rfl) (lokq_meet_0))
  rintro ⟨⟨(a : List (RowE [.str])), _⟩, ⟨(b : List (RowE [.str])), _⟩, _⟩ sv h
  refine Leads.eq (Leads.of_eq (tq_meet a b) ?_)
  obtain ⟨⟨hl, hl2⟩, h⟩ := h
  obtain rfl := Out_leaf h
  have hl : a.length ≤ 100000 := hl
  exact Leads.chk ⟨by omega, by omega, hl, hl2, by simp only [List.length_nil]; omega⟩ fun _ => Leads.one (by rw [List.nil_append]; rfl)
def Eq_meet : Es := (60, (Sq_meet)) :: Eq_union
theorem okq_meet : SatE P (En (Eq_meet)) := SatE.cons (satq_meet) okq_union
/-! ### legation/legationref07.leaf -/
def lkq_leaf_0 : St [.box [.v (.int .i64), .v (.sl [.int .i64, .str, .str, .str, .int .i64, .str, .str, .str, .int .i64, .str, .str, .str]), .v (.sl [.str]), .v (.sl [.sl [.int .i64, .str, .str, .str]]), .v (.sl [.int .i64, .int .i64, .str, .str, .str, .str, .int .i64]), .v .str, .v .bool], .v false [.sl [.str]], .v false [.int .i64]] → Prop := fun ⟨(o : KCs [.v (.int .i64), .v (.sl [.int .i64, .str, .str, .str, .int .i64, .str, .str, .str, .int .i64, .str, .str, .str]), .v (.sl [.str]), .v (.sl [.sl [.int .i64, .str, .str, .str]]), .v (.sl [.int .i64, .int .i64, .str, .str, .str, .str, .int .i64]), .v .str, .v .bool]), ⟨(out : List (RowE [.str])), _⟩, ⟨(i : Int), _⟩, _⟩ => 0 ≤ i ∧ i ≤ (List.length o.2.1 : Int) ∧ List.length o.2.1 ≤ 32 ∧ (out.length : Int) ≤ 3 * i
def lgq_leaf_0 : St [.box [.v (.int .i64), .v (.sl [.int .i64, .str, .str, .str, .int .i64, .str, .str, .str, .int .i64, .str, .str, .str]), .v (.sl [.str]), .v (.sl [.sl [.int .i64, .str, .str, .str]]), .v (.sl [.int .i64, .int .i64, .str, .str, .str, .str, .int .i64]), .v .str, .v .bool], .v false [.sl [.str]], .v false [.int .i64]] → Tr (Ex × List SV) := fun ⟨(o : KCs [.v (.int .i64), .v (.sl [.int .i64, .str, .str, .str, .int .i64, .str, .str, .str, .int .i64, .str, .str, .str]), .v (.sl [.str]), .v (.sl [.sl [.int .i64, .str, .str, .str]]), .v (.sl [.int .i64, .int .i64, .str, .str, .str, .str, .int .i64]), .v .str, .v .bool]), ⟨(out : List (RowE [.str])), _⟩, ⟨(i : Int), _⟩, _⟩ => .leaf (.exit 0, [.box true (KCs.svs [.v (.int .i64), .v (.sl [.int .i64, .str, .str, .str, .int .i64, .str, .str, .str, .int .i64, .str, .str, .str]), .v (.sl [.str]), .v (.sl [.sl [.int .i64, .str, .str, .str]]), .v (.sl [.int .i64, .int .i64, .str, .str, .str, .str, .int .i64]), .v .str, .v .bool] (o)), .val (.d (.sl [.str] (triL7 (List.drop i.toNat o.2.1) out)))])
def lmq_leaf_0 : St [.box [.v (.int .i64), .v (.sl [.int .i64, .str, .str, .str, .int .i64, .str, .str, .str, .int .i64, .str, .str, .str]), .v (.sl [.str]), .v (.sl [.sl [.int .i64, .str, .str, .str]]), .v (.sl [.int .i64, .int .i64, .str, .str, .str, .str, .int .i64]), .v .str, .v .bool], .v false [.sl [.str]], .v false [.int .i64]] → Nat := fun ⟨(o : KCs [.v (.int .i64), .v (.sl [.int .i64, .str, .str, .str, .int .i64, .str, .str, .str, .int .i64, .str, .str, .str]), .v (.sl [.str]), .v (.sl [.sl [.int .i64, .str, .str, .str]]), .v (.sl [.int .i64, .int .i64, .str, .str, .str, .str, .int .i64]), .v .str, .v .bool]), ⟨(out : List (RowE [.str])), _⟩, ⟨(i : Int), _⟩, _⟩ => List.length o.2.1 - i.toNat
def lsq_leaf_0 : LoopS := mkR [2, 5, 6] [2, 5] [] [.box [.v (.int .i64), .v (.sl [.int .i64, .str, .str, .str, .int .i64, .str, .str, .str, .int .i64, .str, .str, .str]), .v (.sl [.str]), .v (.sl [.sl [.int .i64, .str, .str, .str]]), .v (.sl [.int .i64, .int .i64, .str, .str, .str, .str, .int .i64]), .v .str, .v .bool], .v false [.sl [.str]], .v false [.int .i64]] (fun r => .chk (lkq_leaf_0 r) (lgq_leaf_0 r))
def lkq_leaf_1 : St [.v false [.bool], .box [.v (.int .i64), .v (.sl [.int .i64, .str, .str, .str, .int .i64, .str, .str, .str, .int .i64, .str, .str, .str]), .v (.sl [.str]), .v (.sl [.sl [.int .i64, .str, .str, .str]]), .v (.sl [.int .i64, .int .i64, .str, .str, .str, .str, .int .i64]), .v .str, .v .bool], .v false [.sl [.str]], .v false [.int .i64]] → Prop := fun ⟨⟨(certain : Bool), _⟩, (o : KCs [.v (.int .i64), .v (.sl [.int .i64, .str, .str, .str, .int .i64, .str, .str, .str, .int .i64, .str, .str, .str]), .v (.sl [.str]), .v (.sl [.sl [.int .i64, .str, .str, .str]]), .v (.sl [.int .i64, .int .i64, .str, .str, .str, .str, .int .i64]), .v .str, .v .bool]), ⟨(out : List (RowE [.str])), _⟩, ⟨(i : Int), _⟩, _⟩ => 0 ≤ i ∧ i ≤ (List.length o.2.2.1 : Int) ∧ List.length o.2.2.1 ≤ 32 ∧ (out.length : Int) ≤ 96 + i ∧ List.length o.2.2.2.1 ≤ 140737488355328 ∧ (∀ r ∈ o.2.2.2.1, List.length r.1 = List.length o.2.2.1)
def lgq_leaf_1 : St [.v false [.bool], .box [.v (.int .i64), .v (.sl [.int .i64, .str, .str, .str, .int .i64, .str, .str, .str, .int .i64, .str, .str, .str]), .v (.sl [.str]), .v (.sl [.sl [.int .i64, .str, .str, .str]]), .v (.sl [.int .i64, .int .i64, .str, .str, .str, .str, .int .i64]), .v .str, .v .bool], .v false [.sl [.str]], .v false [.int .i64]] → Tr (Ex × List SV) := fun ⟨⟨(certain : Bool), _⟩, (o : KCs [.v (.int .i64), .v (.sl [.int .i64, .str, .str, .str, .int .i64, .str, .str, .str, .int .i64, .str, .str, .str]), .v (.sl [.str]), .v (.sl [.sl [.int .i64, .str, .str, .str]]), .v (.sl [.int .i64, .int .i64, .str, .str, .str, .str, .int .i64]), .v .str, .v .bool]), ⟨(out : List (RowE [.str])), _⟩, ⟨(i : Int), _⟩, _⟩ => .leaf (.exit 2, [.val (.d (.sl [.str] (colL o.2.2.2.1 certain i.toNat (List.drop i.toNat o.2.2.1) out)))])
def lmq_leaf_1 : St [.v false [.bool], .box [.v (.int .i64), .v (.sl [.int .i64, .str, .str, .str, .int .i64, .str, .str, .str, .int .i64, .str, .str, .str]), .v (.sl [.str]), .v (.sl [.sl [.int .i64, .str, .str, .str]]), .v (.sl [.int .i64, .int .i64, .str, .str, .str, .str, .int .i64]), .v .str, .v .bool], .v false [.sl [.str]], .v false [.int .i64]] → Nat := fun ⟨⟨(certain : Bool), _⟩, (o : KCs [.v (.int .i64), .v (.sl [.int .i64, .str, .str, .str, .int .i64, .str, .str, .str, .int .i64, .str, .str, .str]), .v (.sl [.str]), .v (.sl [.sl [.int .i64, .str, .str, .str]]), .v (.sl [.int .i64, .int .i64, .str, .str, .str, .str, .int .i64]), .v .str, .v .bool]), ⟨(out : List (RowE [.str])), _⟩, ⟨(i : Int), _⟩, _⟩ => List.length o.2.2.1 - i.toNat
def lsq_leaf_1 : LoopS := mkR [1, 2, 5, 7] [5] [] [.v false [.bool], .box [.v (.int .i64), .v (.sl [.int .i64, .str, .str, .str, .int .i64, .str, .str, .str, .int .i64, .str, .str, .str]), .v (.sl [.str]), .v (.sl [.sl [.int .i64, .str, .str, .str]]), .v (.sl [.int .i64, .int .i64, .str, .str, .str, .str, .int .i64]), .v .str, .v .bool], .v false [.sl [.str]], .v false [.int .i64]] (fun r => .chk (lkq_leaf_1 r) (lgq_leaf_1 r))
def lkq_leaf_2 : St [.box [.v (.int .i64), .v (.sl [.int .i64, .str, .str, .str, .int .i64, .str, .str, .str, .int .i64, .str, .str, .str]), .v (.sl [.str]), .v (.sl [.sl [.int .i64, .str, .str, .str]]), .v (.sl [.int .i64, .int .i64, .str, .str, .str, .str, .int .i64]), .v .str, .v .bool], .v false [.int .i64], .v false [.bool], .v false [.int .i64]] → Prop := fun ⟨(o : KCs [.v (.int .i64), .v (.sl [.int .i64, .str, .str, .str, .int .i64, .str, .str, .str, .int .i64, .str, .str, .str]), .v (.sl [.str]), .v (.sl [.sl [.int .i64, .str, .str, .str]]), .v (.sl [.int .i64, .int .i64, .str, .str, .str, .str, .int .i64]), .v .str, .v .bool]), ⟨(i : Int), _⟩, ⟨(lacks : Bool), _⟩, ⟨(k : Int), _⟩, _⟩ => 0 ≤ k ∧ k ≤ (List.length o.2.2.2.1 : Int) ∧ 0 ≤ i ∧ i < (List.length o.2.2.1 : Int) ∧ List.length o.2.2.2.1 ≤ 140737488355328 ∧ (∀ r ∈ o.2.2.2.1, List.length r.1 = List.length o.2.2.1)
def lgq_leaf_2 : St [.box [.v (.int .i64), .v (.sl [.int .i64, .str, .str, .str, .int .i64, .str, .str, .str, .int .i64, .str, .str, .str]), .v (.sl [.str]), .v (.sl [.sl [.int .i64, .str, .str, .str]]), .v (.sl [.int .i64, .int .i64, .str, .str, .str, .str, .int .i64]), .v .str, .v .bool], .v false [.int .i64], .v false [.bool], .v false [.int .i64]] → Tr (Ex × List SV) := fun ⟨(o : KCs [.v (.int .i64), .v (.sl [.int .i64, .str, .str, .str, .int .i64, .str, .str, .str, .int .i64, .str, .str, .str]), .v (.sl [.str]), .v (.sl [.sl [.int .i64, .str, .str, .str]]), .v (.sl [.int .i64, .int .i64, .str, .str, .str, .str, .int .i64]), .v .str, .v .bool]), ⟨(i : Int), _⟩, ⟨(lacks : Bool), _⟩, ⟨(k : Int), _⟩, _⟩ => .leaf (.exit 4, [.box true (KCs.svs [.v (.int .i64), .v (.sl [.int .i64, .str, .str, .str, .int .i64, .str, .str, .str, .int .i64, .str, .str, .str]), .v (.sl [.str]), .v (.sl [.sl [.int .i64, .str, .str, .str]]), .v (.sl [.int .i64, .int .i64, .str, .str, .str, .str, .int .i64]), .v .str, .v .bool] (o)), .val (.d (.int .i64 (i))), .val (.d (.bool  (lacks || lackR (List.drop k.toNat o.2.2.2.1) i.toNat)))])
def lmq_leaf_2 : St [.box [.v (.int .i64), .v (.sl [.int .i64, .str, .str, .str, .int .i64, .str, .str, .str, .int .i64, .str, .str, .str]), .v (.sl [.str]), .v (.sl [.sl [.int .i64, .str, .str, .str]]), .v (.sl [.int .i64, .int .i64, .str, .str, .str, .str, .int .i64]), .v .str, .v .bool], .v false [.int .i64], .v false [.bool], .v false [.int .i64]] → Nat := fun ⟨(o : KCs [.v (.int .i64), .v (.sl [.int .i64, .str, .str, .str, .int .i64, .str, .str, .str, .int .i64, .str, .str, .str]), .v (.sl [.str]), .v (.sl [.sl [.int .i64, .str, .str, .str]]), .v (.sl [.int .i64, .int .i64, .str, .str, .str, .str, .int .i64]), .v .str, .v .bool]), ⟨(i : Int), _⟩, ⟨(lacks : Bool), _⟩, ⟨(k : Int), _⟩, _⟩ => List.length o.2.2.2.1 - k.toNat
def lsq_leaf_2 : LoopS := mkR [2, 7, 8, 9] [2, 7, 8] [] [.box [.v (.int .i64), .v (.sl [.int .i64, .str, .str, .str, .int .i64, .str, .str, .str, .int .i64, .str, .str, .str]), .v (.sl [.str]), .v (.sl [.sl [.int .i64, .str, .str, .str]]), .v (.sl [.int .i64, .int .i64, .str, .str, .str, .str, .int .i64]), .v .str, .v .bool], .v false [.int .i64], .v false [.bool], .v false [.int .i64]] (fun r => .chk (lkq_leaf_2 r) (lgq_leaf_2 r))
def Lq_leaf : Ls := [(3, lsq_leaf_0), (7, lsq_leaf_1), (11, lsq_leaf_2)]
def Sq_leaf := mkS [(true, opS), (false, [.bool])] fun ⟨(o : RowE opS), ⟨(certain : Bool), _⟩, _⟩ => .chk (szO o ∧ rightO o = true ∧ needsK o.1 = 0) (.leaf (.val (.d (.sl [.str] (leafL o certain)))))
theorem ltq_leaf_0 (o : KCs [.v (.int .i64), .v (.sl [.int .i64, .str, .str, .str, .int .i64, .str, .str, .str, .int .i64, .str, .str, .str]), .v (.sl [.str]), .v (.sl [.sl [.int .i64, .str, .str, .str]]), .v (.sl [.int .i64, .int .i64, .str, .str, .str, .str, .int .i64]), .v .str, .v .bool]) (out : List (RowE [.str])) (i : Int) : evRound T (Ez [] [4, 5] true (Eq_meet)) (Ln (Lq_leaf)) (loopAt 0 (loops (bodyOf Try.f57))) (lsq_leaf_0) [.box true (KCs.svs [.v (.int .i64), .v (.sl [.int .i64, .str, .str, .str, .int .i64, .str, .str, .str, .int .i64, .str, .str, .str]), .v (.sl [.str]), .v (.sl [.sl [.int .i64, .str, .str, .str]]), .v (.sl [.int .i64, .int .i64, .str, .str, .str, .str, .int .i64]), .v .str, .v .bool] o), .val (.d (.sl [.str] out)), .val (.d (.int .i64 i))] =
    br (decide (i < (↑(List.length o.snd.fst) : Int))) (chk ((0 : Int) ≤ i ∧ i < (↑(List.length o.snd.fst) : Int)) (chk (out.length + (varsS (getR t3S o.snd.fst i)).length ≤ (100000 : Nat)) (some (Rnd.again [SV.box true [SV.val (AV.d (D.int IntKind.i64 o.fst)), SV.val (AV.d (D.sl t3S o.snd.fst)), SV.val (AV.d (D.sl [Sh.str] o.snd.snd.fst)), SV.val (AV.d (D.sl [Sh.sl tmS] o.snd.snd.snd.fst)), SV.val (AV.d (D.sl ptS o.snd.snd.snd.snd.fst)), SV.val (AV.d (D.str o.snd.snd.snd.snd.snd.fst)), SV.val (AV.d (D.bool o.snd.snd.snd.snd.snd.snd.fst))], SV.val (AV.d (D.sl [Sh.str] (unionL out (varsS (getR t3S o.snd.fst i))))), SV.val (AV.d (D.int IntKind.i64 (IntKind.i64.wrap (i + (1 : Int)))))])))) (some (Rnd.out (Ex.exit (0 : Nat)) [SV.box true [SV.val (AV.d (D.int IntKind.i64 o.fst)), SV.val (AV.d (D.sl t3S o.snd.fst)), SV.val (AV.d (D.sl [Sh.str] o.snd.snd.fst)), SV.val (AV.d (D.sl [Sh.sl tmS] o.snd.snd.snd.fst)), SV.val (AV.d (D.sl ptS o.snd.snd.snd.snd.fst)), SV.val (AV.d (D.str o.snd.snd.snd.snd.snd.fst)), SV.val (AV.d (D.bool o.snd.snd.snd.snd.snd.snd.fst))], SV.val (AV.d (D.sl [Sh.str] out))])) := by kernel_rfl
theorem lokq_leaf_0 : LoopOK T (Ez [] [4, 5] true (Eq_meet)) (Ln (Lq_leaf)) (loopAt 0 (loops (bodyOf Try.f57))) := by
  refine loop_ok (live := [2, 5, 6]) (outs := [2, 5]) (rets := []) (ks := [.box [.v (.int .i64), .v (.sl [.int .i64, .str, .str, .str, .int .i64, .str, .str, .str, .int .i64, .str, .str, .str]), .v (.sl [.str]), .v (.sl [.sl [.int .i64, .str, .str, .str]]), .v (.sl [.int .i64, .int .i64, .str, .str, .str, .str, .int .i64]), .v .str, .v .bool], .v false [.sl [.str]], .v false [.int .i64]]) (G := lgq_leaf_0) (lkq_leaf_0) (lmq_leaf_0) (by kernel_rfl) ?_
  rintro ⟨(o : KCs [.v (.int .i64), .v (.sl [.int .i64, .str, .str, .str, .int .i64, .str, .str, .str, .int .i64, .str, .str, .str]), .v (.sl [.str]), .v (.sl [.sl [.int .i64, .str, .str, .str]]), .v (.sl [.int .i64, .int .i64, .str, .str, .str, .str, .int .i64]), .v .str, .v .bool]), ⟨(out : List (RowE [.str])), _⟩, ⟨(i : Int), _⟩, _⟩ x hok hx
  refine Leads.of_eq (ltq_leaf_0 o out i) ?_
  obtain ⟨h0, h1, h2, h3⟩ := hok
  obtain ⟨m, rfl⟩ := Int.eq_ofNat_of_zero_le h0
  simp only [lgq_leaf_0, Int.toNat_natCast] at hx
  have h1 : (m : Int) ≤ (List.length o.2.1 : Int) := h1
  have h2 : List.length o.2.1 ≤ 32 := h2
  rcases drop_cases o.2.1 m with ⟨hle, hd⟩ | ⟨x1, hlt, hd, hb⟩
  · rw [hd] at hx
    have hle : List.length o.2.1 ≤ m := hle
    exact Leads.brD (fun q => by have q : (m : Int) < (List.length o.2.1 : Int) := q; omega) (fun _ => Leads.one (Goes.out (Out_leaf hx)))
  have hlt : m < List.length o.2.1 := hlt
  rw [hd, tri_cons] at hx
  have c1 : (0 : Int) ≤ (m : Int) ∧ (m : Int) < (List.length o.2.1 : Int) := ⟨by omega, by omega⟩
  rw [getR_of hb, wrap64 (x := (m : Int) + 1) (by omega) (by omega)]
  have hv := varsS_len x1
  have hu := union_len (varsS x1) out
  refine Leads.brD (fun _ => Leads.chk c1 fun _ => Leads.chk (by omega) fun _ => Leads.one ?_) (fun q => absurd c1.2 q)
  refine Goes.again (ks := [.box [.v (.int .i64), .v (.sl [.int .i64, .str, .str, .str, .int .i64, .str, .str, .str, .int .i64, .str, .str, .str]), .v (.sl [.str]), .v (.sl [.sl [.int .i64, .str, .str, .str]]), .v (.sl [.int .i64, .int .i64, .str, .str, .str, .str, .int .i64]), .v .str, .v .bool], .v false [.sl [.str]], .v false [.int .i64]]) (_, (_, ()), (_, ()), ()) rfl ?_ ?_ ?_
  · exact ⟨by omega, by show (m : Int) + 1 ≤ (List.length o.2.1 : Int); omega, h2, by show ((unionL out (varsS x1)).length : Int) ≤ 3 * ((m : Int) + 1); omega⟩
  · show List.length o.2.1 - (m + 1) < List.length o.2.1 - m
    omega
  · simp only [lgq_leaf_0, toNat_add1]; exact hx
theorem ltq_leaf_1 (certain : Bool) (o : KCs [.v (.int .i64), .v (.sl [.int .i64, .str, .str, .str, .int .i64, .str, .str, .str, .int .i64, .str, .str, .str]), .v (.sl [.str]), .v (.sl [.sl [.int .i64, .str, .str, .str]]), .v (.sl [.int .i64, .int .i64, .str, .str, .str, .str, .int .i64]), .v .str, .v .bool]) (out : List (RowE [.str])) (i : Int) : evRound T (Ez [] [4, 5] true (Eq_meet)) (Ln (Lq_leaf)) (loopAt 1 (loops (bodyOf Try.f57))) (lsq_leaf_1) [.val (.d (.bool  certain)), .box true (KCs.svs [.v (.int .i64), .v (.sl [.int .i64, .str, .str, .str, .int .i64, .str, .str, .str, .int .i64, .str, .str, .str]), .v (.sl [.str]), .v (.sl [.sl [.int .i64, .str, .str, .str]]), .v (.sl [.int .i64, .int .i64, .str, .str, .str, .str, .int .i64]), .v .str, .v .bool] o), .val (.d (.sl [.str] out)), .val (.d (.int .i64 i))] =
    br (decide (i < (↑(List.length o.snd.snd.fst) : Int))) (chk (lkq_leaf_2 (o, (i, ()), (false, ()), ((0 : Int), ()), ())) (br (!certain) (chk ((0 : Int) ≤ i ∧ i < (↑(List.length o.snd.snd.fst) : Int)) (chk (out.length ≤ (100000 : Nat)) (some (Rnd.again [SV.val (AV.d (D.bool certain)), SV.box true [SV.val (AV.d (D.int IntKind.i64 o.fst)), SV.val (AV.d (D.sl t3S o.snd.fst)), SV.val (AV.d (D.sl [Sh.str] o.snd.snd.fst)), SV.val (AV.d (D.sl [Sh.sl tmS] o.snd.snd.snd.fst)), SV.val (AV.d (D.sl ptS o.snd.snd.snd.snd.fst)), SV.val (AV.d (D.str o.snd.snd.snd.snd.snd.fst)), SV.val (AV.d (D.bool o.snd.snd.snd.snd.snd.snd.fst))], SV.val (AV.d (D.sl [Sh.str] (moreL out (getR [Sh.str] o.snd.snd.fst i).fst))), SV.val (AV.d (D.int IntKind.i64 (IntKind.i64.wrap (i + (1 : Int)))))])))) (br (!(false || lackR (List.drop (Int.toNat (0 : Int)) o.snd.snd.snd.fst) i.toNat)) (chk ((0 : Int) ≤ i ∧ i < (↑(List.length o.snd.snd.fst) : Int)) (chk (out.length ≤ (100000 : Nat)) (some (Rnd.again [SV.val (AV.d (D.bool certain)), SV.box true [SV.val (AV.d (D.int IntKind.i64 o.fst)), SV.val (AV.d (D.sl t3S o.snd.fst)), SV.val (AV.d (D.sl [Sh.str] o.snd.snd.fst)), SV.val (AV.d (D.sl [Sh.sl tmS] o.snd.snd.snd.fst)), SV.val (AV.d (D.sl ptS o.snd.snd.snd.snd.fst)), SV.val (AV.d (D.str o.snd.snd.snd.snd.snd.fst)), SV.val (AV.d (D.bool o.snd.snd.snd.snd.snd.snd.fst))], SV.val (AV.d (D.sl [Sh.str] (moreL out (getR [Sh.str] o.snd.snd.fst i).fst))), SV.val (AV.d (D.int IntKind.i64 (IntKind.i64.wrap (i + (1 : Int)))))])))) (some (Rnd.again [SV.val (AV.d (D.bool certain)), SV.box true [SV.val (AV.d (D.int IntKind.i64 o.fst)), SV.val (AV.d (D.sl t3S o.snd.fst)), SV.val (AV.d (D.sl [Sh.str] o.snd.snd.fst)), SV.val (AV.d (D.sl [Sh.sl tmS] o.snd.snd.snd.fst)), SV.val (AV.d (D.sl ptS o.snd.snd.snd.snd.fst)), SV.val (AV.d (D.str o.snd.snd.snd.snd.snd.fst)), SV.val (AV.d (D.bool o.snd.snd.snd.snd.snd.snd.fst))], SV.val (AV.d (D.sl [Sh.str] out)), SV.val (AV.d (D.int IntKind.i64 (IntKind.i64.wrap (i + (1 : Int)))))]))))) (some (Rnd.out (Ex.exit (2 : Nat)) [SV.val (AV.d (D.sl [Sh.str] out))])) := by kernel_rfl
theorem lokq_leaf_1 : LoopOK T (Ez [] [4, 5] true (Eq_meet)) (Ln (Lq_leaf)) (loopAt 1 (loops (bodyOf Try.f57))) := by
  refine loop_ok (live := [1, 2, 5, 7]) (outs := [5]) (rets := []) (ks := [.v false [.bool], .box [.v (.int .i64), .v (.sl [.int .i64, .str, .str, .str, .int .i64, .str, .str, .str, .int .i64, .str, .str, .str]), .v (.sl [.str]), .v (.sl [.sl [.int .i64, .str, .str, .str]]), .v (.sl [.int .i64, .int .i64, .str, .str, .str, .str, .int .i64]), .v .str, .v .bool], .v false [.sl [.str]], .v false [.int .i64]]) (G := lgq_leaf_1) (lkq_leaf_1) (lmq_leaf_1) (by kernel_rfl) ?_
  rintro ⟨⟨(certain : Bool), _⟩, (o : KCs [.v (.int .i64), .v (.sl [.int .i64, .str, .str, .str, .int .i64, .str, .str, .str, .int .i64, .str, .str, .str]), .v (.sl [.str]), .v (.sl [.sl [.int .i64, .str, .str, .str]]), .v (.sl [.int .i64, .int .i64, .str, .str, .str, .str, .int .i64]), .v .str, .v .bool]), ⟨(out : List (RowE [.str])), _⟩, ⟨(i : Int), _⟩, _⟩ x hok hx
  refine Leads.of_eq (ltq_leaf_1 certain o out i) ?_
  obtain ⟨h0, h1, h2, h3, h4, h5⟩ := hok
  obtain ⟨m, rfl⟩ := Int.eq_ofNat_of_zero_le h0
  simp only [lgq_leaf_1, Int.toNat_natCast] at hx
  have h1 : (m : Int) ≤ (List.length o.2.2.1 : Int) := h1
  have h2 : List.length o.2.2.1 ≤ 32 := h2
  rcases drop_cases o.2.2.1 m with ⟨hle, hd⟩ | ⟨x1, hlt, hd, hb⟩
  · rw [hd] at hx
    have hle : List.length o.2.2.1 ≤ m := hle
    exact Leads.brD (fun q => by have q : (m : Int) < (List.length o.2.2.1 : Int) := q; omega) (fun _ => Leads.one (Goes.out (Out_leaf hx)))
  have hlt : m < List.length o.2.2.1 := hlt
  rw [hd] at hx
  simp only [colL] at hx
  have c1 : (0 : Int) ≤ (m : Int) ∧ (m : Int) < (List.length o.2.2.1 : Int) := ⟨by omega, by omega⟩
  rw [getR_of hb, wrap64 (x := (m : Int) + 1) (by omega) (by omega)]
  have hm := more_len out x1.1
  have hg : ∀ out' : List (RowE [.str]), (if (!certain || full o.2.2.2.1 m) = true then moreL out x1.1 else out) = out' → out'.length ≤ out.length + 1 → Goes [.v false [.bool], .box [.v (.int .i64), .v (.sl [.int .i64, .str, .str, .str, .int .i64, .str, .str, .str, .int .i64, .str, .str, .str]), .v (.sl [.str]), .v (.sl [.sl [.int .i64, .str, .str, .str]]), .v (.sl [.int .i64, .int .i64, .str, .str, .str, .str, .int .i64]), .v .str, .v .bool], .v false [.sl [.str]], .v false [.int .i64]] lgq_leaf_1 lkq_leaf_1 lmq_leaf_1 ((certain, ()), o, (out, ()), ((m : Int), ()), ()) x (.again (St.svs [.v false [.bool], .box [.v (.int .i64), .v (.sl [.int .i64, .str, .str, .str, .int .i64, .str, .str, .str, .int .i64, .str, .str, .str]), .v (.sl [.str]), .v (.sl [.sl [.int .i64, .str, .str, .str]]), .v (.sl [.int .i64, .int .i64, .str, .str, .str, .str, .int .i64]), .v .str, .v .bool], .v false [.sl [.str]], .v false [.int .i64]] ((certain, ()), o, (out', ()), ((m : Int) + 1, ()), ()))) := fun out' e hl => by
    rw [e] at hx
    refine Goes.again (ks := [.v false [.bool], .box [.v (.int .i64), .v (.sl [.int .i64, .str, .str, .str, .int .i64, .str, .str, .str, .int .i64, .str, .str, .str]), .v (.sl [.str]), .v (.sl [.sl [.int .i64, .str, .str, .str]]), .v (.sl [.int .i64, .int .i64, .str, .str, .str, .str, .int .i64]), .v .str, .v .bool], .v false [.sl [.str]], .v false [.int .i64]]) _ rfl ?_ ?_ ?_
    · exact ⟨by omega, by show (m : Int) + 1 ≤ (List.length o.2.2.1 : Int); omega, h2, by omega, h4, h5⟩
    · show List.length o.2.2.1 - (m + 1) < List.length o.2.2.1 - m
      omega
    · simp only [lgq_leaf_1, toNat_add1]; exact hx
  have hlk : (false || lackR (List.drop (Int.toNat 0) o.2.2.2.1) (m : Int).toNat) = !(full o.2.2.2.1 m) := by
    rw [Bool.false_or, Int.toNat_natCast]; exact lack_full _ _
  refine Leads.brD (fun _ => Leads.chk ⟨by omega, by show (0 : Int) ≤ (List.length o.2.2.2.1 : Int); omega, c1.1, c1.2, h4, h5⟩ fun _ => Leads.br (fun e => Leads.chk c1 fun _ => Leads.chk (by omega) fun _ => Leads.one (hg _ ?_ hm)) (fun e => Leads.br (fun w => Leads.chk c1 fun _ => Leads.chk (by omega) fun _ => Leads.one (hg _ ?_ hm)) (fun w => Leads.one (hg _ ?_ (Nat.le_succ _))))) (fun q => absurd c1.2 q)
  · rw [show (!certain) = true from e, Bool.true_or, if_pos rfl]; rfl
  · have w : (!(false || lackR (List.drop (Int.toNat 0) o.2.2.2.1) (m : Int).toNat)) = true := w
    rw [hlk] at w
    have w : full o.2.2.2.1 m = true := by simpa using w
    rw [w, Bool.or_true, if_pos rfl]; rfl
  · have w : (!(false || lackR (List.drop (Int.toNat 0) o.2.2.2.1) (m : Int).toNat)) = false := w
    rw [hlk] at w
    have w : full o.2.2.2.1 m = false := by simpa using w
    rw [w, show (!certain) = false from e, Bool.or_false, if_neg (by simp)]
theorem ltq_leaf_2 (o : KCs [.v (.int .i64), .v (.sl [.int .i64, .str, .str, .str, .int .i64, .str, .str, .str, .int .i64, .str, .str, .str]), .v (.sl [.str]), .v (.sl [.sl [.int .i64, .str, .str, .str]]), .v (.sl [.int .i64, .int .i64, .str, .str, .str, .str, .int .i64]), .v .str, .v .bool]) (i : Int) (lacks : Bool) (k : Int) : evRound T (Ez [] [4, 5] true (Eq_meet)) (Ln (Lq_leaf)) (loopAt 2 (loops (bodyOf Try.f57))) (lsq_leaf_2) [.box true (KCs.svs [.v (.int .i64), .v (.sl [.int .i64, .str, .str, .str, .int .i64, .str, .str, .str, .int .i64, .str, .str, .str]), .v (.sl [.str]), .v (.sl [.sl [.int .i64, .str, .str, .str]]), .v (.sl [.int .i64, .int .i64, .str, .str, .str, .str, .int .i64]), .v .str, .v .bool] o), .val (.d (.int .i64 i)), .val (.d (.bool  lacks)), .val (.d (.int .i64 k))] =
    br (decide (k < (↑(List.length o.snd.snd.snd.fst) : Int))) (br lacks (some (Rnd.again [SV.box true [SV.val (AV.d (D.int IntKind.i64 o.fst)), SV.val (AV.d (D.sl t3S o.snd.fst)), SV.val (AV.d (D.sl [Sh.str] o.snd.snd.fst)), SV.val (AV.d (D.sl [Sh.sl tmS] o.snd.snd.snd.fst)), SV.val (AV.d (D.sl ptS o.snd.snd.snd.snd.fst)), SV.val (AV.d (D.str o.snd.snd.snd.snd.snd.fst)), SV.val (AV.d (D.bool o.snd.snd.snd.snd.snd.snd.fst))], SV.val (AV.d (D.int IntKind.i64 i)), SV.val (AV.d (D.bool true)), SV.val (AV.d (D.int IntKind.i64 (IntKind.i64.wrap (k + (1 : Int)))))])) (chk ((0 : Int) ≤ k ∧ k < (↑(List.length o.snd.snd.snd.fst) : Int)) (chk ((0 : Int) ≤ i ∧ i < (↑(List.length (getR [Sh.sl tmS] o.snd.snd.snd.fst k).fst) : Int)) (some (Rnd.again [SV.box true [SV.val (AV.d (D.int IntKind.i64 o.fst)), SV.val (AV.d (D.sl t3S o.snd.fst)), SV.val (AV.d (D.sl [Sh.str] o.snd.snd.fst)), SV.val (AV.d (D.sl [Sh.sl tmS] o.snd.snd.snd.fst)), SV.val (AV.d (D.sl ptS o.snd.snd.snd.snd.fst)), SV.val (AV.d (D.str o.snd.snd.snd.snd.snd.fst)), SV.val (AV.d (D.bool o.snd.snd.snd.snd.snd.snd.fst))], SV.val (AV.d (D.int IntKind.i64 i)), SV.val (AV.d (D.bool ((getR tmS (getR [Sh.sl tmS] o.snd.snd.snd.fst k).fst i).fst == (0 : Int)))), SV.val (AV.d (D.int IntKind.i64 (IntKind.i64.wrap (k + (1 : Int)))))]))))) (some (Rnd.out (Ex.exit (4 : Nat)) [SV.box true [SV.val (AV.d (D.int IntKind.i64 o.fst)), SV.val (AV.d (D.sl t3S o.snd.fst)), SV.val (AV.d (D.sl [Sh.str] o.snd.snd.fst)), SV.val (AV.d (D.sl [Sh.sl tmS] o.snd.snd.snd.fst)), SV.val (AV.d (D.sl ptS o.snd.snd.snd.snd.fst)), SV.val (AV.d (D.str o.snd.snd.snd.snd.snd.fst)), SV.val (AV.d (D.bool o.snd.snd.snd.snd.snd.snd.fst))], SV.val (AV.d (D.int IntKind.i64 i)), SV.val (AV.d (D.bool lacks))])) := by kernel_rfl
theorem lokq_leaf_2 : LoopOK T (Ez [] [4, 5] true (Eq_meet)) (Ln (Lq_leaf)) (loopAt 2 (loops (bodyOf Try.f57))) := by
  refine loop_ok (live := [2, 7, 8, 9]) (outs := [2, 7, 8]) (rets := []) (ks := [.box [.v (.int .i64), .v (.sl [.int .i64, .str, .str, .str, .int .i64, .str, .str, .str, .int .i64, .str, .str, .str]), .v (.sl [.str]), .v (.sl [.sl [.int .i64, .str, .str, .str]]), .v (.sl [.int .i64, .int .i64, .str, .str, .str, .str, .int .i64]), .v .str, .v .bool], .v false [.int .i64], .v false [.bool], .v false [.int .i64]]) (G := lgq_leaf_2) (lkq_leaf_2) (lmq_leaf_2) (by kernel_rfl) ?_
  rintro ⟨(o : KCs [.v (.int .i64), .v (.sl [.int .i64, .str, .str, .str, .int .i64, .str, .str, .str, .int .i64, .str, .str, .str]), .v (.sl [.str]), .v (.sl [.sl [.int .i64, .str, .str, .str]]), .v (.sl [.int .i64, .int .i64, .str, .str, .str, .str, .int .i64]), .v .str, .v .bool]), ⟨(i : Int), _⟩, ⟨(lacks : Bool), _⟩, ⟨(k : Int), _⟩, _⟩ x hok hx
  refine Leads.of_eq (ltq_leaf_2 o i lacks k) ?_
  obtain ⟨h0, h1, g0, g1, h2, h3⟩ := hok
  obtain ⟨m, rfl⟩ := Int.eq_ofNat_of_zero_le h0
  obtain ⟨p, rfl⟩ := Int.eq_ofNat_of_zero_le g0
  simp only [lgq_leaf_2, Int.toNat_natCast] at hx
  have h1 : (m : Int) ≤ (List.length o.2.2.2.1 : Int) := h1
  have h2 : List.length o.2.2.2.1 ≤ 140737488355328 := h2
  rcases drop_cases o.2.2.2.1 m with ⟨hle, hd⟩ | ⟨x1, hlt, hd, hb⟩
  · rw [hd] at hx
    have hle : List.length o.2.2.2.1 ≤ m := hle
    have hx := Out_leaf hx
    have hn : (lacks || lackR [] p) = lacks := Bool.or_false _
    rw [hn] at hx
    exact Leads.brD (fun q => by have q : (m : Int) < (List.length o.2.2.2.1 : Int) := q; omega) (fun _ => Leads.one (Goes.out hx))
  have hlt : m < List.length o.2.2.2.1 := hlt
  rw [hd] at hx
  have hr : List.length x1.1 = List.length o.2.2.1 := h3 x1 (List.mem_of_getElem? hb)
  have c1 : (0 : Int) ≤ (m : Int) ∧ (m : Int) < (List.length o.2.2.2.1 : Int) := ⟨by omega, by omega⟩
  rw [wrap64 (x := (m : Int) + 1) (by omega) (by omega)]
  have el : lackR (x1 :: List.drop (m + 1) o.2.2.2.1) p = (decide ((getR [.int .i64, .str, .str, .str] x1.1 (p : Int)).1 = 0) || lackR (List.drop (m + 1) o.2.2.2.1) p) := rfl
  rw [el] at hx
  have hok' : lkq_leaf_2 (o, ((p : Int), ()), (lacks, ()), ((m : Int) + 1, ()), ()) := ⟨by omega, by show (m : Int) + 1 ≤ (List.length o.2.2.2.1 : Int); omega, by omega, g1, h2, h3⟩
  cases lacks
  · refine Leads.brD (fun _ => Leads.br (fun q => by cases q) (fun _ => Leads.chk c1 fun _ => Leads.chk ?_ fun _ => Leads.one ?_)) (fun q => absurd c1.2 q)
    · rw [getR_of hb]
      exact ⟨by omega, by show (p : Int) < (List.length x1.1 : Int); rw [hr]; exact g1⟩
    · rw [getR_of hb]
      refine Goes.again (ks := [.box [.v (.int .i64), .v (.sl [.int .i64, .str, .str, .str, .int .i64, .str, .str, .str, .int .i64, .str, .str, .str]), .v (.sl [.str]), .v (.sl [.sl [.int .i64, .str, .str, .str]]), .v (.sl [.int .i64, .int .i64, .str, .str, .str, .str, .int .i64]), .v .str, .v .bool], .v false [.int .i64], .v false [.bool], .v false [.int .i64]]) (_, (_, ()), (_, ()), (_, ()), ()) rfl ?_ ?_ ?_
      · exact hok'
      · show List.length o.2.2.2.1 - (m + 1) < List.length o.2.2.2.1 - m
        omega
      · simp only [lgq_leaf_2, toNat_add1, Int.toNat_natCast]
        have eb : ((getR tmS x1.1 (p : Int)).1 == 0) = decide ((getR [.int .i64, .str, .str, .str] x1.1 (p : Int)).1 = 0) := by
          refine bool_ext ?_
          rw [beq_iff_eq, decide_eq_true_eq]
        rw [eb]
        rw [Bool.false_or] at hx; exact hx
  · refine Leads.brD (fun _ => Leads.br (fun _ => Leads.one ?_) (fun q => by cases q)) (fun q => absurd c1.2 q)
    refine Goes.again (ks := [.box [.v (.int .i64), .v (.sl [.int .i64, .str, .str, .str, .int .i64, .str, .str, .str, .int .i64, .str, .str, .str]), .v (.sl [.str]), .v (.sl [.sl [.int .i64, .str, .str, .str]]), .v (.sl [.int .i64, .int .i64, .str, .str, .str, .str, .int .i64]), .v .str, .v .bool], .v false [.int .i64], .v false [.bool], .v false [.int .i64]]) (_, (_, ()), (_, ()), (_, ()), ()) rfl ?_ ?_ ?_
    · exact hok'
    · show List.length o.2.2.2.1 - (m + 1) < List.length o.2.2.2.1 - m
      omega
    · simp only [lgq_leaf_2, toNat_add1, Int.toNat_natCast]
      exact hx
theorem tq_leaf (o : RowE opS) (certain : Bool) : evF T (Ez [] [4, 5] true (Eq_meet)) (Ln (Lq_leaf)) Try.f57 [.agg (rowD opS o), .d (.bool certain)] =
    chk (lkq_leaf_0 (o, ([], ()), ((0 : Int), ()), ())) (chk (lkq_leaf_1 ((certain, ()), o, (triL7 (List.drop (Int.toNat (0 : Int)) o.snd.fst) [], ()), ((0 : Int), ()), ())) (some (SV.val (AV.d (D.sl [Sh.str] (colL o.snd.snd.snd.fst certain (Int.toNat (0 : Int)) (List.drop (Int.toNat (0 : Int)) o.snd.snd.fst) (triL7 (List.drop (Int.toNat (0 : Int)) o.snd.fst) []))))))) := by kernel_rfl
theorem satq_leaf : Sat P 57 (Sq_leaf) := by
  refine sat_mk (LT := Ln (Lq_leaf)) hC (SatE.ez okq_meet) mixed Try.func57 (by kernel_rfl) (c := bodyOf Try.f57) (by kernel_rfl) (by kernel_rfl) ?_ (loops3 (by kernel_rfl) (lokq_leaf_0) (lokq_leaf_1) (lokq_leaf_2))
  rintro ⟨(o : RowE opS), ⟨(certain : Bool), _⟩, _⟩ sv h
  refine Leads.eq (Leads.of_eq (tq_leaf o certain) ?_)
  obtain ⟨⟨ho, hr, h0⟩, h⟩ := h
  obtain rfl := Out_leaf h
  obtain ⟨r1, r2⟩ := right_small hr
  have hf := right_full hr
  have ht := tri_len o.2.1 []
  rw [List.length_nil, Nat.zero_add] at ht
  have r1 : List.length o.2.1 ≤ 32 := r1
  have r2 : List.length o.2.2.1 ≤ 32 := r2
  refine Leads.chk ⟨by omega, by show (0 : Int) ≤ (List.length o.2.1 : Int); omega, r1, by simp only [List.length_nil]; omega⟩ fun _ => Leads.chk ⟨by omega, by show (0 : Int) ≤ (List.length o.2.2.1 : Int); omega, r2, ?_, ho.2.2.1.1, hf⟩ fun _ => Leads.one rfl
  show ((triL7 o.2.1 []).length : Int) ≤ 96 + 0
  have ht : (triL7 o.2.1 []).length ≤ 3 * List.length o.2.1 := ht
  omega
def Eq_leaf : Es := (57, (Sq_leaf)) :: Eq_meet
theorem okq_leaf : SatE P (En (Eq_leaf)) := SatE.cons (satq_leaf) okq_meet
end Go.Proofs.Ytfpojhphmgnfhaa.T7
