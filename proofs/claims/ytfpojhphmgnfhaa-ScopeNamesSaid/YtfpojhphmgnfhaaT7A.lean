/- Part of a proof of the seat's statements: no statement by itself. -/
import Derived.Test.YtfpojhphmgnfhaaQ7J
import Derived.Test.YtfpojhphmgnfhaaSvA
set_option maxRecDepth 100000
open Go.Proofs.Ytfpojhphmgnfhaa.Lg Go Go.Proofs.Ytfpojhphmgnfhaa.Sp
open Go.Proofs
namespace Go.Proofs.Ytfpojhphmgnfhaa.T7


/-! ### legation/scope.Needs -/
def Ls_Needs : Ls := []
def Ss_Needs := mkS [(true, opS)] fun ⟨(o : RowE opS), _⟩ => .leaf (.val (.d (.int .i64 (needsK o.1))))
theorem ts_Needs (o : RowE opS) : evF T (Ep (Er_Check)) (Ln (Ls_Needs)) Try.f10 [.agg (rowD opS o)] =
    br (o.fst == (1 : Int)) (some (SV.val (AV.d (D.int IntKind.i64 (0 : Int))))) (br (o.fst == (2 : Int)) (some (SV.val (AV.d (D.int IntKind.i64 (0 : Int))))) (br (o.fst == (7 : Int)) (some (SV.val (AV.d (D.int IntKind.i64 (1 : Int))))) (br (o.fst == (8 : Int)) (some (SV.val (AV.d (D.int IntKind.i64 (1 : Int))))) (br (o.fst == (9 : Int)) (some (SV.val (AV.d (D.int IntKind.i64 (1 : Int))))) (br (o.fst == (3 : Int)) (some (SV.val (AV.d (D.int IntKind.i64 (2 : Int))))) (br (o.fst == (4 : Int)) (some (SV.val (AV.d (D.int IntKind.i64 (2 : Int))))) (br (o.fst == (5 : Int)) (some (SV.val (AV.d (D.int IntKind.i64 (2 : Int))))) (br (o.fst == (6 : Int)) (some (SV.val (AV.d (D.int IntKind.i64 (2 : Int))))) (some (SV.val (AV.d (D.int IntKind.i64 (-1 : Int))))))))))))) := by kernel_rfl
theorem sats_Needs : Sat P 10 (Ss_Needs) := by
  refine sat_mk (LT := Ln (Ls_Needs)) hC (SatE.ep okr_Check) mixed Try.func10 (by kernel_rfl) (c := bodyOf Try.f10) (by kernel_rfl) (by kernel_rfl) ?_ (loops0 (by kernel_rfl))
  rintro ⟨(o : RowE opS), _⟩ sv h
  refine Leads.eq (Leads.of_eq (ts_Needs o) ?_)
  obtain rfl := Out_leaf h
  have key : ∀ n, needsK o.1 = n → Leads (some (SV.val (.d (.int .i64 n))) : Option SV) fun z => z = SV.val (.d (.int .i64 (needsK o.1))) := fun n e => by rw [e]; exact Leads.one rfl
  repeat' (first | refine Leads.brD (fun _ => ?_) (fun _ => ?_) | refine Leads.brE (fun _ => ?_) (fun _ => ?_) | refine Leads.brN (fun _ => ?_) (fun _ => ?_) | refine Leads.brM (fun _ => ?_) (fun _ => ?_) | refine Leads.brG (fun _ => ?_) (fun _ => ?_) | refine Leads.br (fun _ => ?_) (fun _ => ?_) | refine Leads.chk ?_ (fun _ => ?_) | refine Leads.one ?_ | refine Leads.brP (fun _ => ?_) (fun _ => ?_))
  all_goals (first | rfl | (refine congrArg (fun n : Int => SV.val (.d (.int .i64 n))) ?_; unfold needsK; simp_all))
def Es_Needs : Es := (10, (Ss_Needs)) :: Er_Check
theorem oks_Needs : SatE P (En (Es_Needs)) := SatE.cons (sats_Needs) okr_Check
/-! ### legation/scope.basic -/
def lks_basic_0 : St [.v false [.sl [.int .i64, .str, .str, .str, .int .i64, .str, .str, .str, .int .i64, .str, .str, .str]], .v false [.int .i64], .v false [.int .i64]] → Prop := fun ⟨⟨(x5 : List (RowE [.int .i64, .str, .str, .str, .int .i64, .str, .str, .str, .int .i64, .str, .str, .str])), _⟩, ⟨(x6 : Int), _⟩, ⟨(x7 : Int), _⟩, _⟩ => 0 ≤ x7 ∧ x7 ≤ x6 ∧ x6 = (x5.length : Int) ∧ x5.length ≤ 140737488355328 ∧ ∀ t ∈ x5, sz3 140737488355328 t
def lgs_basic_0 : St [.v false [.sl [.int .i64, .str, .str, .str, .int .i64, .str, .str, .str, .int .i64, .str, .str, .str]], .v false [.int .i64], .v false [.int .i64]] → Tr (Ex × List SV) := fun ⟨⟨(x5 : List (RowE [.int .i64, .str, .str, .str, .int .i64, .str, .str, .str, .int .i64, .str, .str, .str])), _⟩, ⟨(x6 : Int), _⟩, ⟨(x7 : Int), _⟩, _⟩ => .br ((x5.drop x7.toNat).all pat) (.leaf (.exit 0, [])) (.leaf (.ret, [.val (.d (.bool  (false)))]))
def lms_basic_0 : St [.v false [.sl [.int .i64, .str, .str, .str, .int .i64, .str, .str, .str, .int .i64, .str, .str, .str]], .v false [.int .i64], .v false [.int .i64]] → Nat := fun ⟨⟨(x5 : List (RowE [.int .i64, .str, .str, .str, .int .i64, .str, .str, .str, .int .i64, .str, .str, .str])), _⟩, ⟨(x6 : Int), _⟩, ⟨(x7 : Int), _⟩, _⟩ => x5.length - x7.toNat
def lss_basic_0 : LoopS := mkR [5, 6, 7] [] [2] [.v false [.sl [.int .i64, .str, .str, .str, .int .i64, .str, .str, .str, .int .i64, .str, .str, .str]], .v false [.int .i64], .v false [.int .i64]] (fun r => .chk (lks_basic_0 r) (lgs_basic_0 r))
def Ls_basic : Ls := [(2, lss_basic_0)]
def Ss_basic := mkS [(false, [.sl [.int .i64, .str, .str, .str, .int .i64, .str, .str, .str, .int .i64, .str, .str, .str]])] fun ⟨⟨(l : List (RowE [.int .i64, .str, .str, .str, .int .i64, .str, .str, .str, .int .i64, .str, .str, .str])), _⟩, _⟩ => .chk (sz3L l) (bl (basicS l))
theorem lts_basic_0 (x5 : List (RowE [.int .i64, .str, .str, .str, .int .i64, .str, .str, .str, .int .i64, .str, .str, .str])) (x6 : Int) (x7 : Int) : evRound T (Ep (Es_Needs)) (Ln (Ls_basic)) (loopAt 0 (loops (bodyOf Try.f24))) (lss_basic_0) [.val (.d (.sl [.int .i64, .str, .str, .str, .int .i64, .str, .str, .str, .int .i64, .str, .str, .str] x5)), .val (.d (.int .i64 x6)), .val (.d (.int .i64 x7))] =
    br (decide (x7 < x6)) (chk ((0 : Int) ≤ x7 ∧ x7 < (↑x5.length : Int)) (chk (sz3 (140737488355328 : Nat) (getR t3S x5 x7)) (br ((if pat (getR t3S x5 x7) = true then (0 : Int) else (2 : Int)) != (0 : Int)) (some (Rnd.out Ex.ret [SV.val (AV.d (D.bool false))])) (some (Rnd.again [SV.val (AV.d (D.sl t3S x5)), SV.val (AV.d (D.int IntKind.i64 x6)), SV.val (AV.d (D.int IntKind.i64 (IntKind.i64.wrap (x7 + (1 : Int)))))]))))) (some (Rnd.out (Ex.exit (0 : Nat)) [])) := by kernel_rfl
theorem loks_basic_0 : LoopOK T (Ep (Es_Needs)) (Ln (Ls_basic)) (loopAt 0 (loops (bodyOf Try.f24))) := by
  refine loop_ok (live := [5, 6, 7]) (outs := []) (rets := [2]) (ks := [.v false [.sl [.int .i64, .str, .str, .str, .int .i64, .str, .str, .str, .int .i64, .str, .str, .str]], .v false [.int .i64], .v false [.int .i64]]) (G := lgs_basic_0) (lks_basic_0) (lms_basic_0) (by kernel_rfl) ?_
  rintro ⟨⟨(x5 : List (RowE [.int .i64, .str, .str, .str, .int .i64, .str, .str, .str, .int .i64, .str, .str, .str])), _⟩, ⟨(x6 : Int), _⟩, ⟨(x7 : Int), _⟩, _⟩ x hok hx
  refine Leads.of_eq (lts_basic_0 x5 x6 x7) ?_
  obtain ⟨h0, h1, h2, h3, h4⟩ := hok
  obtain ⟨m, rfl⟩ := Int.eq_ofNat_of_zero_le h0
  simp only [lgs_basic_0, Int.toNat_natCast] at hx
  rcases drop_cases x5 m with ⟨hle, hd⟩ | ⟨x1, hlt, hd, hb⟩
  · rw [hd] at hx
    exact Leads.brD (fun q => by omega) (fun _ => Leads.one (Goes.out (Out_leaf (Out_tt hx))))
  rw [hd, List.all_cons] at hx
  rw [getR_of hb, wrap64 (by omega) (by omega)]
  refine Leads.brD (fun _ => Leads.chk (by omega) fun _ => Leads.chk (h4 x1 (List.mem_of_getElem? hb)) fun _ => Leads.brN (fun e => Leads.one ?_) (fun e => Leads.one (Goes.out ?_))) (fun q => by omega)
  · have hp : pat x1 = true := by
      cases hp : pat x1
      · simp [hp] at e
      · rfl
    rw [hp, Bool.true_and] at hx
    refine Goes.again (ks := [.v false [.sl [.int .i64, .str, .str, .str, .int .i64, .str, .str, .str, .int .i64, .str, .str, .str]], .v false [.int .i64], .v false [.int .i64]]) ((_, ()), (_, ()), (_, ()), ()) rfl ?_ ?_ ?_
    · exact ⟨by omega, by omega, h2, h3, h4⟩
    · simp only [lms_basic_0]; omega
    · simp only [lgs_basic_0, toNat_add1]; exact hx
  · have hp : pat x1 = false := by
      cases hp : pat x1
      · rfl
      · simp [hp] at e
    rw [hp, Bool.false_and] at hx
    exact Out_leaf (Out_ff hx)
theorem ts_basic (l : List (RowE [.int .i64, .str, .str, .str, .int .i64, .str, .str, .str, .int .i64, .str, .str, .str])) : evF T (Ep (Es_Needs)) (Ln (Ls_basic)) Try.f24 [.d (.sl [.int .i64, .str, .str, .str, .int .i64, .str, .str, .str, .int .i64, .str, .str, .str] l)] =
    chk (lks_basic_0 ((l, ()), ((↑l.length : Int), ()), ((0 : Int), ()), ())) (br ((List.drop (Int.toNat (0 : Int)) l).all pat) (some (SV.val (AV.d (D.bool (decide ((↑l.length : Int) ≤ (32 : Int))))))) (some (SV.val (AV.d (D.bool false))))) := by kernel_rfl
theorem sats_basic : Sat P 24 (Ss_basic) := by
  refine sat_mk (LT := Ln (Ls_basic)) hC (SatE.ep oks_Needs) mixed Try.func24 (by kernel_rfl) (c := bodyOf Try.f24) (by kernel_rfl) (by kernel_rfl) ?_ (loops1 (by kernel_rfl) (loks_basic_0))
  rintro ⟨⟨(l : List (RowE [.int .i64, .str, .str, .str, .int .i64, .str, .str, .str, .int .i64, .str, .str, .str])), _⟩, _⟩ sv h
  refine Leads.eq (Leads.of_eq (ts_basic l) ?_)
  obtain ⟨⟨h0, h1⟩, h⟩ := h
  have h := Out_leaf h
  have h0 : l.length ≤ 140737488355328 := h0
  refine Leads.chk ⟨by omega, by omega, rfl, h0, h1⟩ fun _ => Leads.br (fun z => Leads.one ?_) (fun z => Leads.one ?_)
  · have z : l.all pat = true := z
    rw [h, basicS, z, Bool.true_and]
    refine congrArg (fun b => SV.val (.d (.bool b))) (decide_eq_decide.2 ?_)
    omega
  · have z : l.all pat = false := z
    rw [h, basicS, z]; rfl
def Es_basic : Es := (24, (Ss_basic)) :: Es_Needs
theorem oks_basic : SatE P (En (Es_basic)) := SatE.cons (sats_basic) oks_Needs
/-! ### legation/scope.table -/
def lks_table_0 : St [.box [.v (.sl [.str]), .v (.sl [.sl [.int .i64, .str, .str, .str]])], .v false [.sl [.str]], .v false [.int .i64], .v false [.int .i64]] → Prop := fun ⟨(t : KCs [.v (.sl [.str]), .v (.sl [.sl [.int .i64, .str, .str, .str]])]), ⟨(x20 : List (RowE [.str])), _⟩, ⟨(x21 : Int), _⟩, ⟨(x22 : Int), _⟩, _⟩ => x20 = t.1 ∧ 0 ≤ x22 ∧ x22 ≤ x21 ∧ x21 = (x20.length : Int) ∧ x20.length ≤ 140737488355328 ∧ ∀ v ∈ x20, (v.1 : List UInt8).length ≤ 140737488355328
def lgs_table_0 : St [.box [.v (.sl [.str]), .v (.sl [.sl [.int .i64, .str, .str, .str]])], .v false [.sl [.str]], .v false [.int .i64], .v false [.int .i64]] → Tr (Ex × List SV) := fun ⟨(t : KCs [.v (.sl [.str]), .v (.sl [.sl [.int .i64, .str, .str, .str]])]), ⟨(x20 : List (RowE [.str])), _⟩, ⟨(x21 : Int), _⟩, ⟨(x22 : Int), _⟩, _⟩ => .br (namesS (x20.take x22.toNat) (x20.drop x22.toNat)) (.leaf (.exit 0, [.box true (KCs.svs [.v (.sl [.str]), .v (.sl [.sl [.int .i64, .str, .str, .str]])] (t))])) (.leaf (.ret, [.val (.d (.bool  (false)))]))
def lms_table_0 : St [.box [.v (.sl [.str]), .v (.sl [.sl [.int .i64, .str, .str, .str]])], .v false [.sl [.str]], .v false [.int .i64], .v false [.int .i64]] → Nat := fun ⟨(t : KCs [.v (.sl [.str]), .v (.sl [.sl [.int .i64, .str, .str, .str]])]), ⟨(x20 : List (RowE [.str])), _⟩, ⟨(x21 : Int), _⟩, ⟨(x22 : Int), _⟩, _⟩ => x20.length - x22.toNat
def lss_table_0 : LoopS := mkR [1, 20, 21, 22] [1] [2] [.box [.v (.sl [.str]), .v (.sl [.sl [.int .i64, .str, .str, .str]])], .v false [.sl [.str]], .v false [.int .i64], .v false [.int .i64]] (fun r => .chk (lks_table_0 r) (lgs_table_0 r))
def lks_table_1 : St [.box [.v (.sl [.str]), .v (.sl [.sl [.int .i64, .str, .str, .str]])], .v false [.sl [.sl [.int .i64, .str, .str, .str]]], .v false [.int .i64], .v false [.int .i64]] → Prop := fun ⟨(t : KCs [.v (.sl [.str]), .v (.sl [.sl [.int .i64, .str, .str, .str]])]), ⟨(x40 : List (RowE [.sl [.int .i64, .str, .str, .str]])), _⟩, ⟨(x41 : Int), _⟩, ⟨(x42 : Int), _⟩, _⟩ => 0 ≤ x42 ∧ x42 ≤ x41 ∧ x41 = (x40.length : Int) ∧ x40.length ≤ 140737488355328 ∧ szR x40 ∧ List.length t.1 ≤ 140737488355328
def lgs_table_1 : St [.box [.v (.sl [.str]), .v (.sl [.sl [.int .i64, .str, .str, .str]])], .v false [.sl [.sl [.int .i64, .str, .str, .str]]], .v false [.int .i64], .v false [.int .i64]] → Tr (Ex × List SV) := fun ⟨(t : KCs [.v (.sl [.str]), .v (.sl [.sl [.int .i64, .str, .str, .str]])]), ⟨(x40 : List (RowE [.sl [.int .i64, .str, .str, .str]])), _⟩, ⟨(x41 : Int), _⟩, ⟨(x42 : Int), _⟩, _⟩ => .br ((x40.drop x42.toNat).all (rowS (List.length t.1))) (.leaf (.exit 2, [])) (.leaf (.ret, [.val (.d (.bool  (false)))]))
def lms_table_1 : St [.box [.v (.sl [.str]), .v (.sl [.sl [.int .i64, .str, .str, .str]])], .v false [.sl [.sl [.int .i64, .str, .str, .str]]], .v false [.int .i64], .v false [.int .i64]] → Nat := fun ⟨(t : KCs [.v (.sl [.str]), .v (.sl [.sl [.int .i64, .str, .str, .str]])]), ⟨(x40 : List (RowE [.sl [.int .i64, .str, .str, .str]])), _⟩, ⟨(x41 : Int), _⟩, ⟨(x42 : Int), _⟩, _⟩ => x40.length - x42.toNat
def lss_table_1 : LoopS := mkR [1, 40, 41, 42] [] [2] [.box [.v (.sl [.str]), .v (.sl [.sl [.int .i64, .str, .str, .str]])], .v false [.sl [.sl [.int .i64, .str, .str, .str]]], .v false [.int .i64], .v false [.int .i64]] (fun r => .chk (lks_table_1 r) (lgs_table_1 r))
def lks_table_2 : St [.v false [.sl [.int .i64, .str, .str, .str]], .v false [.int .i64], .v false [.int .i64]] → Prop := fun ⟨⟨(x52 : List (RowE [.int .i64, .str, .str, .str])), _⟩, ⟨(x53 : Int), _⟩, ⟨(x54 : Int), _⟩, _⟩ => 0 ≤ x54 ∧ x54 ≤ x53 ∧ x53 = (x52.length : Int) ∧ x52.length ≤ 140737488355328 ∧ ∀ t ∈ x52, szT t
def lgs_table_2 : St [.v false [.sl [.int .i64, .str, .str, .str]], .v false [.int .i64], .v false [.int .i64]] → Tr (Ex × List SV) := fun ⟨⟨(x52 : List (RowE [.int .i64, .str, .str, .str])), _⟩, ⟨(x53 : Int), _⟩, ⟨(x54 : Int), _⟩, _⟩ => .br ((x52.drop x54.toNat).all fun t => valT t) (.leaf (.exit 4, [])) (.leaf (.ret, [.val (.d (.bool  (false)))]))
def lms_table_2 : St [.v false [.sl [.int .i64, .str, .str, .str]], .v false [.int .i64], .v false [.int .i64]] → Nat := fun ⟨⟨(x52 : List (RowE [.int .i64, .str, .str, .str])), _⟩, ⟨(x53 : Int), _⟩, ⟨(x54 : Int), _⟩, _⟩ => x52.length - x54.toNat
def lss_table_2 : LoopS := mkR [52, 53, 54] [] [2] [.v false [.sl [.int .i64, .str, .str, .str]], .v false [.int .i64], .v false [.int .i64]] (fun r => .chk (lks_table_2 r) (lgs_table_2 r))
def Ls_table : Ls := [(4, lss_table_0), (10, lss_table_1), (15, lss_table_2)]
def Ss_table := mkS [(true, tbS)] fun ⟨(t : RowE tbS), _⟩ => .chk (szV t.1 ∧ szR t.2.1) (bl (tableS t.1 t.2.1))
theorem lts_table_0 (t : KCs [.v (.sl [.str]), .v (.sl [.sl [.int .i64, .str, .str, .str]])]) (x20 : List (RowE [.str])) (x21 : Int) (x22 : Int) : evRound T (Ep (Es_basic)) (Ln (Ls_table)) (loopAt 0 (loops (bodyOf Try.f25))) (lss_table_0) [.box true (KCs.svs [.v (.sl [.str]), .v (.sl [.sl [.int .i64, .str, .str, .str]])] t), .val (.d (.sl [.str] x20)), .val (.d (.int .i64 x21)), .val (.d (.int .i64 x22))] =
    br (decide (x22 < x21)) (chk ((0 : Int) ≤ x22 ∧ x22 < (↑x20.length : Int)) (chk (List.length (getR [Sh.str] x20 x22).fst ≤ Big) (br (!isName (getR [Sh.str] x20 x22).fst) (some (Rnd.out Ex.ret [SV.val (AV.d (D.bool false))])) (chk ((0 : Int) ≤ x22 ∧ x22 ≤ (↑(List.length t.fst) : Int)) (chk ((List.take x22.toNat t.fst).length ≤ (140737488355328 : Nat)) (br (hasS (List.take x22.toNat t.fst) (getR [Sh.str] x20 x22).fst) (some (Rnd.out Ex.ret [SV.val (AV.d (D.bool false))])) (some (Rnd.again [SV.box true [SV.val (AV.d (D.sl [Sh.str] t.fst)), SV.val (AV.d (D.sl [Sh.sl tmS] t.snd.fst))], SV.val (AV.d (D.sl [Sh.str] x20)), SV.val (AV.d (D.int IntKind.i64 x21)), SV.val (AV.d (D.int IntKind.i64 (IntKind.i64.wrap (x22 + (1 : Int)))))])))))))) (some (Rnd.out (Ex.exit (0 : Nat)) [SV.box true [SV.val (AV.d (D.sl [Sh.str] t.fst)), SV.val (AV.d (D.sl [Sh.sl tmS] t.snd.fst))]])) := by kernel_rfl
theorem loks_table_0 : LoopOK T (Ep (Es_basic)) (Ln (Ls_table)) (loopAt 0 (loops (bodyOf Try.f25))) := by
  refine loop_ok (live := [1, 20, 21, 22]) (outs := [1]) (rets := [2]) (ks := [.box [.v (.sl [.str]), .v (.sl [.sl [.int .i64, .str, .str, .str]])], .v false [.sl [.str]], .v false [.int .i64], .v false [.int .i64]]) (G := lgs_table_0) (lks_table_0) (lms_table_0) (by kernel_rfl) ?_
  rintro ⟨(t : KCs [.v (.sl [.str]), .v (.sl [.sl [.int .i64, .str, .str, .str]])]), ⟨(x20 : List (RowE [.str])), _⟩, ⟨(x21 : Int), _⟩, ⟨(x22 : Int), _⟩, _⟩ x hok hx
  refine Leads.of_eq (lts_table_0 t x20 x21 x22) ?_
  obtain ⟨hq, h0, h1, h2, h3, h4⟩ := hok
  subst hq
  obtain ⟨m, rfl⟩ := Int.eq_ofNat_of_zero_le h0
  simp only [lgs_table_0, Int.toNat_natCast] at hx
  have h2 : x21 = (List.length t.1 : Int) := h2
  have h3 : List.length t.1 ≤ 140737488355328 := h3
  rcases drop_cases t.1 m with ⟨hle, hd⟩ | ⟨x1, hlt, hd, hb⟩
  · rw [hd] at hx
    exact Leads.brD (fun q => by omega) (fun _ => Leads.one (Goes.out (Out_leaf (Out_tt hx))))
  rw [hd] at hx
  simp only [namesS] at hx
  rw [getR_of hb, wrap64 (by omega) (by omega)]
  have hm := h4 x1 (List.mem_of_getElem? hb)
  refine Leads.brD (fun _ => Leads.chk (by omega) fun _ => Leads.chk (Nat.le_trans hm (by decide)) fun _ => Leads.brG (fun e => Leads.chk (by dsimp only [CE, KC.T] at *; omega) fun _ => Leads.chk (by rw [List.length_take]; omega) fun _ => Leads.br (fun w => Leads.one (Goes.out ?_)) (fun w => Leads.one ?_)) (fun e => Leads.one (Goes.out ?_))) (fun q => by omega)
  · have e : isName x1.1 = true := e
    have w : hasS (List.take m t.1) x1.1 = true := w
    rw [e, w] at hx
    exact Out_leaf (Out_ff hx)
  · have e : isName x1.1 = true := e
    have w : hasS (List.take m t.1) x1.1 = false := w
    rw [e, w] at hx
    refine Goes.again (ks := [.box [.v (.sl [.str]), .v (.sl [.sl [.int .i64, .str, .str, .str]])], .v false [.sl [.str]], .v false [.int .i64], .v false [.int .i64]]) (_, (_, ()), (_, ()), (_, ()), ()) rfl ?_ ?_ ?_
    · exact ⟨rfl, by omega, by omega, h2, h3, h4⟩
    · have hlt : m < List.length t.1 := hlt
      show List.length t.1 - (m + 1) < List.length t.1 - m
      omega
    · simp only [lgs_table_0, toNat_add1]
      rw [List.take_add_one, hb]
      exact hx
  · have e : isName x1.1 = false := e
    rw [e] at hx
    exact Out_leaf (Out_ff hx)
theorem lts_table_1 (t : KCs [.v (.sl [.str]), .v (.sl [.sl [.int .i64, .str, .str, .str]])]) (x40 : List (RowE [.sl [.int .i64, .str, .str, .str]])) (x41 : Int) (x42 : Int) : evRound T (Ep (Es_basic)) (Ln (Ls_table)) (loopAt 1 (loops (bodyOf Try.f25))) (lss_table_1) [.box true (KCs.svs [.v (.sl [.str]), .v (.sl [.sl [.int .i64, .str, .str, .str]])] t), .val (.d (.sl [.sl [.int .i64, .str, .str, .str]] x40)), .val (.d (.int .i64 x41)), .val (.d (.int .i64 x42))] =
    br (decide (x42 < x41)) (chk ((0 : Int) ≤ x42 ∧ x42 < (↑x40.length : Int)) (br ((↑(List.length (getR [Sh.sl tmS] x40 x42).fst) : Int) != (↑(List.length t.fst) : Int)) (some (Rnd.out Ex.ret [SV.val (AV.d (D.bool false))])) (chk (lks_table_2 (getR [Sh.sl tmS] x40 x42, ((↑(List.length (getR [Sh.sl tmS] x40 x42).fst) : Int), ()), ((0 : Int), ()), ())) (br ((List.drop (Int.toNat (0 : Int)) (getR [Sh.sl tmS] x40 x42).fst).all fun t => valT t) (some (Rnd.again [SV.box true [SV.val (AV.d (D.sl [Sh.str] t.fst)), SV.val (AV.d (D.sl [Sh.sl tmS] t.snd.fst))], SV.val (AV.d (D.sl [Sh.sl tmS] x40)), SV.val (AV.d (D.int IntKind.i64 x41)), SV.val (AV.d (D.int IntKind.i64 (IntKind.i64.wrap (x42 + (1 : Int)))))])) (some (Rnd.out Ex.ret [SV.val (AV.d (D.bool false))])))))) (some (Rnd.out (Ex.exit (2 : Nat)) [])) := by kernel_rfl
theorem loks_table_1 : LoopOK T (Ep (Es_basic)) (Ln (Ls_table)) (loopAt 1 (loops (bodyOf Try.f25))) := by
  refine loop_ok (live := [1, 40, 41, 42]) (outs := []) (rets := [2]) (ks := [.box [.v (.sl [.str]), .v (.sl [.sl [.int .i64, .str, .str, .str]])], .v false [.sl [.sl [.int .i64, .str, .str, .str]]], .v false [.int .i64], .v false [.int .i64]]) (G := lgs_table_1) (lks_table_1) (lms_table_1) (by kernel_rfl) ?_
  rintro ⟨(t : KCs [.v (.sl [.str]), .v (.sl [.sl [.int .i64, .str, .str, .str]])]), ⟨(x40 : List (RowE [.sl [.int .i64, .str, .str, .str]])), _⟩, ⟨(x41 : Int), _⟩, ⟨(x42 : Int), _⟩, _⟩ x hok hx
  refine Leads.of_eq (lts_table_1 t x40 x41 x42) ?_
  obtain ⟨h0, h1, h2, h3, ⟨h4, h5⟩, h6⟩ := hok
  obtain ⟨m, rfl⟩ := Int.eq_ofNat_of_zero_le h0
  simp only [lgs_table_1, Int.toNat_natCast] at hx
  rcases drop_cases x40 m with ⟨hle, hd⟩ | ⟨x1, hlt, hd, hb⟩
  · rw [hd] at hx
    exact Leads.brD (fun q => by omega) (fun _ => Leads.one (Goes.out (Out_leaf (Out_tt hx))))
  rw [hd, List.all_cons] at hx
  rw [getR_of hb, wrap64 (by omega) (by omega)]
  obtain ⟨h7, h8⟩ := h5 x1 (List.mem_of_getElem? hb)
  refine Leads.brD (fun _ => Leads.chk (by omega) fun _ => Leads.brN (fun e => Leads.chk ⟨by omega, by omega, rfl, h7, h8⟩ fun _ => ?_) (fun e => Leads.one (Goes.out ?_))) (fun q => by omega)
  · have e : (x1.1.length : Int) = (List.length t.1 : Int) := e
    have er : rowS (List.length t.1) x1 = x1.1.all fun t => valT t := by unfold rowS; rw [decide_eq_true (by omega), Bool.true_and]
    rw [er] at hx
    refine Leads.br (fun z => Leads.one ?_) (fun z => Leads.one (Goes.out ?_))
    · have z : (x1.1.all fun t => valT t) = true := z
      rw [z, Bool.true_and] at hx
      refine Goes.again (ks := [.box [.v (.sl [.str]), .v (.sl [.sl [.int .i64, .str, .str, .str]])], .v false [.sl [.sl [.int .i64, .str, .str, .str]]], .v false [.int .i64], .v false [.int .i64]]) (_, (_, ()), (_, ()), (_, ()), ()) rfl ?_ ?_ ?_
      · exact ⟨by omega, by omega, h2, h3, ⟨h4, h5⟩, h6⟩
      · simp only [lms_table_1]; omega
      · simp only [lgs_table_1, toNat_add1]; exact hx
    · have z : (x1.1.all fun t => valT t) = false := z
      rw [z, Bool.false_and] at hx
      exact Out_leaf (Out_ff hx)
  · have e : ¬ (x1.1.length : Int) = (List.length t.1 : Int) := e
    have er : rowS (List.length t.1) x1 = false := by unfold rowS; rw [decide_eq_false (by omega), Bool.false_and]
    rw [er] at hx
    exact Out_leaf (Out_ff hx)
theorem lts_table_2 (x52 : List (RowE [.int .i64, .str, .str, .str])) (x53 : Int) (x54 : Int) : evRound T (Ep (Es_basic)) (Ln (Ls_table)) (loopAt 2 (loops (bodyOf Try.f25))) (lss_table_2) [.val (.d (.sl [.int .i64, .str, .str, .str] x52)), .val (.d (.int .i64 x53)), .val (.d (.int .i64 x54))] =
    br (decide (x54 < x53)) (chk ((0 : Int) ≤ x54 ∧ x54 < (↑x52.length : Int)) (chk (List.length (getR tmS x52 x54).snd.fst ≤ Big ∧ List.length (getR tmS x52 x54).snd.snd.fst ≤ Big ∧ List.length (getR tmS x52 x54).snd.snd.snd.fst ≤ Big) (br ((if right (getR tmS x52 x54).fst (getR tmS x52 x54).snd.fst (getR tmS x52 x54).snd.snd.fst (getR tmS x52 x54).snd.snd.snd.fst = true then (0 : Int) else (2 : Int)) != (0 : Int)) (some (Rnd.out Ex.ret [SV.val (AV.d (D.bool false))])) (br ((getR tmS x52 x54).fst == (3 : Int)) (some (Rnd.out Ex.ret [SV.val (AV.d (D.bool false))])) (br ((getR tmS x52 x54).fst == (4 : Int)) (some (Rnd.out Ex.ret [SV.val (AV.d (D.bool false))])) (some (Rnd.again [SV.val (AV.d (D.sl tmS x52)), SV.val (AV.d (D.int IntKind.i64 x53)), SV.val (AV.d (D.int IntKind.i64 (IntKind.i64.wrap (x54 + (1 : Int)))))]))))))) (some (Rnd.out (Ex.exit (4 : Nat)) [])) := by kernel_rfl
theorem loks_table_2 : LoopOK T (Ep (Es_basic)) (Ln (Ls_table)) (loopAt 2 (loops (bodyOf Try.f25))) := by
  refine loop_ok (live := [52, 53, 54]) (outs := []) (rets := [2]) (ks := [.v false [.sl [.int .i64, .str, .str, .str]], .v false [.int .i64], .v false [.int .i64]]) (G := lgs_table_2) (lks_table_2) (lms_table_2) (by kernel_rfl) ?_
  rintro ⟨⟨(x52 : List (RowE [.int .i64, .str, .str, .str])), _⟩, ⟨(x53 : Int), _⟩, ⟨(x54 : Int), _⟩, _⟩ x hok hx
  refine Leads.of_eq (lts_table_2 x52 x53 x54) ?_
  obtain ⟨h0, h1, h2, h3, h4⟩ := hok
  obtain ⟨m, rfl⟩ := Int.eq_ofNat_of_zero_le h0
  simp only [lgs_table_2, Int.toNat_natCast] at hx
  rcases drop_cases x52 m with ⟨hle, hd⟩ | ⟨x1, hlt, hd, hb⟩
  · rw [hd] at hx
    exact Leads.brD (fun q => by omega) (fun _ => Leads.one (Goes.out (Out_leaf (Out_tt hx))))
  rw [hd, List.all_cons] at hx
  rw [getR_of hb, wrap64 (by omega) (by omega)]
  obtain ⟨s1, s2, s3⟩ := h4 x1 (List.mem_of_getElem? hb)
  have bad : valT x1 = false → x = (Ex.ret, [SV.val (.d (.bool false))]) := fun e => by
    rw [e, Bool.false_and] at hx
    exact Out_leaf (Out_ff hx)
  have hN : 140737488355328 ≤ Big := by decide
  refine Leads.brD (fun _ => Leads.chk (by omega) fun _ => Leads.chk ⟨by omega, by omega, by omega⟩ fun _ => Leads.brN (fun e => Leads.brE (fun w => Leads.one (Goes.out (bad ?_))) (fun w => Leads.brE (fun w2 => Leads.one (Goes.out (bad ?_))) (fun w2 => Leads.one ?_))) (fun e => Leads.one (Goes.out (bad ?_)))) (fun q => by omega)
  · unfold valT; rw [decide_eq_true w]; simp
  · unfold valT; rw [decide_eq_true w2]; simp
  · have er : rightT x1 = true := by
      cases hr : rightT x1
      · unfold rightT at hr; rw [hr] at e; simp at e
      · rfl
    have ev : valT x1 = true := by unfold valT; rw [er, decide_eq_false w, decide_eq_false w2]; rfl
    rw [ev, Bool.true_and] at hx
    refine Goes.again (ks := [.v false [.sl [.int .i64, .str, .str, .str]], .v false [.int .i64], .v false [.int .i64]]) ((_, ()), (_, ()), (_, ()), ()) rfl ?_ ?_ ?_
    · exact ⟨by omega, by omega, h2, h3, h4⟩
    · simp only [lms_table_2]; omega
    · simp only [lgs_table_2, toNat_add1]; exact hx
  · have er : rightT x1 = false := by
      cases hr : rightT x1
      · rfl
      · unfold rightT at hr; rw [hr] at e; simp at e
    unfold valT; rw [er]; rfl
theorem ts_table (t : RowE tbS) : evF T (Ep (Es_basic)) (Ln (Ls_table)) Try.f25 [.agg (rowD tbS t)] =
    br (decide ((↑(List.length t.fst) : Int) > (32 : Int))) (some (SV.val (AV.d (D.bool false)))) (br (decide ((↑(List.length t.snd.fst) : Int) > (64 : Int))) (some (SV.val (AV.d (D.bool false)))) (chk (lks_table_0 (t, (t.fst, ()), ((↑(List.length t.fst) : Int), ()), ((0 : Int), ()), ())) (br (namesS (List.take (Int.toNat (0 : Int)) t.fst) (List.drop (Int.toNat (0 : Int)) t.fst)) (chk (lks_table_1 (t, t.snd, ((↑(List.length t.snd.fst) : Int), ()), ((0 : Int), ()), ())) (br ((List.drop (Int.toNat (0 : Int)) t.snd.fst).all (rowS (List.length t.fst))) (some (SV.val (AV.d (D.bool true)))) (some (SV.val (AV.d (D.bool false)))))) (some (SV.val (AV.d (D.bool false))))))) := by kernel_rfl
theorem sats_table : Sat P 25 (Ss_table) := by
  refine sat_mk (LT := Ln (Ls_table)) hC (SatE.ep oks_basic) mixed Try.func25 (by kernel_rfl) (c := bodyOf Try.f25) (by kernel_rfl) (by kernel_rfl) ?_ (loops3 (by kernel_rfl) (loks_table_0) (loks_table_1) (loks_table_2))
  rintro ⟨(t : RowE tbS), _⟩ sv h
  refine Leads.eq (Leads.of_eq (ts_table t) ?_)
  obtain ⟨⟨⟨h0, h1⟩, h2, h3⟩, h⟩ := h
  have h := Out_leaf h
  have h0 : List.length t.1 ≤ 140737488355328 := h0
  have h2 : List.length t.2.1 ≤ 140737488355328 := h2
  have fin : ∀ b, tableS t.1 t.2.1 = b → SV.val (.d (.bool b)) = sv := fun b e => by rw [h, e]
  refine Leads.brD (fun e => Leads.one (fin _ ?_)) (fun e => Leads.brD (fun e2 => Leads.one (fin _ ?_)) (fun e2 => ?_))
  · unfold tableS; rw [decide_eq_false (show ¬ List.length t.1 ≤ 32 by omega)]; rfl
  · unfold tableS; rw [decide_eq_false (show ¬ List.length t.2.1 ≤ 64 by omega)]; simp
  have ht : tableS t.1 t.2.1 = (namesS [] t.1 && t.2.1.all (rowS (List.length t.1))) := by
    unfold tableS; rw [decide_eq_true (show List.length t.1 ≤ 32 by omega), decide_eq_true (show List.length t.2.1 ≤ 64 by omega)]; rfl
  refine Leads.chk (show _ ∧ _ ∧ _ ∧ _ ∧ _ ∧ _ from ⟨rfl, by omega, by omega, rfl, h0, h1⟩) fun _ => Leads.br (fun z => Leads.chk (show _ ∧ _ ∧ _ ∧ _ ∧ _ ∧ _ from ⟨by omega, by omega, rfl, h2, ⟨h2, h3⟩, h0⟩) fun _ => Leads.br (fun y => Leads.one (fin _ ?_)) (fun y => Leads.one (fin _ ?_))) (fun z => Leads.one (fin _ ?_))
  · have z : namesS [] t.1 = true := z
    have y : t.2.1.all (rowS (List.length t.1)) = true := y
    rw [ht, z, y]; rfl
  · have z : namesS [] t.1 = true := z
    have y : t.2.1.all (rowS (List.length t.1)) = false := y
    rw [ht, z, y]; rfl
  · have z : namesS [] t.1 = false := z
    rw [ht, z]; rfl
def Es_table : Es := (25, (Ss_table)) :: Es_basic
theorem oks_table : SatE P (En (Es_table)) := SatE.cons (sats_table) oks_basic
/-! ### legation/scope.Right -/
def Ls_Right : Ls := []
def Ss_Right := mkS [(true, opS)] fun ⟨(o : RowE opS), _⟩ => .chk (szO o) (bl (rightO o))
theorem ts_Right_c0 (tr : List (RowE t9S)) (vs : List (RowE [.str])) (rows : List (RowE [.sl [.int .i64, .str, .str, .str]])) (f : List (RowE ptS)) (name : List UInt8) (sil : Bool) : evF T (Ep (Es_table)) (Ln (Ls_Right)) Try.f8 [.agg (rowD opS ((0 : Int), tr, vs, rows, f, name, sil, ()))] =
    br (decide ((↑tr.length : Int) > (0 : Int))) (some (SV.val (AV.d (D.bool false)))) (br (decide (IntKind.i64.wrap ((↑vs.length : Int) + (↑rows.length : Int)) > (0 : Int))) (some (SV.val (AV.d (D.bool false)))) (br sil (some (SV.val (AV.d (D.bool false)))) (br (!name == []) (some (SV.val (AV.d (D.bool false)))) (br (decide ((↑f.length : Int) > (0 : Int))) (some (SV.val (AV.d (D.bool false)))) (some (SV.val (AV.d (D.bool (decide (needsK (0 : Int) ≥ (0 : Int))))))))))) := by kernel_rfl
theorem ts_Right_c1 (tr : List (RowE t9S)) (vs : List (RowE [.str])) (rows : List (RowE [.sl [.int .i64, .str, .str, .str]])) (f : List (RowE ptS)) (name : List UInt8) (sil : Bool) : evF T (Ep (Es_table)) (Ln (Ls_Right)) Try.f8 [.agg (rowD opS ((1 : Int), tr, vs, rows, f, name, sil, ()))] =
    br (decide (IntKind.i64.wrap ((↑vs.length : Int) + (↑rows.length : Int)) > (0 : Int))) (some (SV.val (AV.d (D.bool false)))) (br sil (some (SV.val (AV.d (D.bool false)))) (br (!name == []) (some (SV.val (AV.d (D.bool false)))) (br (decide ((↑f.length : Int) > (0 : Int))) (some (SV.val (AV.d (D.bool false)))) (chk (sz3L tr) (some (SV.val (AV.d (D.bool (basicS tr))))))))) := by kernel_rfl
theorem ts_Right_c2 (tr : List (RowE t9S)) (vs : List (RowE [.str])) (rows : List (RowE [.sl [.int .i64, .str, .str, .str]])) (f : List (RowE ptS)) (name : List UInt8) (sil : Bool) : evF T (Ep (Es_table)) (Ln (Ls_Right)) Try.f8 [.agg (rowD opS ((2 : Int), tr, vs, rows, f, name, sil, ()))] =
    br (decide ((↑tr.length : Int) > (0 : Int))) (some (SV.val (AV.d (D.bool false)))) (br sil (some (SV.val (AV.d (D.bool false)))) (br (!name == []) (some (SV.val (AV.d (D.bool false)))) (br (decide ((↑f.length : Int) > (0 : Int))) (some (SV.val (AV.d (D.bool false)))) (chk (szV vs ∧ szR rows) (some (SV.val (AV.d (D.bool (tableS vs rows))))))))) := by kernel_rfl
theorem ts_Right_c3 (tr : List (RowE t9S)) (vs : List (RowE [.str])) (rows : List (RowE [.sl [.int .i64, .str, .str, .str]])) (f : List (RowE ptS)) (name : List UInt8) (sil : Bool) : evF T (Ep (Es_table)) (Ln (Ls_Right)) Try.f8 [.agg (rowD opS ((3 : Int), tr, vs, rows, f, name, sil, ()))] =
    br (decide ((↑tr.length : Int) > (0 : Int))) (some (SV.val (AV.d (D.bool false)))) (br (decide (IntKind.i64.wrap ((↑vs.length : Int) + (↑rows.length : Int)) > (0 : Int))) (some (SV.val (AV.d (D.bool false)))) (br sil (some (SV.val (AV.d (D.bool false)))) (br (!name == []) (some (SV.val (AV.d (D.bool false)))) (br (decide ((↑f.length : Int) > (0 : Int))) (some (SV.val (AV.d (D.bool false)))) (some (SV.val (AV.d (D.bool (decide (needsK (3 : Int) ≥ (0 : Int))))))))))) := by kernel_rfl
theorem ts_Right_c4 (tr : List (RowE t9S)) (vs : List (RowE [.str])) (rows : List (RowE [.sl [.int .i64, .str, .str, .str]])) (f : List (RowE ptS)) (name : List UInt8) (sil : Bool) : evF T (Ep (Es_table)) (Ln (Ls_Right)) Try.f8 [.agg (rowD opS ((4 : Int), tr, vs, rows, f, name, sil, ()))] =
    br (decide ((↑tr.length : Int) > (0 : Int))) (some (SV.val (AV.d (D.bool false)))) (br (decide (IntKind.i64.wrap ((↑vs.length : Int) + (↑rows.length : Int)) > (0 : Int))) (some (SV.val (AV.d (D.bool false)))) (br sil (some (SV.val (AV.d (D.bool false)))) (br (!name == []) (some (SV.val (AV.d (D.bool false)))) (br (decide ((↑f.length : Int) > (0 : Int))) (some (SV.val (AV.d (D.bool false)))) (some (SV.val (AV.d (D.bool (decide (needsK (4 : Int) ≥ (0 : Int))))))))))) := by kernel_rfl
theorem ts_Right_c5 (tr : List (RowE t9S)) (vs : List (RowE [.str])) (rows : List (RowE [.sl [.int .i64, .str, .str, .str]])) (f : List (RowE ptS)) (name : List UInt8) (sil : Bool) : evF T (Ep (Es_table)) (Ln (Ls_Right)) Try.f8 [.agg (rowD opS ((5 : Int), tr, vs, rows, f, name, sil, ()))] =
    br (decide ((↑tr.length : Int) > (0 : Int))) (some (SV.val (AV.d (D.bool false)))) (br (decide (IntKind.i64.wrap ((↑vs.length : Int) + (↑rows.length : Int)) > (0 : Int))) (some (SV.val (AV.d (D.bool false)))) (br sil (some (SV.val (AV.d (D.bool false)))) (br (!name == []) (some (SV.val (AV.d (D.bool false)))) (br (!decide ((↑f.length : Int) > (0 : Int))) (br (decide ((↑f.length : Int) > (0 : Int))) (some (SV.val (AV.d (D.bool false)))) (br (decide ((↑f.length : Int) > (0 : Int))) (chk (allPt f) (br (checkS f != (0 : Int)) (some (SV.val (AV.d (D.bool false)))) (some (SV.val (AV.d (D.bool (decide (needsK (5 : Int) ≥ (0 : Int))))))))) (some (SV.val (AV.d (D.bool (decide (needsK (5 : Int) ≥ (0 : Int))))))))) (br (decide ((↑f.length : Int) > (0 : Int))) (chk (allPt f) (br (checkS f != (0 : Int)) (some (SV.val (AV.d (D.bool false)))) (some (SV.val (AV.d (D.bool (decide (needsK (5 : Int) ≥ (0 : Int))))))))) (some (SV.val (AV.d (D.bool (decide (needsK (5 : Int) ≥ (0 : Int)))))))))))) := by kernel_rfl
theorem ts_Right_c6 (tr : List (RowE t9S)) (vs : List (RowE [.str])) (rows : List (RowE [.sl [.int .i64, .str, .str, .str]])) (f : List (RowE ptS)) (name : List UInt8) (sil : Bool) : evF T (Ep (Es_table)) (Ln (Ls_Right)) Try.f8 [.agg (rowD opS ((6 : Int), tr, vs, rows, f, name, sil, ()))] =
    br (decide ((↑tr.length : Int) > (0 : Int))) (some (SV.val (AV.d (D.bool false)))) (br (decide (IntKind.i64.wrap ((↑vs.length : Int) + (↑rows.length : Int)) > (0 : Int))) (some (SV.val (AV.d (D.bool false)))) (br sil (some (SV.val (AV.d (D.bool false)))) (br (!name == []) (some (SV.val (AV.d (D.bool false)))) (br (decide ((↑f.length : Int) > (0 : Int))) (some (SV.val (AV.d (D.bool false)))) (some (SV.val (AV.d (D.bool (decide (needsK (6 : Int) ≥ (0 : Int))))))))))) := by kernel_rfl
theorem ts_Right_c7 (tr : List (RowE t9S)) (vs : List (RowE [.str])) (rows : List (RowE [.sl [.int .i64, .str, .str, .str]])) (f : List (RowE ptS)) (name : List UInt8) (sil : Bool) : evF T (Ep (Es_table)) (Ln (Ls_Right)) Try.f8 [.agg (rowD opS ((7 : Int), tr, vs, rows, f, name, sil, ()))] =
    br (decide ((↑tr.length : Int) > (0 : Int))) (some (SV.val (AV.d (D.bool false)))) (br (decide (IntKind.i64.wrap ((↑vs.length : Int) + (↑rows.length : Int)) > (0 : Int))) (some (SV.val (AV.d (D.bool false)))) (br sil (some (SV.val (AV.d (D.bool false)))) (br (!name == []) (some (SV.val (AV.d (D.bool false)))) (chk (allPt f) (br (checkS f != (0 : Int)) (some (SV.val (AV.d (D.bool false)))) (some (SV.val (AV.d (D.bool (decide (needsK (7 : Int) ≥ (0 : Int)))))))))))) := by kernel_rfl
theorem ts_Right_c8 (tr : List (RowE t9S)) (vs : List (RowE [.str])) (rows : List (RowE [.sl [.int .i64, .str, .str, .str]])) (f : List (RowE ptS)) (name : List UInt8) (sil : Bool) : evF T (Ep (Es_table)) (Ln (Ls_Right)) Try.f8 [.agg (rowD opS ((8 : Int), tr, vs, rows, f, name, sil, ()))] =
    br (decide ((↑tr.length : Int) > (0 : Int))) (some (SV.val (AV.d (D.bool false)))) (br (decide (IntKind.i64.wrap ((↑vs.length : Int) + (↑rows.length : Int)) > (0 : Int))) (some (SV.val (AV.d (D.bool false)))) (br sil (some (SV.val (AV.d (D.bool false)))) (chk (allPt f) (br (checkS f != (0 : Int)) (some (SV.val (AV.d (D.bool false)))) (chk (name.length ≤ Big) (some (SV.val (AV.d (D.bool (isName name)))))))))) := by kernel_rfl
theorem ts_Right_c9 (tr : List (RowE t9S)) (vs : List (RowE [.str])) (rows : List (RowE [.sl [.int .i64, .str, .str, .str]])) (f : List (RowE ptS)) (name : List UInt8) (sil : Bool) : evF T (Ep (Es_table)) (Ln (Ls_Right)) Try.f8 [.agg (rowD opS ((9 : Int), tr, vs, rows, f, name, sil, ()))] =
    br (decide ((↑tr.length : Int) > (0 : Int))) (some (SV.val (AV.d (D.bool false)))) (br (decide (IntKind.i64.wrap ((↑vs.length : Int) + (↑rows.length : Int)) > (0 : Int))) (some (SV.val (AV.d (D.bool false)))) (br (decide ((↑f.length : Int) > (0 : Int))) (some (SV.val (AV.d (D.bool false)))) (chk (name.length ≤ Big ∧ List.length (CE.dflt Sh.str) ≤ Big ∧ List.length (CE.dflt Sh.str) ≤ Big) (some (SV.val (AV.d (D.bool ((if right (1 : Int) name (CE.dflt Sh.str) (CE.dflt Sh.str) = true then (0 : Int) else (2 : Int)) == (0 : Int))))))))) := by kernel_rfl
theorem ts_Right_c10 (m : Nat) (tr : List (RowE t9S)) (vs : List (RowE [.str])) (rows : List (RowE [.sl [.int .i64, .str, .str, .str]])) (f : List (RowE ptS)) (name : List UInt8) (sil : Bool) : evF T (Ep (Es_table)) (Ln (Ls_Right)) Try.f8 [.agg (rowD opS (Int.ofNat (m + 10), tr, vs, rows, f, name, sil, ()))] =
    br (decide ((↑tr.length : Int) > (0 : Int))) (some (SV.val (AV.d (D.bool false)))) (br (decide (IntKind.i64.wrap ((↑vs.length : Int) + (↑rows.length : Int)) > (0 : Int))) (some (SV.val (AV.d (D.bool false)))) (br sil (some (SV.val (AV.d (D.bool false)))) (br (!name == []) (some (SV.val (AV.d (D.bool false)))) (br (decide ((↑f.length : Int) > (0 : Int))) (some (SV.val (AV.d (D.bool false)))) (some (SV.val (AV.d (D.bool (decide (needsK (Int.ofNat (m + (10 : Nat))) ≥ (0 : Int))))))))))) := by kernel_rfl
theorem ts_Right_c11 (m : Nat) (tr : List (RowE t9S)) (vs : List (RowE [.str])) (rows : List (RowE [.sl [.int .i64, .str, .str, .str]])) (f : List (RowE ptS)) (name : List UInt8) (sil : Bool) : evF T (Ep (Es_table)) (Ln (Ls_Right)) Try.f8 [.agg (rowD opS (Int.negSucc m, tr, vs, rows, f, name, sil, ()))] =
    br (decide ((↑tr.length : Int) > (0 : Int))) (some (SV.val (AV.d (D.bool false)))) (br (decide (IntKind.i64.wrap ((↑vs.length : Int) + (↑rows.length : Int)) > (0 : Int))) (some (SV.val (AV.d (D.bool false)))) (br sil (some (SV.val (AV.d (D.bool false)))) (br (!name == []) (some (SV.val (AV.d (D.bool false)))) (br (decide ((↑f.length : Int) > (0 : Int))) (some (SV.val (AV.d (D.bool false)))) (some (SV.val (AV.d (D.bool (decide (needsK (Int.negSucc m) ≥ (0 : Int))))))))))) := by kernel_rfl
theorem sats_Right : Sat P 8 (Ss_Right) := by
  refine sat_mk (LT := Ln (Ls_Right)) hC (SatE.ep oks_table) mixed Try.func8 (by kernel_rfl) (c := bodyOf Try.f8) (by kernel_rfl) (by kernel_rfl) ?_ (loops0 (by kernel_rfl))
  rintro ⟨(o : RowE opS), _⟩ sv h
  have key : ∀ (k : Int), k = 0 ∨ k = 1 ∨ k = 2 ∨ k = 3 ∨ k = 4 ∨ k = 5 ∨ k = 6 ∨ k = 7 ∨ k = 8 ∨ k = 9 ∨ (∃ m : Nat, k = Int.ofNat (m + 10)) ∨ ∃ m : Nat, k = Int.negSucc m := by
    intro k
    match k with
    | .negSucc m => simp
    | .ofNat n =>
      by_cases h : 10 ≤ n
      · have : (∃ m : Nat, Int.ofNat n = Int.ofNat (m + 10)) := ⟨n - 10, by rw [Nat.sub_add_cancel h]⟩
        simp only [this, true_or, or_true]
      · have : n = 0 ∨ n = 1 ∨ n = 2 ∨ n = 3 ∨ n = 4 ∨ n = 5 ∨ n = 6 ∨ n = 7 ∨ n = 8 ∨ n = 9 := by omega
        rcases this with rfl | rfl | rfl | rfl | rfl | rfl | rfl | rfl | rfl | rfl <;> simp
  obtain ⟨hs, h⟩ := h
  obtain rfl := Out_leaf h
  obtain ⟨k, tr, vs, rows, f, name, sil, _⟩ := o
  obtain ⟨q1, q2, q3, ⟨q4, q5⟩, q6⟩ := id hs
  have q2a : vs.length ≤ 140737488355328 := q2.1
  have q3a : rows.length ≤ 140737488355328 := q3.1
  have q6 : name.length ≤ 140737488355328 := q6
  have e1 : decide ((tr.length : Int) > 0) = !decide (tr.length = 0) := by by_cases z : tr.length = 0 <;> simp [z] <;> omega
  have e2 : decide (IntKind.i64.wrap ((vs.length : Int) + (rows.length : Int)) > 0) = !(decide (vs.length = 0) && decide (rows.length = 0)) := by
    rw [wrap64 (by omega) (by omega)]
    by_cases z : vs.length = 0 <;> by_cases y : rows.length = 0 <;> simp [z, y] <;> omega
  have e3 : (!(name == [])) = !decide (name = []) := by cases name <;> simp
  have e4 : decide ((f.length : Int) > 0) = !decide (f.length = 0) := by by_cases z : f.length = 0 <;> simp [z] <;> omega
  have e5 : (checkS f != 0) = !decide (checkS f = 0) := by by_cases z : checkS f = 0 <;> simp [z]
  have hB : name.length ≤ Big := Nat.le_trans q6 (by decide)
  have hB0 : name.length ≤ Big ∧ List.length (CE.dflt Sh.str) ≤ Big ∧ List.length (CE.dflt Sh.str) ≤ Big := ⟨hB, by show (0 : Nat) ≤ _; omega, by show (0 : Nat) ≤ _; omega⟩
  have e9 : right 1 name (CE.dflt .str) (CE.dflt .str) = isIri name := by simp [right, CE.dflt]
  have hL : ∀ b c : Bool, b = c → Leads (some (SV.val (.d (.bool b))) : Option SV) fun z => z = SV.val (.d (.bool c)) := fun b c e => by rw [e]; exact Leads.one rfl
  rcases key k with rfl | rfl | rfl | rfl | rfl | rfl | rfl | rfl | rfl | rfl | ⟨m, rfl⟩ | ⟨m, rfl⟩
  · refine Leads.eq (Leads.of_eq (ts_Right_c0 tr vs rows f name sil) ?_)
    have er : rightO ((0 : Int), tr, vs, rows, f, name, sil, ()) = (false) := by kernel_rfl
    have en : decide (needsK 0 ≥ 0) = false := by kernel_rfl
    rw [er]
    simp only [e1, e2, e3, e4, e5, en]
    generalize decide (tr.length = 0) = b0
    generalize decide (vs.length = 0) = b1
    generalize decide (rows.length = 0) = b2
    generalize decide (name = []) = b3
    generalize decide (f.length = 0) = b4
    generalize decide (checkS f = 0) = b5
    cases b0 <;> cases b1 <;> cases b2 <;> cases b3 <;> cases b4 <;> cases b5 <;> cases sil <;> first | exact hL _ _ rfl | exact Leads.chk q1 fun _ => hL _ _ rfl | exact Leads.chk ⟨q2, q3⟩ fun _ => hL _ _ rfl | exact Leads.chk q5 fun _ => hL _ _ rfl | exact Leads.chk q5 fun _ => Leads.chk hB fun _ => hL _ _ (by simp) | exact Leads.chk hB0 fun _ => hL _ _ rfl | exact hL _ _ (by simp) | exact Leads.chk q1 fun _ => hL _ _ (by simp) | exact Leads.chk ⟨q2, q3⟩ fun _ => hL _ _ (by simp)
  · refine Leads.eq (Leads.of_eq (ts_Right_c1 tr vs rows f name sil) ?_)
    have er : rightO ((1 : Int), tr, vs, rows, f, name, sil, ()) = (decide (vs.length = 0) && decide (rows.length = 0) && decide (f.length = 0) && (decide (name = []) && !sil) && basicS tr) := by kernel_rfl
    rw [er]
    simp only [e1, e2, e3, e4, e5]
    generalize decide (tr.length = 0) = b0
    generalize decide (vs.length = 0) = b1
    generalize decide (rows.length = 0) = b2
    generalize decide (name = []) = b3
    generalize decide (f.length = 0) = b4
    generalize decide (checkS f = 0) = b5
    cases b0 <;> cases b1 <;> cases b2 <;> cases b3 <;> cases b4 <;> cases b5 <;> cases sil <;> first | exact hL _ _ rfl | exact Leads.chk q1 fun _ => hL _ _ rfl | exact Leads.chk ⟨q2, q3⟩ fun _ => hL _ _ rfl | exact Leads.chk q5 fun _ => hL _ _ rfl | exact Leads.chk q5 fun _ => Leads.chk hB fun _ => hL _ _ (by simp) | exact Leads.chk hB0 fun _ => hL _ _ rfl | exact hL _ _ (by simp) | exact Leads.chk q1 fun _ => hL _ _ (by simp) | exact Leads.chk ⟨q2, q3⟩ fun _ => hL _ _ (by simp)
  · refine Leads.eq (Leads.of_eq (ts_Right_c2 tr vs rows f name sil) ?_)
    have er : rightO ((2 : Int), tr, vs, rows, f, name, sil, ()) = (decide (tr.length = 0) && decide (f.length = 0) && (decide (name = []) && !sil) && tableS vs rows) := by kernel_rfl
    rw [er]
    simp only [e1, e2, e3, e4, e5]
    generalize decide (tr.length = 0) = b0
    generalize decide (vs.length = 0) = b1
    generalize decide (rows.length = 0) = b2
    generalize decide (name = []) = b3
    generalize decide (f.length = 0) = b4
    generalize decide (checkS f = 0) = b5
    cases b0 <;> cases b1 <;> cases b2 <;> cases b3 <;> cases b4 <;> cases b5 <;> cases sil <;> first | exact hL _ _ rfl | exact Leads.chk q1 fun _ => hL _ _ rfl | exact Leads.chk ⟨q2, q3⟩ fun _ => hL _ _ rfl | exact Leads.chk q5 fun _ => hL _ _ rfl | exact Leads.chk q5 fun _ => Leads.chk hB fun _ => hL _ _ (by simp) | exact Leads.chk hB0 fun _ => hL _ _ rfl | exact hL _ _ (by simp) | exact Leads.chk q1 fun _ => hL _ _ (by simp) | exact Leads.chk ⟨q2, q3⟩ fun _ => hL _ _ (by simp)
  · refine Leads.eq (Leads.of_eq (ts_Right_c3 tr vs rows f name sil) ?_)
    have er : rightO ((3 : Int), tr, vs, rows, f, name, sil, ()) = (decide (tr.length = 0) && (decide (vs.length = 0) && decide (rows.length = 0)) && decide (f.length = 0) && (decide (name = []) && !sil)) := by kernel_rfl
    have en : decide (needsK 3 ≥ 0) = true := by kernel_rfl
    rw [er]
    simp only [e1, e2, e3, e4, e5, en]
    generalize decide (tr.length = 0) = b0
    generalize decide (vs.length = 0) = b1
    generalize decide (rows.length = 0) = b2
    generalize decide (name = []) = b3
    generalize decide (f.length = 0) = b4
    generalize decide (checkS f = 0) = b5
    cases b0 <;> cases b1 <;> cases b2 <;> cases b3 <;> cases b4 <;> cases b5 <;> cases sil <;> first | exact hL _ _ rfl | exact Leads.chk q1 fun _ => hL _ _ rfl | exact Leads.chk ⟨q2, q3⟩ fun _ => hL _ _ rfl | exact Leads.chk q5 fun _ => hL _ _ rfl | exact Leads.chk q5 fun _ => Leads.chk hB fun _ => hL _ _ (by simp) | exact Leads.chk hB0 fun _ => hL _ _ rfl | exact hL _ _ (by simp) | exact Leads.chk q1 fun _ => hL _ _ (by simp) | exact Leads.chk ⟨q2, q3⟩ fun _ => hL _ _ (by simp)
  · refine Leads.eq (Leads.of_eq (ts_Right_c4 tr vs rows f name sil) ?_)
    have er : rightO ((4 : Int), tr, vs, rows, f, name, sil, ()) = (decide (tr.length = 0) && (decide (vs.length = 0) && decide (rows.length = 0)) && decide (f.length = 0) && (decide (name = []) && !sil)) := by kernel_rfl
    have en : decide (needsK 4 ≥ 0) = true := by kernel_rfl
    rw [er]
    simp only [e1, e2, e3, e4, e5, en]
    generalize decide (tr.length = 0) = b0
    generalize decide (vs.length = 0) = b1
    generalize decide (rows.length = 0) = b2
    generalize decide (name = []) = b3
    generalize decide (f.length = 0) = b4
    generalize decide (checkS f = 0) = b5
    cases b0 <;> cases b1 <;> cases b2 <;> cases b3 <;> cases b4 <;> cases b5 <;> cases sil <;> first | exact hL _ _ rfl | exact Leads.chk q1 fun _ => hL _ _ rfl | exact Leads.chk ⟨q2, q3⟩ fun _ => hL _ _ rfl | exact Leads.chk q5 fun _ => hL _ _ rfl | exact Leads.chk q5 fun _ => Leads.chk hB fun _ => hL _ _ (by simp) | exact Leads.chk hB0 fun _ => hL _ _ rfl | exact hL _ _ (by simp) | exact Leads.chk q1 fun _ => hL _ _ (by simp) | exact Leads.chk ⟨q2, q3⟩ fun _ => hL _ _ (by simp)
  · refine Leads.eq (Leads.of_eq (ts_Right_c5 tr vs rows f name sil) ?_)
    have er : rightO ((5 : Int), tr, vs, rows, f, name, sil, ()) = (decide (tr.length = 0) && (decide (vs.length = 0) && decide (rows.length = 0)) && (decide (f.length = 0) || decide (checkS f = 0)) && (decide (name = []) && !sil)) := by kernel_rfl
    have en : decide (needsK 5 ≥ 0) = true := by kernel_rfl
    rw [er]
    simp only [e1, e2, e3, e4, e5, en]
    generalize decide (tr.length = 0) = b0
    generalize decide (vs.length = 0) = b1
    generalize decide (rows.length = 0) = b2
    generalize decide (name = []) = b3
    generalize decide (f.length = 0) = b4
    generalize decide (checkS f = 0) = b5
    cases b0 <;> cases b1 <;> cases b2 <;> cases b3 <;> cases b4 <;> cases b5 <;> cases sil <;> first | exact hL _ _ rfl | exact Leads.chk q1 fun _ => hL _ _ rfl | exact Leads.chk ⟨q2, q3⟩ fun _ => hL _ _ rfl | exact Leads.chk q5 fun _ => hL _ _ rfl | exact Leads.chk q5 fun _ => Leads.chk hB fun _ => hL _ _ (by simp) | exact Leads.chk hB0 fun _ => hL _ _ rfl | exact hL _ _ (by simp) | exact Leads.chk q1 fun _ => hL _ _ (by simp) | exact Leads.chk ⟨q2, q3⟩ fun _ => hL _ _ (by simp)
  · refine Leads.eq (Leads.of_eq (ts_Right_c6 tr vs rows f name sil) ?_)
    have er : rightO ((6 : Int), tr, vs, rows, f, name, sil, ()) = (decide (tr.length = 0) && (decide (vs.length = 0) && decide (rows.length = 0)) && decide (f.length = 0) && (decide (name = []) && !sil)) := by kernel_rfl
    have en : decide (needsK 6 ≥ 0) = true := by kernel_rfl
    rw [er]
    simp only [e1, e2, e3, e4, e5, en]
    generalize decide (tr.length = 0) = b0
    generalize decide (vs.length = 0) = b1
    generalize decide (rows.length = 0) = b2
    generalize decide (name = []) = b3
    generalize decide (f.length = 0) = b4
    generalize decide (checkS f = 0) = b5
    cases b0 <;> cases b1 <;> cases b2 <;> cases b3 <;> cases b4 <;> cases b5 <;> cases sil <;> first | exact hL _ _ rfl | exact Leads.chk q1 fun _ => hL _ _ rfl | exact Leads.chk ⟨q2, q3⟩ fun _ => hL _ _ rfl | exact Leads.chk q5 fun _ => hL _ _ rfl | exact Leads.chk q5 fun _ => Leads.chk hB fun _ => hL _ _ (by simp) | exact Leads.chk hB0 fun _ => hL _ _ rfl | exact hL _ _ (by simp) | exact Leads.chk q1 fun _ => hL _ _ (by simp) | exact Leads.chk ⟨q2, q3⟩ fun _ => hL _ _ (by simp)
  · refine Leads.eq (Leads.of_eq (ts_Right_c7 tr vs rows f name sil) ?_)
    have er : rightO ((7 : Int), tr, vs, rows, f, name, sil, ()) = (decide (tr.length = 0) && (decide (vs.length = 0) && decide (rows.length = 0)) && decide (checkS f = 0) && (decide (name = []) && !sil)) := by kernel_rfl
    have en : decide (needsK 7 ≥ 0) = true := by kernel_rfl
    rw [er]
    simp only [e1, e2, e3, e4, e5, en]
    generalize decide (tr.length = 0) = b0
    generalize decide (vs.length = 0) = b1
    generalize decide (rows.length = 0) = b2
    generalize decide (name = []) = b3
    generalize decide (f.length = 0) = b4
    generalize decide (checkS f = 0) = b5
    cases b0 <;> cases b1 <;> cases b2 <;> cases b3 <;> cases b4 <;> cases b5 <;> cases sil <;> first | exact hL _ _ rfl | exact Leads.chk q1 fun _ => hL _ _ rfl | exact Leads.chk ⟨q2, q3⟩ fun _ => hL _ _ rfl | exact Leads.chk q5 fun _ => hL _ _ rfl | exact Leads.chk q5 fun _ => Leads.chk hB fun _ => hL _ _ (by simp) | exact Leads.chk hB0 fun _ => hL _ _ rfl | exact hL _ _ (by simp) | exact Leads.chk q1 fun _ => hL _ _ (by simp) | exact Leads.chk ⟨q2, q3⟩ fun _ => hL _ _ (by simp)
  · refine Leads.eq (Leads.of_eq (ts_Right_c8 tr vs rows f name sil) ?_)
    have er : rightO ((8 : Int), tr, vs, rows, f, name, sil, ()) = (decide (tr.length = 0) && (decide (vs.length = 0) && decide (rows.length = 0)) && decide (checkS f = 0) && isName name && !sil) := by kernel_rfl
    rw [er]
    simp only [e1, e2, e3, e4, e5]
    generalize decide (tr.length = 0) = b0
    generalize decide (vs.length = 0) = b1
    generalize decide (rows.length = 0) = b2
    generalize decide (name = []) = b3
    generalize decide (f.length = 0) = b4
    generalize decide (checkS f = 0) = b5
    cases b0 <;> cases b1 <;> cases b2 <;> cases b3 <;> cases b4 <;> cases b5 <;> cases sil <;> first | exact hL _ _ rfl | exact Leads.chk q1 fun _ => hL _ _ rfl | exact Leads.chk ⟨q2, q3⟩ fun _ => hL _ _ rfl | exact Leads.chk q5 fun _ => hL _ _ rfl | exact Leads.chk q5 fun _ => Leads.chk hB fun _ => hL _ _ (by simp) | exact Leads.chk hB0 fun _ => hL _ _ rfl | exact hL _ _ (by simp) | exact Leads.chk q1 fun _ => hL _ _ (by simp) | exact Leads.chk ⟨q2, q3⟩ fun _ => hL _ _ (by simp)
  · refine Leads.eq (Leads.of_eq (ts_Right_c9 tr vs rows f name sil) ?_)
    have er : rightO ((9 : Int), tr, vs, rows, f, name, sil, ()) = (decide (tr.length = 0) && (decide (vs.length = 0) && decide (rows.length = 0)) && decide (f.length = 0) && isIri name) := by kernel_rfl
    rw [er]
    simp only [e1, e2, e3, e4, e5, e9]
    generalize decide (tr.length = 0) = b0
    generalize decide (vs.length = 0) = b1
    generalize decide (rows.length = 0) = b2
    generalize decide (name = []) = b3
    generalize decide (f.length = 0) = b4
    generalize decide (checkS f = 0) = b5
    generalize isIri name = b9
    cases b0 <;> cases b1 <;> cases b2 <;> cases b3 <;> cases b4 <;> cases b5 <;> cases sil <;> cases b9 <;> first | exact hL _ _ rfl | exact Leads.chk q1 fun _ => hL _ _ rfl | exact Leads.chk ⟨q2, q3⟩ fun _ => hL _ _ rfl | exact Leads.chk q5 fun _ => hL _ _ rfl | exact Leads.chk q5 fun _ => Leads.chk hB fun _ => hL _ _ (by simp) | exact Leads.chk hB0 fun _ => hL _ _ rfl | exact hL _ _ (by simp) | exact Leads.chk q1 fun _ => hL _ _ (by simp) | exact Leads.chk ⟨q2, q3⟩ fun _ => hL _ _ (by simp)
  · refine Leads.eq (Leads.of_eq (ts_Right_c10 m tr vs rows f name sil) ?_)
    have er : rightO (((Int.ofNat (m + 10)) : Int), tr, vs, rows, f, name, sil, ()) = (false) := by kernel_rfl
    have en : decide (needsK (Int.ofNat (m + 10)) ≥ 0) = false := by kernel_rfl
    rw [er]
    simp only [e1, e2, e3, e4, e5, en]
    generalize decide (tr.length = 0) = b0
    generalize decide (vs.length = 0) = b1
    generalize decide (rows.length = 0) = b2
    generalize decide (name = []) = b3
    generalize decide (f.length = 0) = b4
    generalize decide (checkS f = 0) = b5
    cases b0 <;> cases b1 <;> cases b2 <;> cases b3 <;> cases b4 <;> cases b5 <;> cases sil <;> first | exact hL _ _ rfl | exact Leads.chk q1 fun _ => hL _ _ rfl | exact Leads.chk ⟨q2, q3⟩ fun _ => hL _ _ rfl | exact Leads.chk q5 fun _ => hL _ _ rfl | exact Leads.chk q5 fun _ => Leads.chk hB fun _ => hL _ _ (by simp) | exact Leads.chk hB0 fun _ => hL _ _ rfl | exact hL _ _ (by simp) | exact Leads.chk q1 fun _ => hL _ _ (by simp) | exact Leads.chk ⟨q2, q3⟩ fun _ => hL _ _ (by simp)
  · refine Leads.eq (Leads.of_eq (ts_Right_c11 m tr vs rows f name sil) ?_)
    have er : rightO (((Int.negSucc m) : Int), tr, vs, rows, f, name, sil, ()) = (false) := by kernel_rfl
    have en : decide (needsK (Int.negSucc m) ≥ 0) = false := by kernel_rfl
    rw [er]
    simp only [e1, e2, e3, e4, e5, en]
    generalize decide (tr.length = 0) = b0
    generalize decide (vs.length = 0) = b1
    generalize decide (rows.length = 0) = b2
    generalize decide (name = []) = b3
    generalize decide (f.length = 0) = b4
    generalize decide (checkS f = 0) = b5
    cases b0 <;> cases b1 <;> cases b2 <;> cases b3 <;> cases b4 <;> cases b5 <;> cases sil <;> first | exact hL _ _ rfl | exact Leads.chk q1 fun _ => hL _ _ rfl | exact Leads.chk ⟨q2, q3⟩ fun _ => hL _ _ rfl | exact Leads.chk q5 fun _ => hL _ _ rfl | exact Leads.chk q5 fun _ => Leads.chk hB fun _ => hL _ _ (by simp) | exact Leads.chk hB0 fun _ => hL _ _ rfl | exact hL _ _ (by simp) | exact Leads.chk q1 fun _ => hL _ _ (by simp) | exact Leads.chk ⟨q2, q3⟩ fun _ => hL _ _ (by simp)
def Es_Right : Es := (8, (Ss_Right)) :: Es_table
theorem oks_Right : SatE P (En (Es_Right)) := SatE.cons (sats_Right) oks_table
end Go.Proofs.Ytfpojhphmgnfhaa.T7
