/- Part of a proof of the seat's statements: no statement by itself. -/
import Derived.Test.YtgcjhcefpkbheaaT20D
import Derived.Test.YtgcjhcefpkbheaaSwF
set_option maxRecDepth 100000
open Go.Proofs.Ytgcjhcefpkbheaa.Lg Go Go.Proofs.Ytgcjhcefpkbheaa.Sp
open Go.Proofs
namespace Go.Proofs.Ytgcjhcefpkbheaa.T20


/-! ### legation/legationlaw20.awake -/
def Ll_awake : Ls := []
def Sl_awake := mkS [] fun _ => .leaf (.val (.d (.bool true)))
theorem tl_awake  : evF T (Ep (Er_arrange)) (Ln (Ll_awake)) Try.f13 [] =
    chk ([([((0 : Int), ())], ()), ([((0 : Int), ()), ((1 : Int), ())], ()), ([((0 : Int), ())], ())].length ≤ (2000000 : Nat) ∧ szP [([((0 : Int), ())], ()), ([((0 : Int), ()), ((1 : Int), ())], ()), ([((0 : Int), ())], ())]) (br ((↑(groupsP true [([((0 : Int), ())], ()), ([((0 : Int), ()), ((1 : Int), ())], ()), ([((0 : Int), ())], ())]).length : Int) == (2 : Int)) (chk ((0 : Int) ≤ (0 : Int) ∧ (0 : Int) < (↑(groupsP true [([((0 : Int), ())], ()), ([((0 : Int), ()), ((1 : Int), ())], ()), ([((0 : Int), ())], ())]).length : Int)) (chk (List.length (getR grS (groupsP true [([((0 : Int), ())], ()), ([((0 : Int), ()), ((1 : Int), ())], ()), ([((0 : Int), ())], ())]) (0 : Int)).fst ≤ (140737488355328 : Nat)) (br (sameI (getR grS (groupsP true [([((0 : Int), ())], ()), ([((0 : Int), ()), ((1 : Int), ())], ()), ([((0 : Int), ())], ())]) (0 : Int)).fst [((0 : Int), ()), ((2 : Int), ())]) (chk ((0 : Int) ≤ (1 : Int) ∧ (1 : Int) < (↑(groupsP true [([((0 : Int), ())], ()), ([((0 : Int), ()), ((1 : Int), ())], ()), ([((0 : Int), ())], ())]).length : Int)) (chk (List.length (getR grS (groupsP true [([((0 : Int), ())], ()), ([((0 : Int), ()), ((1 : Int), ())], ()), ([((0 : Int), ())], ())]) (1 : Int)).snd.fst ≤ (140737488355328 : Nat)) (some (SV.val (AV.d (D.bool (sameI (getR grS (groupsP true [([((0 : Int), ())], ()), ([((0 : Int), ()), ((1 : Int), ())], ()), ([((0 : Int), ())], ())]) (1 : Int)).snd.fst [((0 : Int), ()), ((1 : Int), ())]))))))) (some (SV.val (AV.d (D.bool false))))))) (some (SV.val (AV.d (D.bool false))))) := by kernel_rfl
theorem satl_awake : Sat P 13 (Sl_awake) := by
  refine sat_mk (LT := Ln (Ll_awake)) hC (SatE.ep okr_arrange) mixed Try.func13 (by kernel_rfl) (c := bodyOf Try.f13) (by kernel_rfl) (by kernel_rfl) ?_ (loops0 (by kernel_rfl))
  rintro _ sv h
  refine Leads.eq (Leads.of_eq (tl_awake ) ?_)
  obtain rfl := Out_leaf h
  have hG : groupsP true [([((0 : Int), ())], ()), ([((0 : Int), ()), ((1 : Int), ())], ()), ([((0 : Int), ())], ())] = ([([((0, ()) : Nt), ((2, ()) : Nt)], ([((0, ()) : Nt)], ())), ([((1, ()) : Nt)], ([((0, ()) : Nt), ((1, ()) : Nt)], ()))] : List Gr) := by kernel_rfl
  rw [hG]
  refine Leads.chk ⟨by decide, fun x hx => ?_⟩ fun _ => Leads.br (fun _ => Leads.chk (by decide) fun _ => Leads.chk (by decide) fun _ => Leads.br (fun _ => Leads.chk (by decide) fun _ => Leads.chk (by decide) fun _ => Leads.one rfl) (fun w => absurd w (by decide))) (fun w => absurd w (by decide))
  have hx : x ∈ ([([((0, ()) : Nt)], ()), ([((0, ()) : Nt), ((1, ()) : Nt)], ()), ([((0, ()) : Nt)], ())] : List Pt) := hx
  rcases List.mem_cons.1 hx with rfl | hx
  · decide
  rcases List.mem_cons.1 hx with rfl | hx
  · decide
  rcases List.mem_cons.1 hx with rfl | hx
  · decide
  cases hx
def El_awake : Es := (13, (Sl_awake)) :: Er_arrange
theorem okl_awake : SatE P (En (El_awake)) := SatE.cons (satl_awake) okr_arrange
/-! ### legation/legationlaw20.few -/
def lkl_few_0 : St [.v false [.sl [.sl [.int .i64]]], .a [.sl [.int .i64]], .v false [.int .i64]] → Prop := fun ⟨⟨(points : List (RowE [.sl [.int .i64]])), _⟩, (out : List (RowE [.sl [.int .i64]])), ⟨(i : Int), _⟩, _⟩ => 0 ≤ i ∧ i ≤ (points.length : Int) ∧ i ≤ 20 ∧ (out.length : Int) ≤ i
def lgl_few_0 : St [.v false [.sl [.sl [.int .i64]]], .a [.sl [.int .i64]], .v false [.int .i64]] → Tr (Ex × List SV) := fun ⟨⟨(points : List (RowE [.sl [.int .i64]])), _⟩, (out : List (RowE [.sl [.int .i64]])), ⟨(i : Int), _⟩, _⟩ => .leaf (.exit 0, [.app [.sl [.int .i64]] (out ++ ((points.take 20).drop i.toNat).map fun x => ((x.1 : List Nt).take 10, ()))])
def lml_few_0 : St [.v false [.sl [.sl [.int .i64]]], .a [.sl [.int .i64]], .v false [.int .i64]] → Nat := fun ⟨⟨(points : List (RowE [.sl [.int .i64]])), _⟩, (out : List (RowE [.sl [.int .i64]])), ⟨(i : Int), _⟩, _⟩ => 20 - i.toNat
def lsl_few_0 : LoopS := mkR [0, 3, 4] [3] [] [.v false [.sl [.sl [.int .i64]]], .a [.sl [.int .i64]], .v false [.int .i64]] (fun r => .chk (lkl_few_0 r) (lgl_few_0 r))
def Ll_few : Ls := [(3, lsl_few_0)]
def Sl_few := mkS [(false, [.sl [.sl [.int .i64]]])] fun ⟨⟨(points : List (RowE [.sl [.int .i64]])), _⟩, _⟩ => .leaf (.app [.sl [.int .i64]] (fewP points))
theorem ltl_few_0 (points : List (RowE [.sl [.int .i64]])) (out : List (RowE [.sl [.int .i64]])) (i : Int) : evRound T (Ep (El_awake)) (Ln (Ll_few)) (loopAt 0 (loops (bodyOf Try.f9))) (lsl_few_0) [.val (.d (.sl [.sl [.int .i64]] points)), .app [.sl [.int .i64]] out, .val (.d (.int .i64 i))] =
    br (decide (i < (↑points.length : Int))) (br (decide (i < (20 : Int))) (chk ((0 : Int) ≤ i ∧ i < (↑points.length : Int)) (chk ((0 : Int) ≤ i ∧ i < (↑points.length : Int)) (chk ((0 : Int) ≤ min2I (↑(List.length (getR [Sh.sl [Sh.int IntKind.i64]] points i).fst) : Int) (10 : Int) ∧ min2I (↑(List.length (getR [Sh.sl [Sh.int IntKind.i64]] points i).fst) : Int) (10 : Int) ≤ (↑(List.length (getR [Sh.sl [Sh.int IntKind.i64]] points i).fst) : Int)) (chk (((↑out.length : Int) + (↑[(List.take (min2I (↑(List.length (getR [Sh.sl [Sh.int IntKind.i64]] points i).fst) : Int) (10 : Int)).toNat (getR [Sh.sl [Sh.int IntKind.i64]] points i).fst, ())].length : Int)) * (↑(24 : Nat) : Int) < lim) (some (Rnd.again [SV.val (AV.d (D.sl [Sh.sl [Sh.int IntKind.i64]] points)), SV.app [Sh.sl [Sh.int IntKind.i64]] (out ++ [(List.take (min2I (↑(List.length (getR [Sh.sl [Sh.int IntKind.i64]] points i).fst) : Int) (10 : Int)).toNat (getR [Sh.sl [Sh.int IntKind.i64]] points i).fst, ())]), SV.val (AV.d (D.int IntKind.i64 (IntKind.i64.wrap (i + (1 : Int)))))])))))) (some (Rnd.out (Ex.exit (0 : Nat)) [SV.app [Sh.sl [Sh.int IntKind.i64]] out]))) (some (Rnd.out (Ex.exit (0 : Nat)) [SV.app [Sh.sl [Sh.int IntKind.i64]] out])) := by kernel_rfl
theorem lokl_few_0 : LoopOK T (Ep (El_awake)) (Ln (Ll_few)) (loopAt 0 (loops (bodyOf Try.f9))) := by
  refine loop_ok (live := [0, 3, 4]) (outs := [3]) (rets := []) (ks := [.v false [.sl [.sl [.int .i64]]], .a [.sl [.int .i64]], .v false [.int .i64]]) (G := lgl_few_0) (lkl_few_0) (lml_few_0) (by kernel_rfl) ?_
  rintro ⟨⟨(points : List (RowE [.sl [.int .i64]])), _⟩, (out : List (RowE [.sl [.int .i64]])), ⟨(i : Int), _⟩, _⟩ x hok hx
  refine Leads.of_eq (ltl_few_0 points out i) ?_
  obtain ⟨h0, h1, h2, h3⟩ := hok
  obtain ⟨m, rfl⟩ := Int.eq_ofNat_of_zero_le h0
  simp only [lgl_few_0, Int.toNat_natCast] at hx
  rcases drop_cases (points.take 20) m with ⟨hle, hd⟩ | ⟨x1, hlt, hd, hb⟩
  · rw [hd, List.map_nil, List.append_nil] at hx
    rw [List.length_take] at hle
    exact Leads.brD (fun q => Leads.brD (fun q2 => by omega) (fun _ => Leads.one (Goes.out (Out_leaf hx)))) (fun _ => Leads.one (Goes.out (Out_leaf hx)))
  rw [List.length_take] at hlt
  have hb2 : points[m]? = some x1 := by rw [List.getElem?_take, if_pos (by omega)] at hb; exact hb
  rw [hd, List.map_cons] at hx
  obtain ⟨t1, t2, t3⟩ := take_min x1.1
  rw [getR_of hb2, wrap64 (x := (m : Int) + 1) (by omega) (by omega)]
  refine Leads.brD (fun _ => Leads.brD (fun _ => Leads.chk (by omega) fun _ => Leads.chk (by omega) fun _ => Leads.chk ⟨t1, t2⟩ fun _ => Leads.chk (by simp only [lim, List.length_cons, List.length_nil]; omega) fun _ => Leads.one ?_) (fun q => by omega)) (fun q => by omega)
  rw [t3]
  refine Goes.again (ks := [.v false [.sl [.sl [.int .i64]]], .a [.sl [.int .i64]], .v false [.int .i64]]) ((_, ()), _, (_, ()), ()) rfl ?_ ?_ ?_
  · exact ⟨by omega, by omega, by omega, by rw [List.length_append]; simp only [List.length_cons, List.length_nil]; omega⟩
  · simp only [lml_few_0]; omega
  · simp only [lgl_few_0, toNat_add1]; rw [List.append_assoc]; exact hx
theorem tl_few (points : List (RowE [.sl [.int .i64]])) : evF T (Ep (El_awake)) (Ln (Ll_few)) Try.f9 [.d (.sl [.sl [.int .i64]] points)] =
    chk (lkl_few_0 ((points, ()), [], ((0 : Int), ()), ())) (some (SV.app [Sh.sl [Sh.int IntKind.i64]] ([] ++ List.map (fun x => (List.take (10 : Nat) x.fst, ())) (List.drop (Int.toNat (0 : Int)) (List.take (20 : Nat) points))))) := by kernel_rfl
theorem satl_few : Sat P 9 (Sl_few) := by
  refine sat_mk (LT := Ln (Ll_few)) hC (SatE.ep okl_awake) mixed Try.func9 (by kernel_rfl) (c := bodyOf Try.f9) (by kernel_rfl) (by kernel_rfl) ?_ (loops1 (by kernel_rfl) (lokl_few_0))
  rintro ⟨⟨(points : List (RowE [.sl [.int .i64]])), _⟩, _⟩ sv h
  refine Leads.eq (Leads.of_eq (tl_few points) ?_)
  obtain rfl := Out_leaf h
  exact Leads.chk ⟨by omega, Int.natCast_nonneg _, by omega, by simp⟩ fun _ => Leads.one rfl
def El_few : Es := (9, (Sl_few)) :: El_awake
theorem okl_few : SatE P (En (El_few)) := SatE.cons (satl_few) okl_awake
/-! ### legation/legationlaw20.chained -/
def lkl_chained_0 : St [.v false [.sl [.int .i64, .str, .str, .str, .int .i64, .str, .str, .str, .int .i64, .str, .str, .str]], .v false [.sl [.sl [.int .i64], .sl [.int .i64]]], .v false [.int .i64]] → Prop := fun ⟨⟨(l : List (RowE [.int .i64, .str, .str, .str, .int .i64, .str, .str, .str, .int .i64, .str, .str, .str])), _⟩, ⟨(g : List (RowE [.sl [.int .i64], .sl [.int .i64]])), _⟩, ⟨(i : Int), _⟩, _⟩ => 1 ≤ i ∧ i ≤ 2000001 ∧ g.length ≤ 2000000 ∧ ∀ x ∈ g, szGr x
def lgl_chained_0 : St [.v false [.sl [.int .i64, .str, .str, .str, .int .i64, .str, .str, .str, .int .i64, .str, .str, .str]], .v false [.sl [.sl [.int .i64], .sl [.int .i64]]], .v false [.int .i64]] → Tr (Ex × List SV) := fun ⟨⟨(l : List (RowE [.int .i64, .str, .str, .str, .int .i64, .str, .str, .str, .int .i64, .str, .str, .str])), _⟩, ⟨(g : List (RowE [.sl [.int .i64], .sl [.int .i64]])), _⟩, ⟨(i : Int), _⟩, _⟩ => .br (chainA l (g.take i.toNat) (g.drop i.toNat)) (.leaf (.exit 0, [])) (.leaf (.ret, [.val (.d (.bool  (false)))]))
def lml_chained_0 : St [.v false [.sl [.int .i64, .str, .str, .str, .int .i64, .str, .str, .str, .int .i64, .str, .str, .str]], .v false [.sl [.sl [.int .i64], .sl [.int .i64]]], .v false [.int .i64]] → Nat := fun ⟨⟨(l : List (RowE [.int .i64, .str, .str, .str, .int .i64, .str, .str, .str, .int .i64, .str, .str, .str])), _⟩, ⟨(g : List (RowE [.sl [.int .i64], .sl [.int .i64]])), _⟩, ⟨(i : Int), _⟩, _⟩ => g.length - i.toNat
def lsl_chained_0 : LoopS := mkR [0, 1, 5] [] [4] [.v false [.sl [.int .i64, .str, .str, .str, .int .i64, .str, .str, .str, .int .i64, .str, .str, .str]], .v false [.sl [.sl [.int .i64], .sl [.int .i64]]], .v false [.int .i64]] (fun r => .chk (lkl_chained_0 r) (lgl_chained_0 r))
def lkl_chained_1 : St [.v false [.sl [.int .i64, .str, .str, .str, .int .i64, .str, .str, .str, .int .i64, .str, .str, .str]], .v false [.sl [.sl [.int .i64], .sl [.int .i64]]], .v false [.int .i64], .v false [.bool], .v false [.int .i64]] → Prop := fun ⟨⟨(l : List (RowE [.int .i64, .str, .str, .str, .int .i64, .str, .str, .str, .int .i64, .str, .str, .str])), _⟩, ⟨(g : List (RowE [.sl [.int .i64], .sl [.int .i64]])), _⟩, ⟨(i : Int), _⟩, ⟨(some_ : Bool), _⟩, ⟨(k : Int), _⟩, _⟩ => 0 ≤ k ∧ k ≤ i ∧ i < (g.length : Int) ∧ g.length ≤ 2000000 ∧ ∀ x ∈ g, szGr x
def lgl_chained_1 : St [.v false [.sl [.int .i64, .str, .str, .str, .int .i64, .str, .str, .str, .int .i64, .str, .str, .str]], .v false [.sl [.sl [.int .i64], .sl [.int .i64]]], .v false [.int .i64], .v false [.bool], .v false [.int .i64]] → Tr (Ex × List SV) := fun ⟨⟨(l : List (RowE [.int .i64, .str, .str, .str, .int .i64, .str, .str, .str, .int .i64, .str, .str, .str])), _⟩, ⟨(g : List (RowE [.sl [.int .i64], .sl [.int .i64]])), _⟩, ⟨(i : Int), _⟩, ⟨(some_ : Bool), _⟩, ⟨(k : Int), _⟩, _⟩ => .leaf (.exit 2, [.val (.d (.sl [.int .i64, .str, .str, .str, .int .i64, .str, .str, .str, .int .i64, .str, .str, .str] (l))), .val (.d (.sl [.sl [.int .i64], .sl [.int .i64]] (g))), .val (.d (.int .i64 (i))), .val (.d (.bool  (some_ || ((g.take i.toNat).drop k.toNat).any fun y => touchR l y (getR grS g i))))])
def lml_chained_1 : St [.v false [.sl [.int .i64, .str, .str, .str, .int .i64, .str, .str, .str, .int .i64, .str, .str, .str]], .v false [.sl [.sl [.int .i64], .sl [.int .i64]]], .v false [.int .i64], .v false [.bool], .v false [.int .i64]] → Nat := fun ⟨⟨(l : List (RowE [.int .i64, .str, .str, .str, .int .i64, .str, .str, .str, .int .i64, .str, .str, .str])), _⟩, ⟨(g : List (RowE [.sl [.int .i64], .sl [.int .i64]])), _⟩, ⟨(i : Int), _⟩, ⟨(some_ : Bool), _⟩, ⟨(k : Int), _⟩, _⟩ => i.toNat - k.toNat
def lsl_chained_1 : LoopS := mkR [0, 1, 5, 6, 7] [0, 1, 5, 6] [] [.v false [.sl [.int .i64, .str, .str, .str, .int .i64, .str, .str, .str, .int .i64, .str, .str, .str]], .v false [.sl [.sl [.int .i64], .sl [.int .i64]]], .v false [.int .i64], .v false [.bool], .v false [.int .i64]] (fun r => .chk (lkl_chained_1 r) (lgl_chained_1 r))
def Ll_chained : Ls := [(2, lsl_chained_0), (6, lsl_chained_1)]
def Sl_chained := mkS [(false, [.sl [.int .i64, .str, .str, .str, .int .i64, .str, .str, .str, .int .i64, .str, .str, .str]]), (false, [.sl [.sl [.int .i64], .sl [.int .i64]]])] fun ⟨⟨(l : List (RowE [.int .i64, .str, .str, .str, .int .i64, .str, .str, .str, .int .i64, .str, .str, .str])), _⟩, ⟨(g : List (RowE [.sl [.int .i64], .sl [.int .i64]])), _⟩, _⟩ => .chk (g.length ≤ 2000000 ∧ ∀ x ∈ g, szGr x) (.leaf (.val (.d (.bool (chainP l g)))))
theorem ltl_chained_0 (l : List (RowE [.int .i64, .str, .str, .str, .int .i64, .str, .str, .str, .int .i64, .str, .str, .str])) (g : List (RowE [.sl [.int .i64], .sl [.int .i64]])) (i : Int) : evRound T (Ep (El_few)) (Ln (Ll_chained)) (loopAt 0 (loops (bodyOf Try.f24))) (lsl_chained_0) [.val (.d (.sl [.int .i64, .str, .str, .str, .int .i64, .str, .str, .str, .int .i64, .str, .str, .str] l)), .val (.d (.sl [.sl [.int .i64], .sl [.int .i64]] g)), .val (.d (.int .i64 i))] =
    br (decide (i < (↑g.length : Int))) (chk (lkl_chained_1 ((l, ()), (g, ()), (i, ()), (false, ()), ((0 : Int), ()), ())) (br (!(false || (List.drop (Int.toNat (0 : Int)) (List.take i.toNat g)).any fun y => touchR l y (getR grS g i))) (some (Rnd.out Ex.ret [SV.val (AV.d (D.bool false))])) (some (Rnd.again [SV.val (AV.d (D.sl t3S l)), SV.val (AV.d (D.sl grS g)), SV.val (AV.d (D.int IntKind.i64 (IntKind.i64.wrap (i + (1 : Int)))))])))) (some (Rnd.out (Ex.exit (0 : Nat)) [])) := by kernel_rfl
theorem lokl_chained_0 : LoopOK T (Ep (El_few)) (Ln (Ll_chained)) (loopAt 0 (loops (bodyOf Try.f24))) := by
  refine loop_ok (live := [0, 1, 5]) (outs := []) (rets := [4]) (ks := [.v false [.sl [.int .i64, .str, .str, .str, .int .i64, .str, .str, .str, .int .i64, .str, .str, .str]], .v false [.sl [.sl [.int .i64], .sl [.int .i64]]], .v false [.int .i64]]) (G := lgl_chained_0) (lkl_chained_0) (lml_chained_0) (by kernel_rfl) ?_
  rintro ⟨⟨(l : List (RowE [.int .i64, .str, .str, .str, .int .i64, .str, .str, .str, .int .i64, .str, .str, .str])), _⟩, ⟨(g : List (RowE [.sl [.int .i64], .sl [.int .i64]])), _⟩, ⟨(i : Int), _⟩, _⟩ x hok hx
  refine Leads.of_eq (ltl_chained_0 l g i) ?_
  obtain ⟨h1, h2, h3, h4⟩ := hok
  have h0 : 0 ≤ i := by omega
  obtain ⟨m, rfl⟩ := Int.eq_ofNat_of_zero_le h0
  simp only [lgl_chained_0, Int.toNat_natCast] at hx
  rcases drop_cases g m with ⟨hle, hd⟩ | ⟨x1, hlt, hd, hb⟩
  · rw [hd, chainA] at hx
    exact Leads.brD (fun q => by omega) (fun _ => Leads.one (Goes.out (Out_leaf (Out_tt hx))))
  rw [hd, chainA] at hx
  have e : (false || (List.drop (Int.toNat (0 : Int)) (List.take (m : Int).toNat g)).any fun y => touchR l y (getR grS g (m : Int))) = (List.take m g).any fun y => touchR l y x1 := by rw [getR_of hb]; rfl
  rw [wrap64 (x := (m : Int) + 1) (by omega) (by omega)]
  refine Leads.brD (fun _ => Leads.chk ⟨by omega, by omega, by omega, h3, h4⟩ fun _ => ?_) (fun q => by omega)
  rw [e]
  refine Leads.br (fun w => Leads.one (Goes.out ?_)) (fun w => Leads.one ?_)
  · have w : ((List.take m g).any fun y => touchR l y x1) = false := by simpa using w
    rw [w, Bool.false_and] at hx
    exact Out_leaf (Out_ff hx)
  · have w : ((List.take m g).any fun y => touchR l y x1) = true := by simpa using w
    rw [w, Bool.true_and] at hx
    refine Goes.again (ks := [.v false [.sl [.int .i64, .str, .str, .str, .int .i64, .str, .str, .str, .int .i64, .str, .str, .str]], .v false [.sl [.sl [.int .i64], .sl [.int .i64]]], .v false [.int .i64]]) ((_, ()), (_, ()), (_, ()), ()) rfl ?_ ?_ ?_
    · exact ⟨by omega, by omega, h3, h4⟩
    · simp only [lml_chained_0]; omega
    · simp only [lgl_chained_0, toNat_add1]
      rw [List.take_add_one, hb]; exact hx
theorem ltl_chained_1 (l : List (RowE [.int .i64, .str, .str, .str, .int .i64, .str, .str, .str, .int .i64, .str, .str, .str])) (g : List (RowE [.sl [.int .i64], .sl [.int .i64]])) (i : Int) (some_ : Bool) (k : Int) : evRound T (Ep (El_few)) (Ln (Ll_chained)) (loopAt 1 (loops (bodyOf Try.f24))) (lsl_chained_1) [.val (.d (.sl [.int .i64, .str, .str, .str, .int .i64, .str, .str, .str, .int .i64, .str, .str, .str] l)), .val (.d (.sl [.sl [.int .i64], .sl [.int .i64]] g)), .val (.d (.int .i64 i)), .val (.d (.bool  some_)), .val (.d (.int .i64 k))] =
    br (decide (k < i)) (br some_ (some (Rnd.again [SV.val (AV.d (D.sl t3S l)), SV.val (AV.d (D.sl grS g)), SV.val (AV.d (D.int IntKind.i64 i)), SV.val (AV.d (D.bool true)), SV.val (AV.d (D.int IntKind.i64 (IntKind.i64.wrap (k + (1 : Int)))))])) (chk ((0 : Int) ≤ k ∧ k < (↑g.length : Int)) (chk ((0 : Int) ≤ i ∧ i < (↑g.length : Int)) (chk (szGr (getR grS g k) ∧ szGr (getR grS g i)) (some (Rnd.again [SV.val (AV.d (D.sl t3S l)), SV.val (AV.d (D.sl grS g)), SV.val (AV.d (D.int IntKind.i64 i)), SV.val (AV.d (D.bool (touchR l (getR grS g k) (getR grS g i)))), SV.val (AV.d (D.int IntKind.i64 (IntKind.i64.wrap (k + (1 : Int)))))])))))) (some (Rnd.out (Ex.exit (2 : Nat)) [SV.val (AV.d (D.sl t3S l)), SV.val (AV.d (D.sl grS g)), SV.val (AV.d (D.int IntKind.i64 i)), SV.val (AV.d (D.bool some_))])) := by kernel_rfl
theorem lokl_chained_1 : LoopOK T (Ep (El_few)) (Ln (Ll_chained)) (loopAt 1 (loops (bodyOf Try.f24))) := by
  refine loop_ok (live := [0, 1, 5, 6, 7]) (outs := [0, 1, 5, 6]) (rets := []) (ks := [.v false [.sl [.int .i64, .str, .str, .str, .int .i64, .str, .str, .str, .int .i64, .str, .str, .str]], .v false [.sl [.sl [.int .i64], .sl [.int .i64]]], .v false [.int .i64], .v false [.bool], .v false [.int .i64]]) (G := lgl_chained_1) (lkl_chained_1) (lml_chained_1) (by kernel_rfl) ?_
  rintro ⟨⟨(l : List (RowE [.int .i64, .str, .str, .str, .int .i64, .str, .str, .str, .int .i64, .str, .str, .str])), _⟩, ⟨(g : List (RowE [.sl [.int .i64], .sl [.int .i64]])), _⟩, ⟨(i : Int), _⟩, ⟨(some_ : Bool), _⟩, ⟨(k : Int), _⟩, _⟩ x hok hx
  refine Leads.of_eq (ltl_chained_1 l g i some_ k) ?_
  obtain ⟨h0, h1, h2, h3, h4⟩ := hok
  obtain ⟨m, rfl⟩ := Int.eq_ofNat_of_zero_le h0
  simp only [lgl_chained_1, Int.toNat_natCast] at hx
  rcases drop_cases (g.take i.toNat) m with ⟨hle, hd⟩ | ⟨x1, hlt, hd, hb⟩
  · have hle : i.toNat ≤ m := by rw [List.length_take] at hle; omega
    rw [hd, List.any_nil, Bool.or_false] at hx
    exact Leads.brD (fun q => by omega) (fun _ => Leads.one (Goes.out (Out_leaf hx)))
  rw [List.length_take] at hlt
  have hb2 : g[m]? = some x1 := by rw [List.getElem?_take, if_pos (by omega)] at hb; exact hb
  rw [hd, List.any_cons] at hx
  rw [wrap64 (x := (m : Int) + 1) (by omega) (by omega)]
  refine Leads.brD (fun _ => Leads.br (fun w => Leads.one ?_) (fun w => Leads.chk (by omega) fun _ => Leads.chk (by omega) fun _ => Leads.chk ⟨h4 _ (getR_mem (by omega) (by omega)), h4 _ (getR_mem (by omega) (by omega))⟩ fun _ => Leads.one ?_)) (fun q => by omega)
  · have w : some_ = true := w
    rw [w, Bool.true_or] at hx
    refine Goes.again (ks := [.v false [.sl [.int .i64, .str, .str, .str, .int .i64, .str, .str, .str, .int .i64, .str, .str, .str]], .v false [.sl [.sl [.int .i64], .sl [.int .i64]]], .v false [.int .i64], .v false [.bool], .v false [.int .i64]]) ((_, ()), (_, ()), (_, ()), (_, ()), (_, ()), ()) rfl ?_ ?_ ?_
    · exact ⟨by omega, by omega, h2, h3, h4⟩
    · simp only [lml_chained_1]; omega
    · simp only [lgl_chained_1, toNat_add1]; rw [Bool.true_or]; exact hx
  · have w : some_ = false := w
    rw [w, Bool.false_or] at hx
    rw [getR_of hb2]
    refine Goes.again (ks := [.v false [.sl [.int .i64, .str, .str, .str, .int .i64, .str, .str, .str, .int .i64, .str, .str, .str]], .v false [.sl [.sl [.int .i64], .sl [.int .i64]]], .v false [.int .i64], .v false [.bool], .v false [.int .i64]]) ((_, ()), (_, ()), (_, ()), (_, ()), (_, ()), ()) rfl ?_ ?_ ?_
    · exact ⟨by omega, by omega, h2, h3, h4⟩
    · simp only [lml_chained_1]; omega
    · simp only [lgl_chained_1, toNat_add1]; exact hx
theorem tl_chained (l : List (RowE [.int .i64, .str, .str, .str, .int .i64, .str, .str, .str, .int .i64, .str, .str, .str])) (g : List (RowE [.sl [.int .i64], .sl [.int .i64]])) : evF T (Ep (El_few)) (Ln (Ll_chained)) Try.f24 [.d (.sl [.int .i64, .str, .str, .str, .int .i64, .str, .str, .str, .int .i64, .str, .str, .str] l), .d (.sl [.sl [.int .i64], .sl [.int .i64]] g)] =
    chk (lkl_chained_0 ((l, ()), (g, ()), ((1 : Int), ()), ())) (br (chainA l (List.take (Int.toNat (1 : Int)) g) (List.drop (Int.toNat (1 : Int)) g)) (some (SV.val (AV.d (D.bool true)))) (some (SV.val (AV.d (D.bool false))))) := by kernel_rfl
theorem satl_chained : Sat P 24 (Sl_chained) := by
  refine sat_mk (LT := Ln (Ll_chained)) hC (SatE.ep okl_few) mixed Try.func24 (by kernel_rfl) (c := bodyOf Try.f24) (by kernel_rfl) (by kernel_rfl) ?_ (loops2 (by kernel_rfl) (lokl_chained_0) (lokl_chained_1))
  rintro ⟨⟨(l : List (RowE [.int .i64, .str, .str, .str, .int .i64, .str, .str, .str, .int .i64, .str, .str, .str])), _⟩, ⟨(g : List (RowE [.sl [.int .i64], .sl [.int .i64]])), _⟩, _⟩ sv h
  refine Leads.eq (Leads.of_eq (tl_chained l g) ?_)
  obtain ⟨⟨h1, h2⟩, h⟩ := h
  obtain rfl := Out_leaf h
  unfold chainP
  refine Leads.chk ⟨by omega, by omega, h1, h2⟩ fun _ => Leads.br (fun w => Leads.one ?_) (fun w => Leads.one ?_)
  · rw [show chainA l (List.take 1 g) (List.drop 1 g) = true from w]
  · rw [show chainA l (List.take 1 g) (List.drop 1 g) = false from w]
def El_chained : Es := (24, (Sl_chained)) :: El_few
theorem okl_chained : SatE P (En (El_chained)) := SatE.cons (satl_chained) okl_few
/-! ### legation/legationlaw20.same -/
def lkl_same_0 : St [.v false [.sl [.sl [.int .i64], .sl [.int .i64]]], .v false [.sl [.sl [.int .i64], .sl [.int .i64]]], .v false [.int .i64]] → Prop := fun ⟨⟨(a : List (RowE [.sl [.int .i64], .sl [.int .i64]])), _⟩, ⟨(b : List (RowE [.sl [.int .i64], .sl [.int .i64]])), _⟩, ⟨(i : Int), _⟩, _⟩ => 0 ≤ i ∧ i ≤ (a.length : Int) ∧ a.length ≤ 2000000 ∧ b.length ≤ 2000000 ∧ ∀ x ∈ a, szGp x
def lgl_same_0 : St [.v false [.sl [.sl [.int .i64], .sl [.int .i64]]], .v false [.sl [.sl [.int .i64], .sl [.int .i64]]], .v false [.int .i64]] → Tr (Ex × List SV) := fun ⟨⟨(a : List (RowE [.sl [.int .i64], .sl [.int .i64]])), _⟩, ⟨(b : List (RowE [.sl [.int .i64], .sl [.int .i64]])), _⟩, ⟨(i : Int), _⟩, _⟩ => .br ((a.drop i.toNat).all fun x => decide (cntP x b = 1)) (.leaf (.exit 0, [.val (.d (.sl [.sl [.int .i64], .sl [.int .i64]] (a))), .val (.d (.sl [.sl [.int .i64], .sl [.int .i64]] (b)))])) (.leaf (.ret, [.val (.d (.bool  (false)))]))
def lml_same_0 : St [.v false [.sl [.sl [.int .i64], .sl [.int .i64]]], .v false [.sl [.sl [.int .i64], .sl [.int .i64]]], .v false [.int .i64]] → Nat := fun ⟨⟨(a : List (RowE [.sl [.int .i64], .sl [.int .i64]])), _⟩, ⟨(b : List (RowE [.sl [.int .i64], .sl [.int .i64]])), _⟩, ⟨(i : Int), _⟩, _⟩ => a.length - i.toNat
def lsl_same_0 : LoopS := mkR [0, 1, 5] [0, 1] [4] [.v false [.sl [.sl [.int .i64], .sl [.int .i64]]], .v false [.sl [.sl [.int .i64], .sl [.int .i64]]], .v false [.int .i64]] (fun r => .chk (lkl_same_0 r) (lgl_same_0 r))
def lkl_same_1 : St [.v false [.sl [.sl [.int .i64], .sl [.int .i64]]], .v false [.sl [.sl [.int .i64], .sl [.int .i64]]], .v false [.int .i64], .v false [.int .i64], .v false [.int .i64]] → Prop := fun ⟨⟨(a : List (RowE [.sl [.int .i64], .sl [.int .i64]])), _⟩, ⟨(b : List (RowE [.sl [.int .i64], .sl [.int .i64]])), _⟩, ⟨(i : Int), _⟩, ⟨(n : Int), _⟩, ⟨(k : Int), _⟩, _⟩ => 0 ≤ i ∧ i < (a.length : Int) ∧ 0 ≤ k ∧ k ≤ (b.length : Int) ∧ 0 ≤ n ∧ n ≤ k ∧ b.length ≤ 2000000 ∧ szGp (getR grS a i)
def lgl_same_1 : St [.v false [.sl [.sl [.int .i64], .sl [.int .i64]]], .v false [.sl [.sl [.int .i64], .sl [.int .i64]]], .v false [.int .i64], .v false [.int .i64], .v false [.int .i64]] → Tr (Ex × List SV) := fun ⟨⟨(a : List (RowE [.sl [.int .i64], .sl [.int .i64]])), _⟩, ⟨(b : List (RowE [.sl [.int .i64], .sl [.int .i64]])), _⟩, ⟨(i : Int), _⟩, ⟨(n : Int), _⟩, ⟨(k : Int), _⟩, _⟩ => .leaf (.exit 2, [.val (.d (.sl [.sl [.int .i64], .sl [.int .i64]] (a))), .val (.d (.sl [.sl [.int .i64], .sl [.int .i64]] (b))), .val (.d (.int .i64 (i))), .val (.d (.int .i64 (n + cntP (getR grS a i) (b.drop k.toNat))))])
def lml_same_1 : St [.v false [.sl [.sl [.int .i64], .sl [.int .i64]]], .v false [.sl [.sl [.int .i64], .sl [.int .i64]]], .v false [.int .i64], .v false [.int .i64], .v false [.int .i64]] → Nat := fun ⟨⟨(a : List (RowE [.sl [.int .i64], .sl [.int .i64]])), _⟩, ⟨(b : List (RowE [.sl [.int .i64], .sl [.int .i64]])), _⟩, ⟨(i : Int), _⟩, ⟨(n : Int), _⟩, ⟨(k : Int), _⟩, _⟩ => b.length - k.toNat
def lsl_same_1 : LoopS := mkR [0, 1, 5, 6, 7] [0, 1, 5, 6] [] [.v false [.sl [.sl [.int .i64], .sl [.int .i64]]], .v false [.sl [.sl [.int .i64], .sl [.int .i64]]], .v false [.int .i64], .v false [.int .i64], .v false [.int .i64]] (fun r => .chk (lkl_same_1 r) (lgl_same_1 r))
def Ll_same : Ls := [(2, lsl_same_0), (6, lsl_same_1)]
def Sl_same := mkS [(false, [.sl [.sl [.int .i64], .sl [.int .i64]]]), (false, [.sl [.sl [.int .i64], .sl [.int .i64]]])] fun ⟨⟨(a : List (RowE [.sl [.int .i64], .sl [.int .i64]])), _⟩, ⟨(b : List (RowE [.sl [.int .i64], .sl [.int .i64]])), _⟩, _⟩ => .chk (a.length ≤ 2000000 ∧ b.length ≤ 2000000 ∧ ∀ x ∈ a, szGp x) (.leaf (.val (.d (.bool (sameP a b)))))
theorem ltl_same_0 (a : List (RowE [.sl [.int .i64], .sl [.int .i64]])) (b : List (RowE [.sl [.int .i64], .sl [.int .i64]])) (i : Int) : evRound T (Ep (El_chained)) (Ln (Ll_same)) (loopAt 0 (loops (bodyOf Try.f25))) (lsl_same_0) [.val (.d (.sl [.sl [.int .i64], .sl [.int .i64]] a)), .val (.d (.sl [.sl [.int .i64], .sl [.int .i64]] b)), .val (.d (.int .i64 i))] =
    br (decide (i < (↑a.length : Int))) (chk (lkl_same_1 ((a, ()), (b, ()), (i, ()), ((0 : Int), ()), ((0 : Int), ()), ())) (br ((0 : Int) + cntP (getR grS a i) (List.drop (Int.toNat (0 : Int)) b) != (1 : Int)) (some (Rnd.out Ex.ret [SV.val (AV.d (D.bool false))])) (some (Rnd.again [SV.val (AV.d (D.sl grS a)), SV.val (AV.d (D.sl grS b)), SV.val (AV.d (D.int IntKind.i64 (IntKind.i64.wrap (i + (1 : Int)))))])))) (some (Rnd.out (Ex.exit (0 : Nat)) [SV.val (AV.d (D.sl grS a)), SV.val (AV.d (D.sl grS b))])) := by kernel_rfl
theorem lokl_same_0 : LoopOK T (Ep (El_chained)) (Ln (Ll_same)) (loopAt 0 (loops (bodyOf Try.f25))) := by
  refine loop_ok (live := [0, 1, 5]) (outs := [0, 1]) (rets := [4]) (ks := [.v false [.sl [.sl [.int .i64], .sl [.int .i64]]], .v false [.sl [.sl [.int .i64], .sl [.int .i64]]], .v false [.int .i64]]) (G := lgl_same_0) (lkl_same_0) (lml_same_0) (by kernel_rfl) ?_
  rintro ⟨⟨(a : List (RowE [.sl [.int .i64], .sl [.int .i64]])), _⟩, ⟨(b : List (RowE [.sl [.int .i64], .sl [.int .i64]])), _⟩, ⟨(i : Int), _⟩, _⟩ x hok hx
  refine Leads.of_eq (ltl_same_0 a b i) ?_
  obtain ⟨h0, h1, h2, h3, h4⟩ := hok
  obtain ⟨m, rfl⟩ := Int.eq_ofNat_of_zero_le h0
  simp only [lgl_same_0, Int.toNat_natCast] at hx
  rcases drop_cases a m with ⟨hle, hd⟩ | ⟨x1, hlt, hd, hb⟩
  · rw [hd] at hx
    exact Leads.brD (fun q => by omega) (fun _ => Leads.one (Goes.out (Out_leaf (Out_tt hx))))
  rw [hd, List.all_cons] at hx
  rw [wrap64 (x := (m : Int) + 1) (by omega) (by omega)]
  refine Leads.brD (fun _ => Leads.chk ⟨by omega, by omega, by omega, by omega, by omega, by omega, h3, h4 _ (getR_mem (by omega) (by omega))⟩ fun _ => ?_) (fun q => by omega)
  rw [getR_of hb, Int.zero_add, show List.drop (Int.toNat (0 : Int)) b = b from rfl]
  refine Leads.br (fun w => Leads.one (Goes.out ?_)) (fun w => Leads.one ?_)
  · have w : ¬ cntP x1 b = 1 := by simpa using w
    rw [decide_eq_false w, Bool.false_and] at hx
    exact Out_leaf (Out_ff hx)
  · have w : cntP x1 b = 1 := by simpa using w
    rw [decide_eq_true w, Bool.true_and] at hx
    refine Goes.again (ks := [.v false [.sl [.sl [.int .i64], .sl [.int .i64]]], .v false [.sl [.sl [.int .i64], .sl [.int .i64]]], .v false [.int .i64]]) ((_, ()), (_, ()), (_, ()), ()) rfl ?_ ?_ ?_
    · exact ⟨by omega, by omega, h2, h3, h4⟩
    · simp only [lml_same_0]; omega
    · simp only [lgl_same_0, toNat_add1]; exact hx
theorem ltl_same_1 (a : List (RowE [.sl [.int .i64], .sl [.int .i64]])) (b : List (RowE [.sl [.int .i64], .sl [.int .i64]])) (i : Int) (n : Int) (k : Int) : evRound T (Ep (El_chained)) (Ln (Ll_same)) (loopAt 1 (loops (bodyOf Try.f25))) (lsl_same_1) [.val (.d (.sl [.sl [.int .i64], .sl [.int .i64]] a)), .val (.d (.sl [.sl [.int .i64], .sl [.int .i64]] b)), .val (.d (.int .i64 i)), .val (.d (.int .i64 n)), .val (.d (.int .i64 k))] =
    br (decide (k < (↑b.length : Int))) (chk ((0 : Int) ≤ i ∧ i < (↑a.length : Int)) (chk ((0 : Int) ≤ k ∧ k < (↑b.length : Int)) (chk (List.length (getR grS a i).fst ≤ (140737488355328 : Nat)) (br (sameI (getR grS a i).fst (getR grS b k).fst) (chk ((0 : Int) ≤ i ∧ i < (↑a.length : Int)) (chk ((0 : Int) ≤ k ∧ k < (↑b.length : Int)) (chk (List.length (getR grS a i).snd.fst ≤ (140737488355328 : Nat)) (br (sameI (getR grS a i).snd.fst (getR grS b k).snd.fst) (some (Rnd.again [SV.val (AV.d (D.sl grS a)), SV.val (AV.d (D.sl grS b)), SV.val (AV.d (D.int IntKind.i64 i)), SV.val (AV.d (D.int IntKind.i64 (IntKind.i64.wrap (n + (1 : Int))))), SV.val (AV.d (D.int IntKind.i64 (IntKind.i64.wrap (k + (1 : Int)))))])) (some (Rnd.again [SV.val (AV.d (D.sl grS a)), SV.val (AV.d (D.sl grS b)), SV.val (AV.d (D.int IntKind.i64 i)), SV.val (AV.d (D.int IntKind.i64 n)), SV.val (AV.d (D.int IntKind.i64 (IntKind.i64.wrap (k + (1 : Int)))))])))))) (some (Rnd.again [SV.val (AV.d (D.sl grS a)), SV.val (AV.d (D.sl grS b)), SV.val (AV.d (D.int IntKind.i64 i)), SV.val (AV.d (D.int IntKind.i64 n)), SV.val (AV.d (D.int IntKind.i64 (IntKind.i64.wrap (k + (1 : Int)))))])))))) (some (Rnd.out (Ex.exit (2 : Nat)) [SV.val (AV.d (D.sl grS a)), SV.val (AV.d (D.sl grS b)), SV.val (AV.d (D.int IntKind.i64 i)), SV.val (AV.d (D.int IntKind.i64 n))])) := by kernel_rfl
theorem lokl_same_1 : LoopOK T (Ep (El_chained)) (Ln (Ll_same)) (loopAt 1 (loops (bodyOf Try.f25))) := by
  refine loop_ok (live := [0, 1, 5, 6, 7]) (outs := [0, 1, 5, 6]) (rets := []) (ks := [.v false [.sl [.sl [.int .i64], .sl [.int .i64]]], .v false [.sl [.sl [.int .i64], .sl [.int .i64]]], .v false [.int .i64], .v false [.int .i64], .v false [.int .i64]]) (G := lgl_same_1) (lkl_same_1) (lml_same_1) (by kernel_rfl) ?_
  rintro ⟨⟨(a : List (RowE [.sl [.int .i64], .sl [.int .i64]])), _⟩, ⟨(b : List (RowE [.sl [.int .i64], .sl [.int .i64]])), _⟩, ⟨(i : Int), _⟩, ⟨(n : Int), _⟩, ⟨(k : Int), _⟩, _⟩ x hok hx
  refine Leads.of_eq (ltl_same_1 a b i n k) ?_
  obtain ⟨g0, g1, h0, h1, h2, h3, h4, h5⟩ := hok
  obtain ⟨m, rfl⟩ := Int.eq_ofNat_of_zero_le h0
  simp only [lgl_same_1, Int.toNat_natCast] at hx
  rcases drop_cases b m with ⟨hle, hd⟩ | ⟨x1, hlt, hd, hb⟩
  · rw [hd, show cntP (getR grS a i) [] = 0 from rfl, Int.add_zero] at hx
    exact Leads.brD (fun q => by omega) (fun _ => Leads.one (Goes.out (Out_leaf hx)))
  rw [hd, cntP_cons] at hx
  rw [getR_of hb, wrap64 (x := (m : Int) + 1) (by omega) (by omega), wrap64 (x := n + 1) (by omega) (by omega)]
  have no : ¬ sameG1 (getR grS a i) x1 = true → Goes [.v false [.sl [.sl [.int .i64], .sl [.int .i64]]], .v false [.sl [.sl [.int .i64], .sl [.int .i64]]], .v false [.int .i64], .v false [.int .i64], .v false [.int .i64]] lgl_same_1 lkl_same_1 lml_same_1 ((a, ()), (b, ()), (i, ()), (n, ()), ((m : Int), ()), ()) x (.again (St.svs [.v false [.sl [.sl [.int .i64], .sl [.int .i64]]], .v false [.sl [.sl [.int .i64], .sl [.int .i64]]], .v false [.int .i64], .v false [.int .i64], .v false [.int .i64]] ((a, ()), (b, ()), (i, ()), (n, ()), ((m : Int) + 1, ()), ()))) := fun hno => by
    refine Goes.again (ks := [.v false [.sl [.sl [.int .i64], .sl [.int .i64]]], .v false [.sl [.sl [.int .i64], .sl [.int .i64]]], .v false [.int .i64], .v false [.int .i64], .v false [.int .i64]]) _ rfl ?_ ?_ ?_
    · exact ⟨g0, g1, by omega, by omega, h2, by omega, h4, h5⟩
    · simp only [lml_same_1]; omega
    · simp only [lgl_same_1, toNat_add1]
      rw [if_neg hno, Int.zero_add] at hx; exact hx
  refine Leads.brD (fun _ => Leads.chk (by omega) fun _ => Leads.chk (by omega) fun _ => Leads.chk (show _ ≤ _ from by have := h5.1; omega) fun _ => Leads.br (fun w => Leads.chk (by omega) fun _ => Leads.chk (by omega) fun _ => Leads.chk (show _ ≤ _ from by have := h5.2; omega) fun _ => Leads.br (fun w2 => Leads.one ?_) (fun w2 => Leads.one (no ?_))) (fun w => Leads.one (no ?_))) (fun q => by omega)
  · have w3 : sameG1 (getR grS a i) x1 = true := by unfold sameG1; rw [show sameI (getR grS a i).1 x1.1 = true from w, show sameI (getR grS a i).2.1 x1.2.1 = true from w2]; rfl
    rw [if_pos w3, ← Int.add_assoc] at hx
    refine Goes.again (ks := [.v false [.sl [.sl [.int .i64], .sl [.int .i64]]], .v false [.sl [.sl [.int .i64], .sl [.int .i64]]], .v false [.int .i64], .v false [.int .i64], .v false [.int .i64]]) ((_, ()), (_, ()), (_, ()), (_, ()), (_, ()), ()) rfl ?_ ?_ ?_
    · exact ⟨g0, g1, by omega, by omega, by omega, by omega, h4, h5⟩
    · simp only [lml_same_1]; omega
    · simp only [lgl_same_1, toNat_add1]; exact hx
  · unfold sameG1; rw [show sameI (getR grS a i).2.1 x1.2.1 = false from w2, Bool.and_false]; simp
  · unfold sameG1; rw [show sameI (getR grS a i).1 x1.1 = false from w, Bool.false_and]; simp
theorem tl_same (a : List (RowE [.sl [.int .i64], .sl [.int .i64]])) (b : List (RowE [.sl [.int .i64], .sl [.int .i64]])) : evF T (Ep (El_chained)) (Ln (Ll_same)) Try.f25 [.d (.sl [.sl [.int .i64], .sl [.int .i64]] a), .d (.sl [.sl [.int .i64], .sl [.int .i64]] b)] =
    chk (lkl_same_0 ((a, ()), (b, ()), ((0 : Int), ()), ())) (br ((List.drop (Int.toNat (0 : Int)) a).all fun x => decide (cntP x b = (1 : Int))) (some (SV.val (AV.d (D.bool ((↑a.length : Int) == (↑b.length : Int)))))) (some (SV.val (AV.d (D.bool false))))) := by kernel_rfl
theorem satl_same : Sat P 25 (Sl_same) := by
  refine sat_mk (LT := Ln (Ll_same)) hC (SatE.ep okl_chained) mixed Try.func25 (by kernel_rfl) (c := bodyOf Try.f25) (by kernel_rfl) (by kernel_rfl) ?_ (loops2 (by kernel_rfl) (lokl_same_0) (lokl_same_1))
  rintro ⟨⟨(a : List (RowE [.sl [.int .i64], .sl [.int .i64]])), _⟩, ⟨(b : List (RowE [.sl [.int .i64], .sl [.int .i64]])), _⟩, _⟩ sv h
  refine Leads.eq (Leads.of_eq (tl_same a b) ?_)
  obtain ⟨⟨h1, h2, h3⟩, h⟩ := h
  obtain rfl := Out_leaf h
  unfold sameP
  have e : ((a.length : Int) == (b.length : Int)) = decide (a.length = b.length) := by
    rw [Bool.eq_iff_iff, beq_iff_eq, decide_eq_true_eq]; omega
  refine Leads.chk ⟨by omega, by omega, h1, h2, h3⟩ fun _ => Leads.br (fun w => Leads.one ?_) (fun w => Leads.one ?_)
  · rw [show (a.all fun x => decide (cntP x b = 1)) = true from w, Bool.true_and, e]
  · rw [show (a.all fun x => decide (cntP x b = 1)) = false from w, Bool.false_and]
def El_same : Es := (25, (Sl_same)) :: El_chained
theorem okl_same : SatE P (En (El_same)) := SatE.cons (satl_same) okl_chained
/-! ### legation/legationlaw20.SourcesProbes -/
def Ll_Probes : Ls := []
def Sl_Probes := mkS [(true, t3S)] fun ⟨(p : RowE t3S), _⟩ => .chk (sz3 140737488355328 p) (.leaf (.val (.d (.bool true))))
theorem tl_Probes (p : RowE t3S) : evF T (Ep (El_same)) (Ln (Ll_Probes)) Try.f6 [.agg (rowD t3S p)] =
    chk (sz3 (140737488355328 : Nat) p)
  (chk (sz3 (140737488355328 : Nat) p)
    (br (!pat p) (br ((if pat p = true then (0 : Int) else (2 : Int)) == (2 : Int)) (br (!(probeP p).fst) (br ((↑(List.length (probeP p).snd.snd.snd.snd.snd.snd.snd.snd.snd.fst) : Int) == (0 : Int)) (br ((probeP p).snd.snd.snd.snd.snd.snd.snd.fst == (0 : Int)) (some (SV.val (AV.d (D.bool true)))) (some (SV.val (AV.d (D.bool false))))) (some (SV.val (AV.d (D.bool false))))) (some (SV.val (AV.d (D.bool false))))) (some (SV.val (AV.d (D.bool false)))))
      (br ((if pat p = true then (0 : Int) else (2 : Int)) != (0 : Int)) (some (SV.val (AV.d (D.bool false))))
        (br (!(probeP p).fst) (some (SV.val (AV.d (D.bool false))))
          (br ((probeP p).snd.snd.snd.snd.snd.snd.snd.fst != (-1 : Int)) (some (SV.val (AV.d (D.bool false))))
            (br ((probeP p).snd.snd.snd.snd.snd.snd.snd.snd.fst != (0 : Int)) (some (SV.val (AV.d (D.bool false))))
              (br (probeP p).snd.fst (some (SV.val (AV.d (D.bool false))))
                (br (probeP p).snd.snd.snd.snd.fst (some (SV.val (AV.d (D.bool false))))
                  (br (decide (IntKind.i64.wrap (IntKind.i64.wrap (IntKind.i64.wrap ((↑(List.length (probeP p).snd.snd.fst) : Int) + (↑(List.length (probeP p).snd.snd.snd.fst) : Int)) + (↑(List.length (probeP p).snd.snd.snd.snd.snd.fst) : Int)) + (↑(List.length (probeP p).snd.snd.snd.snd.snd.snd.fst) : Int)) > (0 : Int))) (some (SV.val (AV.d (D.bool false))))
                    (br ((↑(List.length (probeP p).snd.snd.snd.snd.snd.snd.snd.snd.snd.fst) : Int) != (1 : Int)) (some (SV.val (AV.d (D.bool false))))
                      (chk ((0 : Int) ≤ (0 : Int) ∧ (0 : Int) < (↑(List.length (probeP p).snd.snd.snd.snd.snd.snd.snd.snd.snd.fst) : Int))
                        (br ((getR [Sh.int IntKind.i64, Sh.sl t3S, Sh.sl [Sh.str], Sh.sl [Sh.sl tmS], Sh.sl [Sh.int IntKind.i64, Sh.int IntKind.i64, Sh.str, Sh.str, Sh.str, Sh.str, Sh.int IntKind.i64], Sh.str, Sh.bool] (probeP p).snd.snd.snd.snd.snd.snd.snd.snd.snd.fst (0 : Int)).fst == (1 : Int))
                          (br ((↑(List.length (getR [Sh.int IntKind.i64, Sh.sl t3S, Sh.sl [Sh.str], Sh.sl [Sh.sl tmS], Sh.sl [Sh.int IntKind.i64, Sh.int IntKind.i64, Sh.str, Sh.str, Sh.str, Sh.str, Sh.int IntKind.i64], Sh.str, Sh.bool] (probeP p).snd.snd.snd.snd.snd.snd.snd.snd.snd.fst (0 : Int)).snd.fst) : Int) == (1 : Int))
                            (chk ((0 : Int) ≤ (0 : Int) ∧ (0 : Int) < (↑(List.length (getR [Sh.int IntKind.i64, Sh.sl t3S, Sh.sl [Sh.str], Sh.sl [Sh.sl tmS], Sh.sl [Sh.int IntKind.i64, Sh.int IntKind.i64, Sh.str, Sh.str, Sh.str, Sh.str, Sh.int IntKind.i64], Sh.str, Sh.bool] (probeP p).snd.snd.snd.snd.snd.snd.snd.snd.snd.fst (0 : Int)).snd.fst) : Int))
                              (br
                                ((getR t3S (getR [Sh.int IntKind.i64, Sh.sl t3S, Sh.sl [Sh.str], Sh.sl [Sh.sl tmS], Sh.sl [Sh.int IntKind.i64, Sh.int IntKind.i64, Sh.str, Sh.str, Sh.str, Sh.str, Sh.int IntKind.i64], Sh.str, Sh.bool] (probeP p).snd.snd.snd.snd.snd.snd.snd.snd.snd.fst (0 : Int)).snd.fst (0 : Int)).fst == p.fst &&
                                  ((getR t3S (getR [Sh.int IntKind.i64, Sh.sl t3S, Sh.sl [Sh.str], Sh.sl [Sh.sl tmS], Sh.sl [Sh.int IntKind.i64, Sh.int IntKind.i64, Sh.str, Sh.str, Sh.str, Sh.str, Sh.int IntKind.i64], Sh.str, Sh.bool] (probeP p).snd.snd.snd.snd.snd.snd.snd.snd.snd.fst (0 : Int)).snd.fst (0 : Int)).snd.fst == p.snd.fst &&
                                    ((getR t3S (getR [Sh.int IntKind.i64, Sh.sl t3S, Sh.sl [Sh.str], Sh.sl [Sh.sl tmS], Sh.sl [Sh.int IntKind.i64, Sh.int IntKind.i64, Sh.str, Sh.str, Sh.str, Sh.str, Sh.int IntKind.i64], Sh.str, Sh.bool] (probeP p).snd.snd.snd.snd.snd.snd.snd.snd.snd.fst (0 : Int)).snd.fst (0 : Int)).snd.snd.fst == p.snd.snd.fst &&
                                      ((getR t3S (getR [Sh.int IntKind.i64, Sh.sl t3S, Sh.sl [Sh.str], Sh.sl [Sh.sl tmS], Sh.sl [Sh.int IntKind.i64, Sh.int IntKind.i64, Sh.str, Sh.str, Sh.str, Sh.str, Sh.int IntKind.i64], Sh.str, Sh.bool] (probeP p).snd.snd.snd.snd.snd.snd.snd.snd.snd.fst (0 : Int)).snd.fst (0 : Int)).snd.snd.snd.fst == p.snd.snd.snd.fst &&
                                        ((getR t3S (getR [Sh.int IntKind.i64, Sh.sl t3S, Sh.sl [Sh.str], Sh.sl [Sh.sl tmS], Sh.sl [Sh.int IntKind.i64, Sh.int IntKind.i64, Sh.str, Sh.str, Sh.str, Sh.str, Sh.int IntKind.i64], Sh.str, Sh.bool] (probeP p).snd.snd.snd.snd.snd.snd.snd.snd.snd.fst (0 : Int)).snd.fst (0 : Int)).snd.snd.snd.snd.fst == p.snd.snd.snd.snd.fst &&
                                          ((getR t3S (getR [Sh.int IntKind.i64, Sh.sl t3S, Sh.sl [Sh.str], Sh.sl [Sh.sl tmS], Sh.sl [Sh.int IntKind.i64, Sh.int IntKind.i64, Sh.str, Sh.str, Sh.str, Sh.str, Sh.int IntKind.i64], Sh.str, Sh.bool] (probeP p).snd.snd.snd.snd.snd.snd.snd.snd.snd.fst (0 : Int)).snd.fst (0 : Int)).snd.snd.snd.snd.snd.fst == p.snd.snd.snd.snd.snd.fst &&
                                            ((getR t3S (getR [Sh.int IntKind.i64, Sh.sl t3S, Sh.sl [Sh.str], Sh.sl [Sh.sl tmS], Sh.sl [Sh.int IntKind.i64, Sh.int IntKind.i64, Sh.str, Sh.str, Sh.str, Sh.str, Sh.int IntKind.i64], Sh.str, Sh.bool] (probeP p).snd.snd.snd.snd.snd.snd.snd.snd.snd.fst (0 : Int)).snd.fst (0 : Int)).snd.snd.snd.snd.snd.snd.fst == p.snd.snd.snd.snd.snd.snd.fst &&
                                              ((getR t3S (getR [Sh.int IntKind.i64, Sh.sl t3S, Sh.sl [Sh.str], Sh.sl [Sh.sl tmS], Sh.sl [Sh.int IntKind.i64, Sh.int IntKind.i64, Sh.str, Sh.str, Sh.str, Sh.str, Sh.int IntKind.i64], Sh.str, Sh.bool] (probeP p).snd.snd.snd.snd.snd.snd.snd.snd.snd.fst (0 : Int)).snd.fst (0 : Int)).snd.snd.snd.snd.snd.snd.snd.fst == p.snd.snd.snd.snd.snd.snd.snd.fst && ((getR t3S (getR [Sh.int IntKind.i64, Sh.sl t3S, Sh.sl [Sh.str], Sh.sl [Sh.sl tmS], Sh.sl [Sh.int IntKind.i64, Sh.int IntKind.i64, Sh.str, Sh.str, Sh.str, Sh.str, Sh.int IntKind.i64], Sh.str, Sh.bool] (probeP p).snd.snd.snd.snd.snd.snd.snd.snd.snd.fst (0 : Int)).snd.fst (0 : Int)).snd.snd.snd.snd.snd.snd.snd.snd.fst == p.snd.snd.snd.snd.snd.snd.snd.snd.fst && ((getR t3S (getR [Sh.int IntKind.i64, Sh.sl t3S, Sh.sl [Sh.str], Sh.sl [Sh.sl tmS], Sh.sl [Sh.int IntKind.i64, Sh.int IntKind.i64, Sh.str, Sh.str, Sh.str, Sh.str, Sh.int IntKind.i64], Sh.str, Sh.bool] (probeP p).snd.snd.snd.snd.snd.snd.snd.snd.snd.fst (0 : Int)).snd.fst (0 : Int)).snd.snd.snd.snd.snd.snd.snd.snd.snd.fst == p.snd.snd.snd.snd.snd.snd.snd.snd.snd.fst && ((getR t3S (getR [Sh.int IntKind.i64, Sh.sl t3S, Sh.sl [Sh.str], Sh.sl [Sh.sl tmS], Sh.sl [Sh.int IntKind.i64, Sh.int IntKind.i64, Sh.str, Sh.str, Sh.str, Sh.str, Sh.int IntKind.i64], Sh.str, Sh.bool] (probeP p).snd.snd.snd.snd.snd.snd.snd.snd.snd.fst (0 : Int)).snd.fst (0 : Int)).snd.snd.snd.snd.snd.snd.snd.snd.snd.snd.fst == p.snd.snd.snd.snd.snd.snd.snd.snd.snd.snd.fst && (getR t3S (getR [Sh.int IntKind.i64, Sh.sl t3S, Sh.sl [Sh.str], Sh.sl [Sh.sl tmS], Sh.sl [Sh.int IntKind.i64, Sh.int IntKind.i64, Sh.str, Sh.str, Sh.str, Sh.str, Sh.int IntKind.i64], Sh.str, Sh.bool] (probeP p).snd.snd.snd.snd.snd.snd.snd.snd.snd.fst (0 : Int)).snd.fst (0 : Int)).snd.snd.snd.snd.snd.snd.snd.snd.snd.snd.snd.fst == p.snd.snd.snd.snd.snd.snd.snd.snd.snd.snd.snd.fst)))))))))))
                                (br ((↑(List.length (getR [Sh.int IntKind.i64, Sh.sl t3S, Sh.sl [Sh.str], Sh.sl [Sh.sl tmS], Sh.sl [Sh.int IntKind.i64, Sh.int IntKind.i64, Sh.str, Sh.str, Sh.str, Sh.str, Sh.int IntKind.i64], Sh.str, Sh.bool] (probeP p).snd.snd.snd.snd.snd.snd.snd.snd.snd.fst (0 : Int)).snd.snd.snd.snd.fst) : Int) == (0 : Int)) (br ((getR [Sh.int IntKind.i64, Sh.sl t3S, Sh.sl [Sh.str], Sh.sl [Sh.sl tmS], Sh.sl [Sh.int IntKind.i64, Sh.int IntKind.i64, Sh.str, Sh.str, Sh.str, Sh.str, Sh.int IntKind.i64], Sh.str, Sh.bool] (probeP p).snd.snd.snd.snd.snd.snd.snd.snd.snd.fst (0 : Int)).snd.snd.snd.snd.snd.fst == []) (br (!(getR [Sh.int IntKind.i64, Sh.sl t3S, Sh.sl [Sh.str], Sh.sl [Sh.sl tmS], Sh.sl [Sh.int IntKind.i64, Sh.int IntKind.i64, Sh.str, Sh.str, Sh.str, Sh.str, Sh.int IntKind.i64], Sh.str, Sh.bool] (probeP p).snd.snd.snd.snd.snd.snd.snd.snd.snd.fst (0 : Int)).snd.snd.snd.snd.snd.snd.fst) (some (SV.val (AV.d (D.bool true)))) (some (SV.val (AV.d (D.bool false))))) (some (SV.val (AV.d (D.bool false))))) (some (SV.val (AV.d (D.bool false))))) (some (SV.val (AV.d (D.bool false))))))
                            (some (SV.val (AV.d (D.bool false)))))
                          (some (SV.val (AV.d (D.bool false)))))))))))))))) := by kernel_rfl
theorem satl_Probes : Sat P 6 (Sl_Probes) := by
  refine sat_mk (LT := Ln (Ll_Probes)) hC (SatE.ep okl_same) mixed Try.func6 (by kernel_rfl) (c := bodyOf Try.f6) (by kernel_rfl) (by kernel_rfl) ?_ (loops0 (by kernel_rfl))
  rintro ⟨(p : RowE t3S), _⟩ sv h
  refine Leads.eq (Leads.of_eq (tl_Probes p) ?_)
  obtain ⟨h1, h⟩ := h
  obtain rfl := Out_leaf h
  refine Leads.chk h1 fun _ => Leads.chk h1 fun _ => ?_
  cases hp : pat p
  · have e : probeP p = RowE.dflt qyS := by unfold probeP; rw [hp]; rfl
    rw [e]
    exact Leads.br (fun _ => Leads.br (fun _ => Leads.br (fun _ => Leads.br (fun _ => Leads.br (fun _ => Leads.one rfl) (fun w => absurd w (by decide))) (fun w => absurd w (by decide))) (fun w => absurd w (by decide))) (fun w => absurd w (by decide))) (fun w => absurd w (by decide))
  · have e : probeP p = (true, false, [], [], false, [], [], -1, 0, [((1, [p], [], [], [], [], false, ()) : RowE opqS)], ()) := by unfold probeP; rw [hp]; rfl
    rw [e]
    refine Leads.br (fun w => nomatch (show false = true from w)) (fun _ => ?_)
    refine Leads.br (fun w => nomatch (show false = true from w)) (fun _ => ?_)
    refine Leads.br (fun w => nomatch (show false = true from w)) (fun _ => ?_)
    refine Leads.br (fun w => nomatch (show false = true from w)) (fun _ => ?_)
    refine Leads.br (fun w => nomatch (show false = true from w)) (fun _ => ?_)
    refine Leads.br (fun w => nomatch (show false = true from w)) (fun _ => ?_)
    refine Leads.br (fun w => nomatch (show false = true from w)) (fun _ => ?_)
    refine Leads.br (fun w => nomatch (show false = true from w)) (fun _ => ?_)
    refine Leads.chk ⟨Int.le_refl _, show (0 : Int) < 1 by decide⟩ fun _ => ?_
    refine Leads.br (fun _ => ?_) (fun w => nomatch (show true = false from w))
    refine Leads.br (fun _ => ?_) (fun w => nomatch (show true = false from w))
    refine Leads.chk ⟨Int.le_refl _, show (0 : Int) < 1 by decide⟩ fun _ => ?_
    refine Leads.br (fun _ => ?_) (fun w => absurd w (by simp [getR]))
    exact Leads.br (fun _ => Leads.br (fun _ => Leads.br (fun _ => Leads.one rfl) (fun w => nomatch (show true = false from w))) (fun w => nomatch (show true = false from w))) (fun w => nomatch (show true = false from w))
def El_Probes : Es := (6, (Sl_Probes)) :: El_same
theorem okl_Probes : SatE P (En (El_Probes)) := SatE.cons (satl_Probes) okl_same
/-! ### legation/legationlaw20.SourcesPoints -/
def lkl_Points_0 : St [.v false [.sl [.sl [.int .i64]]], .v false [.sl [.sl [.int .i64]]], .v false [.int .i64]] → Prop := fun ⟨⟨(l : List (RowE [.sl [.int .i64]])), _⟩, ⟨(m : List (RowE [.sl [.int .i64]])), _⟩, ⟨(i : Int), _⟩, _⟩ => 0 ≤ i ∧ i ≤ (l.length : Int) ∧ l = m ∧ l.length ≤ 5864062014805 ∧ ∀ x ∈ l, (x.1 : List Nt).length ≤ 140737488355328
def lgl_Points_0 : St [.v false [.sl [.sl [.int .i64]]], .v false [.sl [.sl [.int .i64]]], .v false [.int .i64]] → Tr (Ex × List SV) := fun ⟨⟨(l : List (RowE [.sl [.int .i64]])), _⟩, ⟨(m : List (RowE [.sl [.int .i64]])), _⟩, ⟨(i : Int), _⟩, _⟩ => .leaf (.exit 0, [])
def lml_Points_0 : St [.v false [.sl [.sl [.int .i64]]], .v false [.sl [.sl [.int .i64]]], .v false [.int .i64]] → Nat := fun ⟨⟨(l : List (RowE [.sl [.int .i64]])), _⟩, ⟨(m : List (RowE [.sl [.int .i64]])), _⟩, ⟨(i : Int), _⟩, _⟩ => l.length - i.toNat
def lsl_Points_0 : LoopS := mkR [5, 7, 9] [] [4] [.v false [.sl [.sl [.int .i64]]], .v false [.sl [.sl [.int .i64]]], .v false [.int .i64]] (fun r => .chk (lkl_Points_0 r) (lgl_Points_0 r))
def Ll_Points : Ls := [(6, lsl_Points_0)]
def Sl_Points := mkS [(false, [.sl [.sl [.bool]]]), (false, [.int .i64])] fun ⟨⟨(answers : List (RowE [.sl [.bool]])), _⟩, ⟨(points : Int), _⟩, _⟩ => .chk (answers.length ≤ 5864062014805 ∧ ∀ x ∈ answers, (x.1 : List (RowE [.bool])).length ≤ 140737488355328) (.leaf (.val (.d (.bool true))))
theorem ltl_Points_0 (l : List (RowE [.sl [.int .i64]])) (m : List (RowE [.sl [.int .i64]])) (i : Int) : evRound T (Ep (El_Probes)) (Ln (Ll_Points)) (loopAt 0 (loops (bodyOf Try.f5))) (lsl_Points_0) [.val (.d (.sl [.sl [.int .i64]] l)), .val (.d (.sl [.sl [.int .i64]] m)), .val (.d (.int .i64 i))] =
    br (decide (i < (↑l.length : Int))) (chk ((0 : Int) ≤ i ∧ i < (↑l.length : Int)) (chk ((0 : Int) ≤ i ∧ i < (↑m.length : Int)) (chk (List.length (getR [Sh.sl [Sh.int IntKind.i64]] l i).fst ≤ (140737488355328 : Nat)) (br (!sameI (getR [Sh.sl [Sh.int IntKind.i64]] l i).fst (getR [Sh.sl [Sh.int IntKind.i64]] m i).fst) (some (Rnd.out Ex.ret [SV.val (AV.d (D.bool false))])) (some (Rnd.again [SV.val (AV.d (D.sl [Sh.sl [Sh.int IntKind.i64]] l)), SV.val (AV.d (D.sl [Sh.sl [Sh.int IntKind.i64]] m)), SV.val (AV.d (D.int IntKind.i64 (IntKind.i64.wrap (i + (1 : Int)))))])))))) (some (Rnd.out (Ex.exit (0 : Nat)) [])) := by kernel_rfl
theorem lokl_Points_0 : LoopOK T (Ep (El_Probes)) (Ln (Ll_Points)) (loopAt 0 (loops (bodyOf Try.f5))) := by
  refine loop_ok (live := [5, 7, 9]) (outs := []) (rets := [4]) (ks := [.v false [.sl [.sl [.int .i64]]], .v false [.sl [.sl [.int .i64]]], .v false [.int .i64]]) (G := lgl_Points_0) (lkl_Points_0) (lml_Points_0) (by kernel_rfl) ?_
  rintro ⟨⟨(l : List (RowE [.sl [.int .i64]])), _⟩, ⟨(m : List (RowE [.sl [.int .i64]])), _⟩, ⟨(i : Int), _⟩, _⟩ x hok hx
  refine Leads.of_eq (ltl_Points_0 l m i) ?_
  obtain ⟨h0, h1, h2, h3, h4⟩ := hok
  subst h2
  obtain ⟨n, rfl⟩ := Int.eq_ofNat_of_zero_le h0
  simp only [lgl_Points_0] at hx
  by_cases hn : n < l.length
  · have hs := h4 _ (getR_mem (i := (n : Int)) (by omega) (by omega))
    rw [wrap64 (x := (n : Int) + 1) (by omega) (by omega)]
    refine Leads.brD (fun _ => Leads.chk (by omega) fun _ => Leads.chk (by omega) fun _ => Leads.chk hs fun _ => Leads.br (fun w => ?_) (fun w => Leads.one ?_)) (fun q => by omega)
    · rw [(sameI_iff _ _).2 rfl] at w; cases w
    · refine Goes.again (ks := [.v false [.sl [.sl [.int .i64]]], .v false [.sl [.sl [.int .i64]]], .v false [.int .i64]]) ((_, ()), (_, ()), (_, ()), ()) rfl ?_ ?_ ?_
      · exact ⟨by omega, by omega, rfl, h3, h4⟩
      · simp only [lml_Points_0]; omega
      · simp only [lgl_Points_0]; exact hx
  · exact Leads.brD (fun q => by omega) (fun _ => Leads.one (Goes.out (Out_leaf hx)))
theorem tl_Points (answers : List (RowE [.sl [.bool]])) (points : Int) : evF T (Ep (El_Probes)) (Ln (Ll_Points)) Try.f5 [.d (.sl [.sl [.bool]] answers), .d (.int .i64 points)] =
    chk (answers.length ≤ (5864062014805 : Nat)) (chk (answers.length ≤ (5864062014805 : Nat)) (br ((pointsP answers points).snd != (pointsP answers points).snd) (some (SV.val (AV.d (D.bool false)))) (br ((↑(pointsP answers points).fst.length : Int) != (↑(pointsP answers points).fst.length : Int)) (some (SV.val (AV.d (D.bool false)))) (chk (lkl_Points_0 (((pointsP answers points).fst, ()), ((pointsP answers points).fst, ()), ((0 : Int), ()), ())) (some (SV.val (AV.d (D.bool true)))))))) := by kernel_rfl
theorem satl_Points : Sat P 5 (Sl_Points) := by
  refine sat_mk (LT := Ln (Ll_Points)) hC (SatE.ep okl_Probes) mixed Try.func5 (by kernel_rfl) (c := bodyOf Try.f5) (by kernel_rfl) (by kernel_rfl) ?_ (loops1 (by kernel_rfl) (lokl_Points_0))
  rintro ⟨⟨(answers : List (RowE [.sl [.bool]])), _⟩, ⟨(points : Int), _⟩, _⟩ sv h
  refine Leads.eq (Leads.of_eq (tl_Points answers points) ?_)
  obtain ⟨⟨h1, h2⟩, h⟩ := h
  obtain rfl := Out_leaf h
  obtain ⟨k1, k2⟩ := points_sz (n := points) h2
  exact Leads.chk h1 fun _ => Leads.chk h1 fun _ => Leads.br (fun w => absurd w (by simp)) (fun _ => Leads.br (fun w => absurd w (by simp)) (fun _ => Leads.chk ⟨by omega, by omega, rfl, by omega, k2⟩ fun _ => Leads.one rfl))
def El_Points : Es := (5, (Sl_Points)) :: El_Probes
theorem okl_Points : SatE P (En (El_Points)) := SatE.cons (satl_Points) okl_Probes
/-! ### legation/legationlaw20.SourcesCover -/
def lkl_Cover_0 : St [.a [.sl [.int .i64]], .v false [.sl [.sl [.int .i64], .sl [.int .i64]]], .own [.int .i64], .v false [.int .i64]] → Prop := fun ⟨(points : List (RowE [.sl [.int .i64]])), ⟨(g : List (RowE [.sl [.int .i64], .sl [.int .i64]])), _⟩, (times : List (RowE [.int .i64])), ⟨(i : Int), _⟩, _⟩ => times.length = points.length ∧ points.length ≤ 20 ∧ (∀ x ∈ points, (x.1 : List Nt).length ≤ 10) ∧ (∀ x ∈ g, szGp x ∧ (x.1 : List Nt) ≠ [] ∧ ∀ q ∈ (x.1 : List Nt), 0 ≤ nv q ∧ nv q < points.length ∧ (getR [.sl ntS] points (nv q)).1 = x.2.1) ∧ (∀ x ∈ times, 0 ≤ nv x ∧ nv x ≤ 2000000 * i) ∧ g.length ≤ 20 ∧ 0 ≤ i ∧ i ≤ (g.length : Int)
def lgl_Cover_0 : St [.a [.sl [.int .i64]], .v false [.sl [.sl [.int .i64], .sl [.int .i64]]], .own [.int .i64], .v false [.int .i64]] → Tr (Ex × List SV) := fun ⟨(points : List (RowE [.sl [.int .i64]])), ⟨(g : List (RowE [.sl [.int .i64], .sl [.int .i64]])), _⟩, (times : List (RowE [.int .i64])), ⟨(i : Int), _⟩, _⟩ => .leaf (.exit 0, [.own [.int .i64] (bumpL times (patsG (g.drop i.toNat)))])
def lml_Cover_0 : St [.a [.sl [.int .i64]], .v false [.sl [.sl [.int .i64], .sl [.int .i64]]], .own [.int .i64], .v false [.int .i64]] → Nat := fun ⟨(points : List (RowE [.sl [.int .i64]])), ⟨(g : List (RowE [.sl [.int .i64], .sl [.int .i64]])), _⟩, (times : List (RowE [.int .i64])), ⟨(i : Int), _⟩, _⟩ => g.length - i.toNat
def lsl_Cover_0 : LoopS := mkR [0, 5, 6, 7] [6] [4] [.a [.sl [.int .i64]], .v false [.sl [.sl [.int .i64], .sl [.int .i64]]], .own [.int .i64], .v false [.int .i64]] (fun r => .chk (lkl_Cover_0 r) (lgl_Cover_0 r))
def lkl_Cover_1 : St [.a [.sl [.int .i64]], .v false [.sl [.sl [.int .i64], .sl [.int .i64]]], .own [.int .i64], .v false [.int .i64], .v false [.int .i64]] → Prop := fun ⟨(points : List (RowE [.sl [.int .i64]])), ⟨(g : List (RowE [.sl [.int .i64], .sl [.int .i64]])), _⟩, (times : List (RowE [.int .i64])), ⟨(i : Int), _⟩, ⟨(k : Int), _⟩, _⟩ => times.length = points.length ∧ points.length ≤ 20 ∧ (∀ x ∈ points, (x.1 : List Nt).length ≤ 10) ∧ (∀ x ∈ g, szGp x ∧ (x.1 : List Nt) ≠ [] ∧ ∀ q ∈ (x.1 : List Nt), 0 ≤ nv q ∧ nv q < points.length ∧ (getR [.sl ntS] points (nv q)).1 = x.2.1) ∧ (∀ x ∈ times, 0 ≤ nv x ∧ nv x ≤ 2000000 * i + k) ∧ g.length ≤ 20 ∧ 0 ≤ i ∧ i < (g.length : Int) ∧ 0 ≤ k ∧ k ≤ (((getR grS g i).1 : List Nt).length : Int)
def lgl_Cover_1 : St [.a [.sl [.int .i64]], .v false [.sl [.sl [.int .i64], .sl [.int .i64]]], .own [.int .i64], .v false [.int .i64], .v false [.int .i64]] → Tr (Ex × List SV) := fun ⟨(points : List (RowE [.sl [.int .i64]])), ⟨(g : List (RowE [.sl [.int .i64], .sl [.int .i64]])), _⟩, (times : List (RowE [.int .i64])), ⟨(i : Int), _⟩, ⟨(k : Int), _⟩, _⟩ => .leaf (.exit 2, [.app [.sl [.int .i64]] (points), .val (.d (.sl [.sl [.int .i64], .sl [.int .i64]] (g))), .own [.int .i64] (bumpL times ((getR grS g i).1.drop k.toNat)), .val (.d (.int .i64 (i)))])
def lml_Cover_1 : St [.a [.sl [.int .i64]], .v false [.sl [.sl [.int .i64], .sl [.int .i64]]], .own [.int .i64], .v false [.int .i64], .v false [.int .i64]] → Nat := fun ⟨(points : List (RowE [.sl [.int .i64]])), ⟨(g : List (RowE [.sl [.int .i64], .sl [.int .i64]])), _⟩, (times : List (RowE [.int .i64])), ⟨(i : Int), _⟩, ⟨(k : Int), _⟩, _⟩ => ((getR grS g i).1 : List Nt).length - k.toNat
def lsl_Cover_1 : LoopS := mkR [0, 5, 6, 7, 8] [0, 5, 6, 7] [4] [.a [.sl [.int .i64]], .v false [.sl [.sl [.int .i64], .sl [.int .i64]]], .own [.int .i64], .v false [.int .i64], .v false [.int .i64]] (fun r => .chk (lkl_Cover_1 r) (lgl_Cover_1 r))
def lkl_Cover_2 : St [.own [.int .i64], .v false [.int .i64]] → Prop := fun ⟨(times : List (RowE [.int .i64])), ⟨(i : Int), _⟩, _⟩ => 0 ≤ i ∧ i ≤ (times.length : Int) ∧ times.length ≤ 20 ∧ ∀ x ∈ times, x = ((1, ()) : Nt)
def lgl_Cover_2 : St [.own [.int .i64], .v false [.int .i64]] → Tr (Ex × List SV) := fun ⟨(times : List (RowE [.int .i64])), ⟨(i : Int), _⟩, _⟩ => .leaf (.exit 4, [])
def lml_Cover_2 : St [.own [.int .i64], .v false [.int .i64]] → Nat := fun ⟨(times : List (RowE [.int .i64])), ⟨(i : Int), _⟩, _⟩ => times.length - i.toNat
def lsl_Cover_2 : LoopS := mkR [6, 10] [] [4] [.own [.int .i64], .v false [.int .i64]] (fun r => .chk (lkl_Cover_2 r) (lgl_Cover_2 r))
def Ll_Cover : Ls := [(5, lsl_Cover_0), (10, lsl_Cover_1), (17, lsl_Cover_2)]
def Sl_Cover := mkS [(false, [.sl [.sl [.int .i64]]]), (false, [.bool])] fun ⟨⟨(points : List (RowE [.sl [.int .i64]])), _⟩, ⟨(exclusive : Bool), _⟩, _⟩ => .leaf (.val (.d (.bool true)))
theorem ltl_Cover_0 (points : List (RowE [.sl [.int .i64]])) (g : List (RowE [.sl [.int .i64], .sl [.int .i64]])) (times : List (RowE [.int .i64])) (i : Int) : evRound T (Eo [6] true (El_Points)) (Ln (Ll_Cover)) (loopAt 0 (loops (bodyOf Try.f4))) (lsl_Cover_0) [.app [.sl [.int .i64]] points, .val (.d (.sl [.sl [.int .i64], .sl [.int .i64]] g)), .own [.int .i64] times, .val (.d (.int .i64 i))] =
    br (decide (i < (↑g.length : Int))) (chk ((0 : Int) ≤ i ∧ i < (↑g.length : Int)) (br ((↑(List.length (getR grS g i).fst) : Int) == (0 : Int)) (some (Rnd.out Ex.ret [SV.val (AV.d (D.bool false))])) (chk (lkl_Cover_1 (points, (g, ()), times, (i, ()), ((0 : Int), ()), ())) (some (Rnd.again [SV.app [Sh.sl [Sh.int IntKind.i64]] points, SV.val (AV.d (D.sl grS g)), SV.own [Sh.int IntKind.i64] (bumpL times (List.drop (Int.toNat (0 : Int)) (getR grS g i).fst)), SV.val (AV.d (D.int IntKind.i64 (IntKind.i64.wrap (i + (1 : Int)))))]))))) (some (Rnd.out (Ex.exit (0 : Nat)) [SV.own [Sh.int IntKind.i64] times])) := by kernel_rfl
theorem lokl_Cover_0 : LoopOK T (Eo [6] true (El_Points)) (Ln (Ll_Cover)) (loopAt 0 (loops (bodyOf Try.f4))) := by
  refine loop_ok (live := [0, 5, 6, 7]) (outs := [6]) (rets := [4]) (ks := [.a [.sl [.int .i64]], .v false [.sl [.sl [.int .i64], .sl [.int .i64]]], .own [.int .i64], .v false [.int .i64]]) (G := lgl_Cover_0) (lkl_Cover_0) (lml_Cover_0) (by kernel_rfl) ?_
  rintro ⟨(points : List (RowE [.sl [.int .i64]])), ⟨(g : List (RowE [.sl [.int .i64], .sl [.int .i64]])), _⟩, (times : List (RowE [.int .i64])), ⟨(i : Int), _⟩, _⟩ x hok hx
  refine Leads.of_eq (ltl_Cover_0 points g times i) ?_
  obtain ⟨k1, k2, k3, k4, k5, k6, h0, h1⟩ := hok
  obtain ⟨m, rfl⟩ := Int.eq_ofNat_of_zero_le h0
  simp only [lgl_Cover_0, Int.toNat_natCast] at hx
  rcases drop_cases g m with ⟨hle, hd⟩ | ⟨x1, hlt, hd, hb⟩
  · rw [hd] at hx
    exact Leads.brD (fun q => by omega) (fun _ => Leads.one (Goes.out (Out_leaf hx)))
  rw [hd, show patsG (x1 :: List.drop (m + 1) g) = x1.1 ++ patsG (List.drop (m + 1) g) from rfl, bumpL_app] at hx
  obtain ⟨s1, s2, s3⟩ := k4 x1 (List.mem_of_getElem? hb)
  have hl : 0 < (x1.1 : List Nt).length := List.length_pos_iff.2 s2
  rw [getR_of hb, wrap64 (x := (m : Int) + 1) (by omega) (by omega)]
  refine Leads.brD (fun _ => Leads.chk (by omega) fun _ => Leads.br (fun w => ?_) (fun w => Leads.chk ⟨k1, k2, k3, k4, fun x hx => by have := k5 x hx; omega, k6, h0, by omega, Int.le_refl _, by omega⟩ fun _ => Leads.one ?_)) (fun q => by omega)
  · have w : ((x1.1 : List Nt).length : Int) = 0 := by simpa using w
    omega
  · refine Goes.again (ks := [.a [.sl [.int .i64]], .v false [.sl [.sl [.int .i64], .sl [.int .i64]]], .own [.int .i64], .v false [.int .i64]]) (_, (_, ()), _, (_, ()), ()) rfl ?_ ?_ ?_
    · refine ⟨(bumpL_len x1.1 times).trans k1, k2, k3, k4, fun x hx => ?_, k6, by omega, by omega⟩
      have := bumpL_bound x1.1 times (2000000 * (m : Int)) k5 (by omega) x hx
      have : (x1.1 : List Nt).length ≤ 2000000 := s1.1
      omega
    · simp only [lml_Cover_0]; omega
    · simp only [lgl_Cover_0, toNat_add1]; exact hx
theorem ltl_Cover_1 (points : List (RowE [.sl [.int .i64]])) (g : List (RowE [.sl [.int .i64], .sl [.int .i64]])) (times : List (RowE [.int .i64])) (i : Int) (k : Int) : evRound T (Eo [6] true (El_Points)) (Ln (Ll_Cover)) (loopAt 1 (loops (bodyOf Try.f4))) (lsl_Cover_1) [.app [.sl [.int .i64]] points, .val (.d (.sl [.sl [.int .i64], .sl [.int .i64]] g)), .own [.int .i64] times, .val (.d (.int .i64 i)), .val (.d (.int .i64 k))] =
    chk ((0 : Int) ≤ i ∧ i < (↑g.length : Int)) (br (decide (k < (↑(List.length (getR grS g i).fst) : Int))) (chk ((0 : Int) ≤ i ∧ i < (↑g.length : Int)) (chk ((0 : Int) ≤ k ∧ k < (↑(List.length (getR grS g i).fst) : Int)) (br (decide ((getR [Sh.int IntKind.i64] (getR grS g i).fst k).fst < (0 : Int))) (some (Rnd.out Ex.ret [SV.val (AV.d (D.bool false))])) (br (decide ((getR [Sh.int IntKind.i64] (getR grS g i).fst k).fst ≥ (↑points.length : Int))) (some (Rnd.out Ex.ret [SV.val (AV.d (D.bool false))])) (chk ((0 : Int) ≤ (getR [Sh.int IntKind.i64] (getR grS g i).fst k).fst ∧ (getR [Sh.int IntKind.i64] (getR grS g i).fst k).fst < (↑points.length : Int)) (chk ((0 : Int) ≤ i ∧ i < (↑g.length : Int)) (chk (List.length (getR [Sh.sl [Sh.int IntKind.i64]] points (getR [Sh.int IntKind.i64] (getR grS g i).fst k).fst).fst ≤ (140737488355328 : Nat)) (br (!sameI (getR [Sh.sl [Sh.int IntKind.i64]] points (getR [Sh.int IntKind.i64] (getR grS g i).fst k).fst).fst (getR grS g i).snd.fst) (some (Rnd.out Ex.ret [SV.val (AV.d (D.bool false))])) (chk ((0 : Int) ≤ (getR [Sh.int IntKind.i64] (getR grS g i).fst k).fst ∧ (getR [Sh.int IntKind.i64] (getR grS g i).fst k).fst < (↑times.length : Int) - (↑(0 : Nat) : Int)) (chk ((0 : Int) ≤ (getR [Sh.int IntKind.i64] (getR grS g i).fst k).fst ∧ (getR [Sh.int IntKind.i64] (getR grS g i).fst k).fst < (↑times.length : Int) - (↑(0 : Nat) : Int)) (some (Rnd.again [SV.app [Sh.sl [Sh.int IntKind.i64]] points, SV.val (AV.d (D.sl grS g)), SV.own [Sh.int IntKind.i64] (times.set ((0 : Nat) + Int.toNat (getR [Sh.int IntKind.i64] (getR grS g i).fst k).fst) (IntKind.i64.wrap ((getR [Sh.int IntKind.i64] times (↑((0 : Nat) + Int.toNat (getR [Sh.int IntKind.i64] (getR grS g i).fst k).fst) : Int)).fst + (1 : Int)), ())), SV.val (AV.d (D.int IntKind.i64 i)), SV.val (AV.d (D.int IntKind.i64 (IntKind.i64.wrap (k + (1 : Int)))))])))))))))))) (some (Rnd.out (Ex.exit (2 : Nat)) [SV.app [Sh.sl [Sh.int IntKind.i64]] points, SV.val (AV.d (D.sl grS g)), SV.own [Sh.int IntKind.i64] times, SV.val (AV.d (D.int IntKind.i64 i))]))) := by kernel_rfl
theorem lokl_Cover_1 : LoopOK T (Eo [6] true (El_Points)) (Ln (Ll_Cover)) (loopAt 1 (loops (bodyOf Try.f4))) := by
  refine loop_ok (live := [0, 5, 6, 7, 8]) (outs := [0, 5, 6, 7]) (rets := [4]) (ks := [.a [.sl [.int .i64]], .v false [.sl [.sl [.int .i64], .sl [.int .i64]]], .own [.int .i64], .v false [.int .i64], .v false [.int .i64]]) (G := lgl_Cover_1) (lkl_Cover_1) (lml_Cover_1) (by kernel_rfl) ?_
  rintro ⟨(points : List (RowE [.sl [.int .i64]])), ⟨(g : List (RowE [.sl [.int .i64], .sl [.int .i64]])), _⟩, (times : List (RowE [.int .i64])), ⟨(i : Int), _⟩, ⟨(k : Int), _⟩, _⟩ x hok hx
  refine Leads.of_eq (ltl_Cover_1 points g times i k) ?_
  obtain ⟨k1, k2, k3, k4, k5, k6, g0, g1, h0, h1⟩ := hok
  obtain ⟨s1, s2, s3⟩ := k4 _ (getR_mem (l := g) g0 g1)
  have s4 : ((getR grS g i).1 : List Nt).length ≤ 2000000 := s1.1
  obtain ⟨m, rfl⟩ := Int.eq_ofNat_of_zero_le h0
  simp only [lgl_Cover_1, Int.toNat_natCast] at hx
  rcases drop_cases ((getR grS g i).1 : List Nt) m with ⟨hle, hd⟩ | ⟨x1, hlt, hd, hb⟩
  · rw [hd] at hx
    exact Leads.chk (by omega) fun _ => Leads.brD (fun q => by omega) (fun _ => Leads.one (Goes.out (Out_leaf hx)))
  rw [hd, show bumpL times (x1 :: List.drop (m + 1) (getR grS g i).1) = bumpL (bump1 times x1) (List.drop (m + 1) (getR grS g i).1) from rfl] at hx
  obtain ⟨q1, q2, q3⟩ := s3 x1 (List.mem_of_getElem? hb)
  obtain ⟨n, hn⟩ := Int.eq_ofNat_of_zero_le q1
  have hv : (x1.1 : Int) = (n : Int) := hn
  rw [getR_of hb, wrap64 (x := (m : Int) + 1) (by omega) (by omega), hv]
  have e1 : (0 : Nat) + Int.toNat (n : Int) = n := by simp
  rw [e1]
  have e2 : bump1 times x1 = times.set n ((nv (getR ntS times (n : Int)) + 1, ()) : Nt) := by unfold bump1; rw [hn]; rfl
  have hb5 : 0 ≤ nv (getR ntS times (n : Int)) ∧ nv (getR ntS times (n : Int)) ≤ 2000000 * i + (m : Int) := k5 _ (getR_mem (by omega) (by omega))
  have e3 : IntKind.i64.wrap ((getR [Sh.int IntKind.i64] times (n : Int)).1 + 1) = nv (getR ntS times (n : Int)) + 1 := wrap64 (x := nv (getR ntS times (n : Int)) + 1) (by omega) (by omega)
  rw [e3]
  have hp : ((getR [.sl ntS] points (n : Int)).1 : List Nt).length ≤ 140737488355328 := by
    have : ((getR [.sl ntS] points (n : Int)).1 : List Nt).length ≤ 10 := k3 _ (getR_mem (l := points) (i := (n : Int)) (by omega) (by omega))
    omega
  rw [hn] at q3
  refine Leads.chk (by omega) fun _ => Leads.brD (fun _ => Leads.chk (by omega) fun _ => Leads.chk (by omega) fun _ => Leads.brD (fun w => absurd (show (n : Int) < 0 from w) (by omega)) (fun w => Leads.brD (fun w2 => absurd (show (n : Int) ≥ points.length from w2) (by omega)) (fun w2 => Leads.chk ⟨show (0 : Int) ≤ n by omega, show (n : Int) < points.length by omega⟩ fun _ => Leads.chk (by omega) fun _ => Leads.chk hp fun _ => Leads.br (fun w3 => ?_) (fun w3 => Leads.chk ⟨show (0 : Int) ≤ n by omega, show (n : Int) < (times.length : Int) - ((0 : Nat) : Int) by omega⟩ fun _ => Leads.chk ⟨show (0 : Int) ≤ n by omega, show (n : Int) < (times.length : Int) - ((0 : Nat) : Int) by omega⟩ fun _ => Leads.one ?_)))) (fun q => by omega)
  · have w3 : sameI (getR [.sl ntS] points (n : Int)).1 (getR grS g i).2.1 = false := by simpa using w3
    rw [(sameI_iff _ _).2 q3] at w3; cases w3
  · refine Goes.again (ks := [.a [.sl [.int .i64]], .v false [.sl [.sl [.int .i64], .sl [.int .i64]]], .own [.int .i64], .v false [.int .i64], .v false [.int .i64]]) (_, (_, ()), _, (_, ()), (_, ()), ()) rfl ?_ ?_ ?_
    · refine ⟨by rw [List.length_set]; exact k1, k2, k3, k4, fun x hx => ?_, k6, g0, g1, by omega, by omega⟩
      have := bump_bound k5 (by omega) x1 x (e2 ▸ hx)
      omega
    · simp only [lml_Cover_1]; omega
    · simp only [lgl_Cover_1, toNat_add1]; rw [← e2]; exact hx
theorem ltl_Cover_2 (times : List (RowE [.int .i64])) (i : Int) : evRound T (Eo [6] true (El_Points)) (Ln (Ll_Cover)) (loopAt 2 (loops (bodyOf Try.f4))) (lsl_Cover_2) [.own [.int .i64] times, .val (.d (.int .i64 i))] =
    br (decide (i < (↑times.length : Int) - (↑(0 : Nat) : Int))) (chk ((0 : Int) ≤ i ∧ i < (↑times.length : Int) - (↑(0 : Nat) : Int)) (br ((getR [Sh.int IntKind.i64] times (↑((0 : Nat) + i.toNat) : Int)).fst != (1 : Int)) (some (Rnd.out Ex.ret [SV.val (AV.d (D.bool false))])) (some (Rnd.again [SV.own [Sh.int IntKind.i64] times, SV.val (AV.d (D.int IntKind.i64 (IntKind.i64.wrap (i + (1 : Int)))))])))) (some (Rnd.out (Ex.exit (4 : Nat)) [])) := by kernel_rfl
theorem lokl_Cover_2 : LoopOK T (Eo [6] true (El_Points)) (Ln (Ll_Cover)) (loopAt 2 (loops (bodyOf Try.f4))) := by
  refine loop_ok (live := [6, 10]) (outs := []) (rets := [4]) (ks := [.own [.int .i64], .v false [.int .i64]]) (G := lgl_Cover_2) (lkl_Cover_2) (lml_Cover_2) (by kernel_rfl) ?_
  rintro ⟨(times : List (RowE [.int .i64])), ⟨(i : Int), _⟩, _⟩ x hok hx
  refine Leads.of_eq (ltl_Cover_2 times i) ?_
  obtain ⟨h0, h1, h2, h3⟩ := hok
  obtain ⟨m, rfl⟩ := Int.eq_ofNat_of_zero_le h0
  simp only [lgl_Cover_2] at hx
  by_cases hm : m < times.length
  · have e1 : (0 : Nat) + Int.toNat (m : Int) = m := by simp
    rw [e1, wrap64 (x := (m : Int) + 1) (by omega) (by omega), show getR [Sh.int IntKind.i64] times (m : Int) = ((1, ()) : Nt) from h3 _ (getR_mem (by omega) (by omega))]
    refine Leads.brD (fun _ => Leads.chk (by omega) fun _ => Leads.br (fun w => absurd w (by decide)) (fun _ => Leads.one ?_)) (fun q => by omega)
    refine Goes.again (ks := [.own [.int .i64], .v false [.int .i64]]) (_, (_, ()), ()) rfl ?_ ?_ ?_
    · exact ⟨by omega, by omega, h2, h3⟩
    · simp only [lml_Cover_2]; omega
    · simp only [lgl_Cover_2]; exact hx
  · exact Leads.brD (fun q => by omega) (fun _ => Leads.one (Goes.out (Out_leaf hx)))
theorem tl_Cover (points : List (RowE [.sl [.int .i64]])) (exclusive : Bool) : evF T (Eo [6] true (El_Points)) (Ln (Ll_Cover)) Try.f4 [.d (.sl [.sl [.int .i64]] points), .d (.bool exclusive)] =
    chk ((fewP points).length ≤ (2000000 : Nat) ∧ szP (fewP points)) (chk ((↑(fewP points).length : Int) = (↑(fewP points).length : Int) ∧ (0 : Int) ≤ (↑(fewP points).length : Int) ∧ (↑(fewP points).length : Int) * (↑(8 : Nat) : Int) < lim) (chk (lkl_Cover_0 (fewP points, (groupsP exclusive (fewP points), ()), List.replicate (↑(fewP points).length : Int).toNat (RowE.dflt ([Sh.int IntKind.i64] : List Sh)), ((0 : Int), ()), ())) (chk (lkl_Cover_2 (bumpL (List.replicate (↑(fewP points).length : Int).toNat (RowE.dflt ([Sh.int IntKind.i64] : List Sh))) (patsG (List.drop (Int.toNat (0 : Int)) (groupsP exclusive (fewP points)))), ((0 : Int), ()), ())) (some (SV.val (AV.d (D.bool true))))))) := by kernel_rfl
theorem satl_Cover : Sat P 4 (Sl_Cover) := by
  refine sat_mk (LT := Ln (Ll_Cover)) hC (SatE.eo okl_Points) mixed Try.func4 (by kernel_rfl) (c := bodyOf Try.f4) (by kernel_rfl) (by kernel_rfl) ?_ (loops3 (by kernel_rfl) (lokl_Cover_0) (lokl_Cover_1) (lokl_Cover_2))
  rintro ⟨⟨(points : List (RowE [.sl [.int .i64]])), _⟩, ⟨(exclusive : Bool), _⟩, _⟩ sv h
  refine Leads.eq (Leads.of_eq (tl_Cover points exclusive) ?_)
  obtain rfl := Out_leaf h
  obtain ⟨f1, f2⟩ := few_sz points
  obtain ⟨s1, s2⟩ := groups_sz exclusive f1 f2
  have hr : List.replicate ((fewP points).length : Int).toNat (RowE.dflt ([Sh.int IntKind.i64] : List Sh)) = List.replicate (fewP points).length ((0, ()) : Nt) := by rw [Int.toNat_natCast]; rfl
  have hc := cover_all exclusive (fewP points)
  rw [hr, show List.drop (Int.toNat (0 : Int)) (groupsP exclusive (fewP points)) = groupsP exclusive (fewP points) from rfl, hc]
  refine Leads.chk ⟨by omega, fun x hx => by have := f2 x hx; omega⟩ fun _ => Leads.chk ⟨rfl, by omega, by simp only [lim]; omega⟩ fun _ => Leads.chk ⟨by simp, f1, f2, fun x hx => ⟨s2 x hx, groups_pats exclusive _ x hx⟩, fun x hx => ?_, s1, by omega, by omega⟩ fun _ => Leads.chk ⟨by omega, by omega, by simpa using f1, fun x hx => List.eq_of_mem_replicate hx⟩ fun _ => Leads.one rfl
  rw [List.eq_of_mem_replicate hx]
  exact ⟨by decide, by decide⟩
def El_Cover : Es := (4, (Sl_Cover)) :: El_Points
theorem okl_Cover : SatE P (En (El_Cover)) := SatE.cons (satl_Cover) okl_Points
/-! ### legation/legationlaw20.SourcesArranges -/
def lkl_Arranges_0 : St [.v false [.sl [.int .i64, .str, .str, .str, .int .i64, .str, .str, .str, .int .i64, .str, .str, .str]], .v false [.sl [.sl [.int .i64], .sl [.int .i64]]], .v false [.int .i64]] → Prop := fun ⟨⟨(l : List (RowE [.int .i64, .str, .str, .str, .int .i64, .str, .str, .str, .int .i64, .str, .str, .str])), _⟩, ⟨(groups : List (RowE [.sl [.int .i64], .sl [.int .i64]])), _⟩, ⟨(i : Int), _⟩, _⟩ => 0 ≤ i ∧ i ≤ (groups.length : Int) ∧ groups.length ≤ 12 ∧ szTs l ∧ ∀ x ∈ groups, szGp x
def lgl_Arranges_0 : St [.v false [.sl [.int .i64, .str, .str, .str, .int .i64, .str, .str, .str, .int .i64, .str, .str, .str]], .v false [.sl [.sl [.int .i64], .sl [.int .i64]]], .v false [.int .i64]] → Tr (Ex × List SV) := fun ⟨⟨(l : List (RowE [.int .i64, .str, .str, .str, .int .i64, .str, .str, .str, .int .i64, .str, .str, .str])), _⟩, ⟨(groups : List (RowE [.sl [.int .i64], .sl [.int .i64]])), _⟩, ⟨(i : Int), _⟩, _⟩ => .leaf (.exit 0, [.val (.d (.sl [.int .i64, .str, .str, .str, .int .i64, .str, .str, .str, .int .i64, .str, .str, .str] (l))), .val (.d (.sl [.sl [.int .i64], .sl [.int .i64]] (groups)))])
def lml_Arranges_0 : St [.v false [.sl [.int .i64, .str, .str, .str, .int .i64, .str, .str, .str, .int .i64, .str, .str, .str]], .v false [.sl [.sl [.int .i64], .sl [.int .i64]]], .v false [.int .i64]] → Nat := fun ⟨⟨(l : List (RowE [.int .i64, .str, .str, .str, .int .i64, .str, .str, .str, .int .i64, .str, .str, .str])), _⟩, ⟨(groups : List (RowE [.sl [.int .i64], .sl [.int .i64]])), _⟩, ⟨(i : Int), _⟩, _⟩ => groups.length - i.toNat
def lsl_Arranges_0 : LoopS := mkR [0, 1, 10] [0, 1] [6] [.v false [.sl [.int .i64, .str, .str, .str, .int .i64, .str, .str, .str, .int .i64, .str, .str, .str]], .v false [.sl [.sl [.int .i64], .sl [.int .i64]]], .v false [.int .i64]] (fun r => .chk (lkl_Arranges_0 r) (lgl_Arranges_0 r))
def Ll_Arranges : Ls := [(10, lsl_Arranges_0)]
def Sl_Arranges := mkS [(false, [.sl [.int .i64, .str, .str, .str, .int .i64, .str, .str, .str, .int .i64, .str, .str, .str]]), (false, [.sl [.sl [.int .i64], .sl [.int .i64]]]), (false, [.bool])] fun ⟨⟨(l : List (RowE [.int .i64, .str, .str, .str, .int .i64, .str, .str, .str, .int .i64, .str, .str, .str])), _⟩, ⟨(groups : List (RowE [.sl [.int .i64], .sl [.int .i64]])), _⟩, ⟨(reverse : Bool), _⟩, _⟩ => .chk (szTs l ∧ (∀ t ∈ l, sz3 140737488355328 t) ∧ groups.length ≤ 2000000 ∧ ∀ g ∈ groups, szGp g) (.leaf (.val (.d (.bool true))))
theorem ltl_Arranges_0 (l : List (RowE [.int .i64, .str, .str, .str, .int .i64, .str, .str, .str, .int .i64, .str, .str, .str])) (groups : List (RowE [.sl [.int .i64], .sl [.int .i64]])) (i : Int) : evRound T (Ep (El_Cover)) (Ln (Ll_Arranges)) (loopAt 0 (loops (bodyOf Try.f7))) (lsl_Arranges_0) [.val (.d (.sl [.int .i64, .str, .str, .str, .int .i64, .str, .str, .str, .int .i64, .str, .str, .str] l)), .val (.d (.sl [.sl [.int .i64], .sl [.int .i64]] groups)), .val (.d (.int .i64 i))] =
    br (decide (i < (↑groups.length : Int))) (chk ((0 : Int) ≤ (0 : Int) ∧ (0 : Int) < (↑groups.length : Int)) (chk ((0 : Int) ≤ i ∧ i < (↑groups.length : Int)) (chk (szTs l ∧ szGr (getR grS groups (0 : Int)) ∧ szGr (getR grS groups i)) (chk ((0 : Int) ≤ (0 : Int) ∧ (0 : Int) < (↑groups.length : Int)) (chk ((0 : Int) ≤ i ∧ i < (↑groups.length : Int)) (chk (szGr (getR grS groups (0 : Int)) ∧ szGr (getR grS groups i)) (br (!touchP l (getR grS groups (0 : Int)) (getR grS groups i) == touchR l (getR grS groups (0 : Int)) (getR grS groups i)) (some (Rnd.out Ex.ret [SV.val (AV.d (D.bool false))])) (some (Rnd.again [SV.val (AV.d (D.sl t3S l)), SV.val (AV.d (D.sl grS groups)), SV.val (AV.d (D.int IntKind.i64 (IntKind.i64.wrap (i + (1 : Int)))))]))))))))) (some (Rnd.out (Ex.exit (0 : Nat)) [SV.val (AV.d (D.sl t3S l)), SV.val (AV.d (D.sl grS groups))])) := by kernel_rfl
theorem lokl_Arranges_0 : LoopOK T (Ep (El_Cover)) (Ln (Ll_Arranges)) (loopAt 0 (loops (bodyOf Try.f7))) := by
  refine loop_ok (live := [0, 1, 10]) (outs := [0, 1]) (rets := [6]) (ks := [.v false [.sl [.int .i64, .str, .str, .str, .int .i64, .str, .str, .str, .int .i64, .str, .str, .str]], .v false [.sl [.sl [.int .i64], .sl [.int .i64]]], .v false [.int .i64]]) (G := lgl_Arranges_0) (lkl_Arranges_0) (lml_Arranges_0) (by kernel_rfl) ?_
  rintro ⟨⟨(l : List (RowE [.int .i64, .str, .str, .str, .int .i64, .str, .str, .str, .int .i64, .str, .str, .str])), _⟩, ⟨(groups : List (RowE [.sl [.int .i64], .sl [.int .i64]])), _⟩, ⟨(i : Int), _⟩, _⟩ x hok hx
  refine Leads.of_eq (ltl_Arranges_0 l groups i) ?_
  obtain ⟨h0, h1, h2, h3, h4⟩ := hok
  obtain ⟨m, rfl⟩ := Int.eq_ofNat_of_zero_le h0
  simp only [lgl_Arranges_0] at hx
  by_cases hm : m < groups.length
  · have g1 := (h4 _ (getR_mem (l := groups) (i := (0 : Int)) (by omega) (by omega))).1
    have g2 := (h4 _ (getR_mem (l := groups) (i := (m : Int)) (by omega) (by omega))).1
    rw [wrap64 (x := (m : Int) + 1) (by omega) (by omega), touch_eq]
    refine Leads.brD (fun _ => Leads.chk (by omega) fun _ => Leads.chk (by omega) fun _ => Leads.chk ⟨h3, g1, g2⟩ fun _ => Leads.chk (by omega) fun _ => Leads.chk (by omega) fun _ => Leads.chk ⟨g1, g2⟩ fun _ => Leads.br (fun w => absurd w (by simp)) (fun _ => Leads.one ?_)) (fun q => by omega)
    refine Goes.again (ks := [.v false [.sl [.int .i64, .str, .str, .str, .int .i64, .str, .str, .str, .int .i64, .str, .str, .str]], .v false [.sl [.sl [.int .i64], .sl [.int .i64]]], .v false [.int .i64]]) ((_, ()), (_, ()), (_, ()), ()) rfl ?_ ?_ ?_
    · exact ⟨by omega, by omega, h2, h3, h4⟩
    · simp only [lml_Arranges_0]; omega
    · simp only [lgl_Arranges_0]; exact hx
  · exact Leads.brD (fun q => by omega) (fun _ => Leads.one (Goes.out (Out_leaf hx)))
theorem tl_Arranges (l : List (RowE [.int .i64, .str, .str, .str, .int .i64, .str, .str, .str, .int .i64, .str, .str, .str])) (groups : List (RowE [.sl [.int .i64], .sl [.int .i64]])) (reverse : Bool) : evF T (Ep (El_Cover)) (Ln (Ll_Arranges)) Try.f7 [.d (.sl [.int .i64, .str, .str, .str, .int .i64, .str, .str, .str, .int .i64, .str, .str, .str] l), .d (.sl [.sl [.int .i64], .sl [.int .i64]] groups), .d (.bool reverse)] =
    br (decide ((↑l.length : Int) > (12 : Int))) (some (SV.val (AV.d (D.bool true)))) (br (decide ((↑groups.length : Int) > (12 : Int))) (some (SV.val (AV.d (D.bool true)))) (chk (szTs l ∧ (∀ (t : RowE t3S), t ∈ l → sz3 (140737488355328 : Nat) t) ∧ groups.length ≤ (2000000 : Nat) ∧ ∀ (g : RowE grS), g ∈ groups → szGp g) (chk (szTs l ∧ (∀ (t : RowE t3S), t ∈ l → sz3 (140737488355328 : Nat) t) ∧ groups.length ≤ (2000000 : Nat) ∧ ∀ (g : RowE grS), g ∈ groups → szGr g) (br (checkP l groups != checkP l groups) (some (SV.val (AV.d (D.bool false)))) (br (checkP l groups != (0 : Int)) (br ((↑(bif decide (checkP l groups = (0 : Int)) then arrangeP l groups reverse else []).length : Int) == (0 : Int)) (some (SV.val (AV.d (D.bool true)))) (some (SV.val (AV.d (D.bool false))))) (chk (lkl_Arranges_0 ((l, ()), (groups, ()), ((0 : Int), ()), ())) (chk (groups.length ≤ (2000000 : Nat) ∧ ∀ (x : RowE grS), x ∈ groups → szGr x) (chk ((bif decide (checkP l groups = (0 : Int)) then arrangeP l groups reverse else []).length ≤ (2000000 : Nat) ∧ ∀ (g : RowE grS), (g ∈ bif decide (checkP l groups = (0 : Int)) then arrangeP l groups reverse else []) → szGp g) (br (sameG (bif decide (checkP l groups = (0 : Int)) then arrangeP l groups reverse else []) (refArr l groups.length (lefts groups reverse) [])) (some (SV.val (AV.d (D.bool true)))) (some (SV.val (AV.d (D.bool false))))))))))))) := by kernel_rfl
theorem satl_Arranges : Sat P 7 (Sl_Arranges) := by
  refine sat_mk (LT := Ln (Ll_Arranges)) hC (SatE.ep okl_Cover) mixed Try.func7 (by kernel_rfl) (c := bodyOf Try.f7) (by kernel_rfl) (by kernel_rfl) ?_ (loops1 (by kernel_rfl) (lokl_Arranges_0))
  rintro ⟨⟨(l : List (RowE [.int .i64, .str, .str, .str, .int .i64, .str, .str, .str, .int .i64, .str, .str, .str])), _⟩, ⟨(groups : List (RowE [.sl [.int .i64], .sl [.int .i64]])), _⟩, ⟨(reverse : Bool), _⟩, _⟩ sv h
  refine Leads.eq (Leads.of_eq (tl_Arranges l groups reverse) ?_)
  obtain ⟨⟨h1, h2, h3, h4⟩, h⟩ := h
  obtain rfl := Out_leaf h
  refine Leads.brD (fun _ => Leads.one rfl) (fun q => Leads.brD (fun _ => Leads.one rfl) (fun q2 => Leads.chk ⟨h1, h2, h3, h4⟩ fun _ => Leads.chk ⟨h1, h2, h3, fun g hg => (h4 g hg).1⟩ fun _ => Leads.br (fun w => absurd w (by simp)) (fun _ => Leads.br (fun w => ?_) (fun w => ?_))))
  · have w : checkP l groups ≠ 0 := by simpa using w
    rw [decide_eq_false w, cond_false]
    exact Leads.br (fun _ => Leads.one rfl) (fun w => absurd w (by decide))
  · have w : checkP l groups = 0 := by simpa using w
    obtain ⟨k1, k2⟩ := arr_sz (l := l) reverse h3 h4
    rw [decide_eq_true w, cond_true, ← arrange_eq]
    refine Leads.chk ⟨by omega, by omega, by omega, h1, h4⟩ fun _ => Leads.chk ⟨h3, fun g hg => (h4 g hg).1⟩ fun _ => Leads.chk ⟨by omega, k2⟩ fun _ => Leads.br (fun _ => Leads.one rfl) (fun w => ?_)
    rw [sameG_self] at w; cases w
def El_Arranges : Es := (7, (Sl_Arranges)) :: El_Cover
theorem okl_Arranges : SatE P (En (El_Arranges)) := SatE.cons (satl_Arranges) okl_Cover
/-! ### legation/legationlaw20.SourcesConnected -/
def Ll_Connected : Ls := []
def Sl_Connected := mkS [(false, [.sl [.int .i64, .str, .str, .str, .int .i64, .str, .str, .str, .int .i64, .str, .str, .str]]), (false, [.sl [.sl [.int .i64]]]), (false, [.bool])] fun ⟨⟨(l : List (RowE [.int .i64, .str, .str, .str, .int .i64, .str, .str, .str, .int .i64, .str, .str, .str])), _⟩, ⟨(points : List (RowE [.sl [.int .i64]])), _⟩, ⟨(reverse : Bool), _⟩, _⟩ => .chk (∀ t ∈ l, sz3 140737488355328 t) (.leaf (.val (.d (.bool true))))
theorem tl_Connected (l : List (RowE [.int .i64, .str, .str, .str, .int .i64, .str, .str, .str, .int .i64, .str, .str, .str])) (points : List (RowE [.sl [.int .i64]])) (reverse : Bool) : evF T (Ep (El_Arranges)) (Ln (Ll_Connected)) Try.f8 [.d (.sl [.int .i64, .str, .str, .str, .int .i64, .str, .str, .str, .int .i64, .str, .str, .str] l), .d (.sl [.sl [.int .i64]] points), .d (.bool reverse)] =
    br (decide ((↑l.length : Int) > (10 : Int)))
  (chk ((0 : Int) ≤ (10 : Int) ∧ (10 : Int) ≤ (↑l.length : Int))
    (br (decide ((↑(fewP points).length : Int) > (↑(List.take (Int.toNat (10 : Int)) l).length : Int)))
      (chk ((0 : Int) ≤ (↑(List.take (Int.toNat (10 : Int)) l).length : Int) ∧ (↑(List.take (Int.toNat (10 : Int)) l).length : Int) ≤ (↑(fewP points).length : Int))
        (chk ((List.take (↑(List.take (Int.toNat (10 : Int)) l).length : Int).toNat (fewP points)).length ≤ (2000000 : Nat) ∧ szP (List.take (↑(List.take (Int.toNat (10 : Int)) l).length : Int).toNat (fewP points)))
          (chk (szTs (List.take (Int.toNat (10 : Int)) l) ∧ (∀ (t : RowE t3S), t ∈ List.take (Int.toNat (10 : Int)) l → sz3 (140737488355328 : Nat) t) ∧ (groupsP true (List.take (↑(List.take (Int.toNat (10 : Int)) l).length : Int).toNat (fewP points))).length ≤ (2000000 : Nat) ∧ ∀ (g : RowE grS), g ∈ groupsP true (List.take (↑(List.take (Int.toNat (10 : Int)) l).length : Int).toNat (fewP points)) → szGp g)
            (chk (szTs (List.take (Int.toNat (10 : Int)) l) ∧ (∀ (t : RowE t3S), t ∈ List.take (Int.toNat (10 : Int)) l → sz3 (140737488355328 : Nat) t) ∧ (groupsP true (List.take (↑(List.take (Int.toNat (10 : Int)) l).length : Int).toNat (fewP points))).length ≤ (2000000 : Nat) ∧ ∀ (g : RowE grS), g ∈ groupsP true (List.take (↑(List.take (Int.toNat (10 : Int)) l).length : Int).toNat (fewP points)) → szGp g)
              (br (checkP (List.take (Int.toNat (10 : Int)) l) (groupsP true (List.take (↑(List.take (Int.toNat (10 : Int)) l).length : Int).toNat (fewP points))) != checkP (List.take (Int.toNat (10 : Int)) l) (groupsP true (List.take (↑(List.take (Int.toNat (10 : Int)) l).length : Int).toNat (fewP points)))) (some (SV.val (AV.d (D.bool false))))
                (br (checkP (List.take (Int.toNat (10 : Int)) l) (groupsP true (List.take (↑(List.take (Int.toNat (10 : Int)) l).length : Int).toNat (fewP points))) != (0 : Int)) (chk (szTs (List.take (Int.toNat (10 : Int)) l) ∧ (∀ (t : RowE t3S), t ∈ List.take (Int.toNat (10 : Int)) l → sz3 (140737488355328 : Nat) t) ∧ (groupsP true (List.take (↑(List.take (Int.toNat (10 : Int)) l).length : Int).toNat (fewP points))).length ≤ (2000000 : Nat) ∧ ∀ (g : RowE grS), g ∈ groupsP true (List.take (↑(List.take (Int.toNat (10 : Int)) l).length : Int).toNat (fewP points)) → szGr g) (br (checkP (List.take (Int.toNat (10 : Int)) l) (groupsP true (List.take (↑(List.take (Int.toNat (10 : Int)) l).length : Int).toNat (fewP points))) == checkP (List.take (Int.toNat (10 : Int)) l) (groupsP true (List.take (↑(List.take (Int.toNat (10 : Int)) l).length : Int).toNat (fewP points)))) (some (SV.val (AV.d (D.bool true)))) (some (SV.val (AV.d (D.bool false))))))
                  (br ((↑(bif decide (checkP (List.take (Int.toNat (10 : Int)) l) (groupsP true (List.take (↑(List.take (Int.toNat (10 : Int)) l).length : Int).toNat (fewP points))) = (0 : Int)) then arrangeP (List.take (Int.toNat (10 : Int)) l) (groupsP true (List.take (↑(List.take (Int.toNat (10 : Int)) l).length : Int).toNat (fewP points))) reverse else []).length : Int) == (↑(groupsP true (List.take (↑(List.take (Int.toNat (10 : Int)) l).length : Int).toNat (fewP points))).length : Int))
                    (br ((↑(bif decide (checkP (List.take (Int.toNat (10 : Int)) l) (groupsP true (List.take (↑(List.take (Int.toNat (10 : Int)) l).length : Int).toNat (fewP points))) = (0 : Int)) then arrangeP (List.take (Int.toNat (10 : Int)) l) (groupsP true (List.take (↑(List.take (Int.toNat (10 : Int)) l).length : Int).toNat (fewP points))) !reverse else []).length : Int) == (↑(groupsP true (List.take (↑(List.take (Int.toNat (10 : Int)) l).length : Int).toNat (fewP points))).length : Int))
                      (chk ((bif decide (checkP (List.take (Int.toNat (10 : Int)) l) (groupsP true (List.take (↑(List.take (Int.toNat (10 : Int)) l).length : Int).toNat (fewP points))) = (0 : Int)) then arrangeP (List.take (Int.toNat (10 : Int)) l) (groupsP true (List.take (↑(List.take (Int.toNat (10 : Int)) l).length : Int).toNat (fewP points))) reverse else []).length ≤ (2000000 : Nat) ∧ ∀ (x : RowE grS), (x ∈ bif decide (checkP (List.take (Int.toNat (10 : Int)) l) (groupsP true (List.take (↑(List.take (Int.toNat (10 : Int)) l).length : Int).toNat (fewP points))) = (0 : Int)) then arrangeP (List.take (Int.toNat (10 : Int)) l) (groupsP true (List.take (↑(List.take (Int.toNat (10 : Int)) l).length : Int).toNat (fewP points))) reverse else []) → szGr x)
                        (chk ((bif decide (checkP (List.take (Int.toNat (10 : Int)) l) (groupsP true (List.take (↑(List.take (Int.toNat (10 : Int)) l).length : Int).toNat (fewP points))) = (0 : Int)) then arrangeP (List.take (Int.toNat (10 : Int)) l) (groupsP true (List.take (↑(List.take (Int.toNat (10 : Int)) l).length : Int).toNat (fewP points))) !reverse else []).length ≤ (2000000 : Nat) ∧ ∀ (x : RowE grS), (x ∈ bif decide (checkP (List.take (Int.toNat (10 : Int)) l) (groupsP true (List.take (↑(List.take (Int.toNat (10 : Int)) l).length : Int).toNat (fewP points))) = (0 : Int)) then arrangeP (List.take (Int.toNat (10 : Int)) l) (groupsP true (List.take (↑(List.take (Int.toNat (10 : Int)) l).length : Int).toNat (fewP points))) !reverse else []) → szGr x) (br (chainP (List.take (Int.toNat (10 : Int)) l) (bif decide (checkP (List.take (Int.toNat (10 : Int)) l) (groupsP true (List.take (↑(List.take (Int.toNat (10 : Int)) l).length : Int).toNat (fewP points))) = (0 : Int)) then arrangeP (List.take (Int.toNat (10 : Int)) l) (groupsP true (List.take (↑(List.take (Int.toNat (10 : Int)) l).length : Int).toNat (fewP points))) reverse else []) == chainP (List.take (Int.toNat (10 : Int)) l) (bif decide (checkP (List.take (Int.toNat (10 : Int)) l) (groupsP true (List.take (↑(List.take (Int.toNat (10 : Int)) l).length : Int).toNat (fewP points))) = (0 : Int)) then arrangeP (List.take (Int.toNat (10 : Int)) l) (groupsP true (List.take (↑(List.take (Int.toNat (10 : Int)) l).length : Int).toNat (fewP points))) !reverse else [])) (chk ((bif decide (checkP (List.take (Int.toNat (10 : Int)) l) (groupsP true (List.take (↑(List.take (Int.toNat (10 : Int)) l).length : Int).toNat (fewP points))) = (0 : Int)) then arrangeP (List.take (Int.toNat (10 : Int)) l) (groupsP true (List.take (↑(List.take (Int.toNat (10 : Int)) l).length : Int).toNat (fewP points))) reverse else []).length ≤ (2000000 : Nat) ∧ (bif decide (checkP (List.take (Int.toNat (10 : Int)) l) (groupsP true (List.take (↑(List.take (Int.toNat (10 : Int)) l).length : Int).toNat (fewP points))) = (0 : Int)) then arrangeP (List.take (Int.toNat (10 : Int)) l) (groupsP true (List.take (↑(List.take (Int.toNat (10 : Int)) l).length : Int).toNat (fewP points))) !reverse else []).length ≤ (2000000 : Nat) ∧ ∀ (x : RowE grS), (x ∈ bif decide (checkP (List.take (Int.toNat (10 : Int)) l) (groupsP true (List.take (↑(List.take (Int.toNat (10 : Int)) l).length : Int).toNat (fewP points))) = (0 : Int)) then arrangeP (List.take (Int.toNat (10 : Int)) l) (groupsP true (List.take (↑(List.take (Int.toNat (10 : Int)) l).length : Int).toNat (fewP points))) reverse else []) → szGp x) (br (sameP (bif decide (checkP (List.take (Int.toNat (10 : Int)) l) (groupsP true (List.take (↑(List.take (Int.toNat (10 : Int)) l).length : Int).toNat (fewP points))) = (0 : Int)) then arrangeP (List.take (Int.toNat (10 : Int)) l) (groupsP true (List.take (↑(List.take (Int.toNat (10 : Int)) l).length : Int).toNat (fewP points))) reverse else []) (bif decide (checkP (List.take (Int.toNat (10 : Int)) l) (groupsP true (List.take (↑(List.take (Int.toNat (10 : Int)) l).length : Int).toNat (fewP points))) = (0 : Int)) then arrangeP (List.take (Int.toNat (10 : Int)) l) (groupsP true (List.take (↑(List.take (Int.toNat (10 : Int)) l).length : Int).toNat (fewP points))) !reverse else [])) (some (SV.val (AV.d (D.bool true)))) (some (SV.val (AV.d (D.bool false)))))) (some (SV.val (AV.d (D.bool false)))))))
                      (some (SV.val (AV.d (D.bool false)))))
                    (some (SV.val (AV.d (D.bool false)))))))))))
      (chk ((fewP points).length ≤ (2000000 : Nat) ∧ szP (fewP points))
        (chk (szTs (List.take (Int.toNat (10 : Int)) l) ∧ (∀ (t : RowE t3S), t ∈ List.take (Int.toNat (10 : Int)) l → sz3 (140737488355328 : Nat) t) ∧ (groupsP true (fewP points)).length ≤ (2000000 : Nat) ∧ ∀ (g : RowE grS), g ∈ groupsP true (fewP points) → szGp g)
          (chk (szTs (List.take (Int.toNat (10 : Int)) l) ∧ (∀ (t : RowE t3S), t ∈ List.take (Int.toNat (10 : Int)) l → sz3 (140737488355328 : Nat) t) ∧ (groupsP true (fewP points)).length ≤ (2000000 : Nat) ∧ ∀ (g : RowE grS), g ∈ groupsP true (fewP points) → szGp g)
            (br (checkP (List.take (Int.toNat (10 : Int)) l) (groupsP true (fewP points)) != checkP (List.take (Int.toNat (10 : Int)) l) (groupsP true (fewP points))) (some (SV.val (AV.d (D.bool false))))
              (br (checkP (List.take (Int.toNat (10 : Int)) l) (groupsP true (fewP points)) != (0 : Int)) (chk (szTs (List.take (Int.toNat (10 : Int)) l) ∧ (∀ (t : RowE t3S), t ∈ List.take (Int.toNat (10 : Int)) l → sz3 (140737488355328 : Nat) t) ∧ (groupsP true (fewP points)).length ≤ (2000000 : Nat) ∧ ∀ (g : RowE grS), g ∈ groupsP true (fewP points) → szGr g) (br (checkP (List.take (Int.toNat (10 : Int)) l) (groupsP true (fewP points)) == checkP (List.take (Int.toNat (10 : Int)) l) (groupsP true (fewP points))) (some (SV.val (AV.d (D.bool true)))) (some (SV.val (AV.d (D.bool false))))))
                (br ((↑(bif decide (checkP (List.take (Int.toNat (10 : Int)) l) (groupsP true (fewP points)) = (0 : Int)) then arrangeP (List.take (Int.toNat (10 : Int)) l) (groupsP true (fewP points)) reverse else []).length : Int) == (↑(groupsP true (fewP points)).length : Int)) (br ((↑(bif decide (checkP (List.take (Int.toNat (10 : Int)) l) (groupsP true (fewP points)) = (0 : Int)) then arrangeP (List.take (Int.toNat (10 : Int)) l) (groupsP true (fewP points)) !reverse else []).length : Int) == (↑(groupsP true (fewP points)).length : Int)) (chk ((bif decide (checkP (List.take (Int.toNat (10 : Int)) l) (groupsP true (fewP points)) = (0 : Int)) then arrangeP (List.take (Int.toNat (10 : Int)) l) (groupsP true (fewP points)) reverse else []).length ≤ (2000000 : Nat) ∧ ∀ (x : RowE grS), (x ∈ bif decide (checkP (List.take (Int.toNat (10 : Int)) l) (groupsP true (fewP points)) = (0 : Int)) then arrangeP (List.take (Int.toNat (10 : Int)) l) (groupsP true (fewP points)) reverse else []) → szGr x) (chk ((bif decide (checkP (List.take (Int.toNat (10 : Int)) l) (groupsP true (fewP points)) = (0 : Int)) then arrangeP (List.take (Int.toNat (10 : Int)) l) (groupsP true (fewP points)) !reverse else []).length ≤ (2000000 : Nat) ∧ ∀ (x : RowE grS), (x ∈ bif decide (checkP (List.take (Int.toNat (10 : Int)) l) (groupsP true (fewP points)) = (0 : Int)) then arrangeP (List.take (Int.toNat (10 : Int)) l) (groupsP true (fewP points)) !reverse else []) → szGr x) (br (chainP (List.take (Int.toNat (10 : Int)) l) (bif decide (checkP (List.take (Int.toNat (10 : Int)) l) (groupsP true (fewP points)) = (0 : Int)) then arrangeP (List.take (Int.toNat (10 : Int)) l) (groupsP true (fewP points)) reverse else []) == chainP (List.take (Int.toNat (10 : Int)) l) (bif decide (checkP (List.take (Int.toNat (10 : Int)) l) (groupsP true (fewP points)) = (0 : Int)) then arrangeP (List.take (Int.toNat (10 : Int)) l) (groupsP true (fewP points)) !reverse else [])) (chk ((bif decide (checkP (List.take (Int.toNat (10 : Int)) l) (groupsP true (fewP points)) = (0 : Int)) then arrangeP (List.take (Int.toNat (10 : Int)) l) (groupsP true (fewP points)) reverse else []).length ≤ (2000000 : Nat) ∧ (bif decide (checkP (List.take (Int.toNat (10 : Int)) l) (groupsP true (fewP points)) = (0 : Int)) then arrangeP (List.take (Int.toNat (10 : Int)) l) (groupsP true (fewP points)) !reverse else []).length ≤ (2000000 : Nat) ∧ ∀ (x : RowE grS), (x ∈ bif decide (checkP (List.take (Int.toNat (10 : Int)) l) (groupsP true (fewP points)) = (0 : Int)) then arrangeP (List.take (Int.toNat (10 : Int)) l) (groupsP true (fewP points)) reverse else []) → szGp x) (br (sameP (bif decide (checkP (List.take (Int.toNat (10 : Int)) l) (groupsP true (fewP points)) = (0 : Int)) then arrangeP (List.take (Int.toNat (10 : Int)) l) (groupsP true (fewP points)) reverse else []) (bif decide (checkP (List.take (Int.toNat (10 : Int)) l) (groupsP true (fewP points)) = (0 : Int)) then arrangeP (List.take (Int.toNat (10 : Int)) l) (groupsP true (fewP points)) !reverse else [])) (some (SV.val (AV.d (D.bool true)))) (some (SV.val (AV.d (D.bool false)))))) (some (SV.val (AV.d (D.bool false))))))) (some (SV.val (AV.d (D.bool false))))) (some (SV.val (AV.d (D.bool false))))))))))))
  (br (decide ((↑(fewP points).length : Int) > (↑l.length : Int)))
    (chk ((0 : Int) ≤ (↑l.length : Int) ∧ (↑l.length : Int) ≤ (↑(fewP points).length : Int))
      (chk ((List.take (↑l.length : Int).toNat (fewP points)).length ≤ (2000000 : Nat) ∧ szP (List.take (↑l.length : Int).toNat (fewP points)))
        (chk (szTs l ∧ (∀ (t : RowE t3S), t ∈ l → sz3 (140737488355328 : Nat) t) ∧ (groupsP true (List.take (↑l.length : Int).toNat (fewP points))).length ≤ (2000000 : Nat) ∧ ∀ (g : RowE grS), g ∈ groupsP true (List.take (↑l.length : Int).toNat (fewP points)) → szGp g)
          (chk (szTs l ∧ (∀ (t : RowE t3S), t ∈ l → sz3 (140737488355328 : Nat) t) ∧ (groupsP true (List.take (↑l.length : Int).toNat (fewP points))).length ≤ (2000000 : Nat) ∧ ∀ (g : RowE grS), g ∈ groupsP true (List.take (↑l.length : Int).toNat (fewP points)) → szGp g)
            (br (checkP l (groupsP true (List.take (↑l.length : Int).toNat (fewP points))) != checkP l (groupsP true (List.take (↑l.length : Int).toNat (fewP points)))) (some (SV.val (AV.d (D.bool false))))
              (br (checkP l (groupsP true (List.take (↑l.length : Int).toNat (fewP points))) != (0 : Int)) (chk (szTs l ∧ (∀ (t : RowE t3S), t ∈ l → sz3 (140737488355328 : Nat) t) ∧ (groupsP true (List.take (↑l.length : Int).toNat (fewP points))).length ≤ (2000000 : Nat) ∧ ∀ (g : RowE grS), g ∈ groupsP true (List.take (↑l.length : Int).toNat (fewP points)) → szGr g) (br (checkP l (groupsP true (List.take (↑l.length : Int).toNat (fewP points))) == checkP l (groupsP true (List.take (↑l.length : Int).toNat (fewP points)))) (some (SV.val (AV.d (D.bool true)))) (some (SV.val (AV.d (D.bool false))))))
                (br ((↑(bif decide (checkP l (groupsP true (List.take (↑l.length : Int).toNat (fewP points))) = (0 : Int)) then arrangeP l (groupsP true (List.take (↑l.length : Int).toNat (fewP points))) reverse else []).length : Int) == (↑(groupsP true (List.take (↑l.length : Int).toNat (fewP points))).length : Int)) (br ((↑(bif decide (checkP l (groupsP true (List.take (↑l.length : Int).toNat (fewP points))) = (0 : Int)) then arrangeP l (groupsP true (List.take (↑l.length : Int).toNat (fewP points))) !reverse else []).length : Int) == (↑(groupsP true (List.take (↑l.length : Int).toNat (fewP points))).length : Int)) (chk ((bif decide (checkP l (groupsP true (List.take (↑l.length : Int).toNat (fewP points))) = (0 : Int)) then arrangeP l (groupsP true (List.take (↑l.length : Int).toNat (fewP points))) reverse else []).length ≤ (2000000 : Nat) ∧ ∀ (x : RowE grS), (x ∈ bif decide (checkP l (groupsP true (List.take (↑l.length : Int).toNat (fewP points))) = (0 : Int)) then arrangeP l (groupsP true (List.take (↑l.length : Int).toNat (fewP points))) reverse else []) → szGr x) (chk ((bif decide (checkP l (groupsP true (List.take (↑l.length : Int).toNat (fewP points))) = (0 : Int)) then arrangeP l (groupsP true (List.take (↑l.length : Int).toNat (fewP points))) !reverse else []).length ≤ (2000000 : Nat) ∧ ∀ (x : RowE grS), (x ∈ bif decide (checkP l (groupsP true (List.take (↑l.length : Int).toNat (fewP points))) = (0 : Int)) then arrangeP l (groupsP true (List.take (↑l.length : Int).toNat (fewP points))) !reverse else []) → szGr x) (br (chainP l (bif decide (checkP l (groupsP true (List.take (↑l.length : Int).toNat (fewP points))) = (0 : Int)) then arrangeP l (groupsP true (List.take (↑l.length : Int).toNat (fewP points))) reverse else []) == chainP l (bif decide (checkP l (groupsP true (List.take (↑l.length : Int).toNat (fewP points))) = (0 : Int)) then arrangeP l (groupsP true (List.take (↑l.length : Int).toNat (fewP points))) !reverse else [])) (chk ((bif decide (checkP l (groupsP true (List.take (↑l.length : Int).toNat (fewP points))) = (0 : Int)) then arrangeP l (groupsP true (List.take (↑l.length : Int).toNat (fewP points))) reverse else []).length ≤ (2000000 : Nat) ∧ (bif decide (checkP l (groupsP true (List.take (↑l.length : Int).toNat (fewP points))) = (0 : Int)) then arrangeP l (groupsP true (List.take (↑l.length : Int).toNat (fewP points))) !reverse else []).length ≤ (2000000 : Nat) ∧ ∀ (x : RowE grS), (x ∈ bif decide (checkP l (groupsP true (List.take (↑l.length : Int).toNat (fewP points))) = (0 : Int)) then arrangeP l (groupsP true (List.take (↑l.length : Int).toNat (fewP points))) reverse else []) → szGp x) (br (sameP (bif decide (checkP l (groupsP true (List.take (↑l.length : Int).toNat (fewP points))) = (0 : Int)) then arrangeP l (groupsP true (List.take (↑l.length : Int).toNat (fewP points))) reverse else []) (bif decide (checkP l (groupsP true (List.take (↑l.length : Int).toNat (fewP points))) = (0 : Int)) then arrangeP l (groupsP true (List.take (↑l.length : Int).toNat (fewP points))) !reverse else [])) (some (SV.val (AV.d (D.bool true)))) (some (SV.val (AV.d (D.bool false)))))) (some (SV.val (AV.d (D.bool false))))))) (some (SV.val (AV.d (D.bool false))))) (some (SV.val (AV.d (D.bool false)))))))))))
    (chk ((fewP points).length ≤ (2000000 : Nat) ∧ szP (fewP points)) (chk (szTs l ∧ (∀ (t : RowE t3S), t ∈ l → sz3 (140737488355328 : Nat) t) ∧ (groupsP true (fewP points)).length ≤ (2000000 : Nat) ∧ ∀ (g : RowE grS), g ∈ groupsP true (fewP points) → szGp g) (chk (szTs l ∧ (∀ (t : RowE t3S), t ∈ l → sz3 (140737488355328 : Nat) t) ∧ (groupsP true (fewP points)).length ≤ (2000000 : Nat) ∧ ∀ (g : RowE grS), g ∈ groupsP true (fewP points) → szGp g) (br (checkP l (groupsP true (fewP points)) != checkP l (groupsP true (fewP points))) (some (SV.val (AV.d (D.bool false)))) (br (checkP l (groupsP true (fewP points)) != (0 : Int)) (chk (szTs l ∧ (∀ (t : RowE t3S), t ∈ l → sz3 (140737488355328 : Nat) t) ∧ (groupsP true (fewP points)).length ≤ (2000000 : Nat) ∧ ∀ (g : RowE grS), g ∈ groupsP true (fewP points) → szGr g) (br (checkP l (groupsP true (fewP points)) == checkP l (groupsP true (fewP points))) (some (SV.val (AV.d (D.bool true)))) (some (SV.val (AV.d (D.bool false)))))) (br ((↑(bif decide (checkP l (groupsP true (fewP points)) = (0 : Int)) then arrangeP l (groupsP true (fewP points)) reverse else []).length : Int) == (↑(groupsP true (fewP points)).length : Int)) (br ((↑(bif decide (checkP l (groupsP true (fewP points)) = (0 : Int)) then arrangeP l (groupsP true (fewP points)) !reverse else []).length : Int) == (↑(groupsP true (fewP points)).length : Int)) (chk ((bif decide (checkP l (groupsP true (fewP points)) = (0 : Int)) then arrangeP l (groupsP true (fewP points)) reverse else []).length ≤ (2000000 : Nat) ∧ ∀ (x : RowE grS), (x ∈ bif decide (checkP l (groupsP true (fewP points)) = (0 : Int)) then arrangeP l (groupsP true (fewP points)) reverse else []) → szGr x) (chk ((bif decide (checkP l (groupsP true (fewP points)) = (0 : Int)) then arrangeP l (groupsP true (fewP points)) !reverse else []).length ≤ (2000000 : Nat) ∧ ∀ (x : RowE grS), (x ∈ bif decide (checkP l (groupsP true (fewP points)) = (0 : Int)) then arrangeP l (groupsP true (fewP points)) !reverse else []) → szGr x) (br (chainP l (bif decide (checkP l (groupsP true (fewP points)) = (0 : Int)) then arrangeP l (groupsP true (fewP points)) reverse else []) == chainP l (bif decide (checkP l (groupsP true (fewP points)) = (0 : Int)) then arrangeP l (groupsP true (fewP points)) !reverse else [])) (chk ((bif decide (checkP l (groupsP true (fewP points)) = (0 : Int)) then arrangeP l (groupsP true (fewP points)) reverse else []).length ≤ (2000000 : Nat) ∧ (bif decide (checkP l (groupsP true (fewP points)) = (0 : Int)) then arrangeP l (groupsP true (fewP points)) !reverse else []).length ≤ (2000000 : Nat) ∧ ∀ (x : RowE grS), (x ∈ bif decide (checkP l (groupsP true (fewP points)) = (0 : Int)) then arrangeP l (groupsP true (fewP points)) reverse else []) → szGp x) (br (sameP (bif decide (checkP l (groupsP true (fewP points)) = (0 : Int)) then arrangeP l (groupsP true (fewP points)) reverse else []) (bif decide (checkP l (groupsP true (fewP points)) = (0 : Int)) then arrangeP l (groupsP true (fewP points)) !reverse else [])) (some (SV.val (AV.d (D.bool true)))) (some (SV.val (AV.d (D.bool false)))))) (some (SV.val (AV.d (D.bool false))))))) (some (SV.val (AV.d (D.bool false))))) (some (SV.val (AV.d (D.bool false))))))))))) := by kernel_rfl
theorem satl_Connected : Sat P 8 (Sl_Connected) := by
  refine sat_mk (LT := Ln (Ll_Connected)) hC (SatE.ep okl_Arranges) mixed Try.func8 (by kernel_rfl) (c := bodyOf Try.f8) (by kernel_rfl) (by kernel_rfl) ?_ (loops0 (by kernel_rfl))
  rintro ⟨⟨(l : List (RowE [.int .i64, .str, .str, .str, .int .i64, .str, .str, .str, .int .i64, .str, .str, .str])), _⟩, ⟨(points : List (RowE [.sl [.int .i64]])), _⟩, ⟨(reverse : Bool), _⟩, _⟩ sv h
  refine Leads.eq (Leads.of_eq (tl_Connected l points reverse) ?_)
  obtain ⟨h1, h⟩ := h
  obtain rfl := Out_leaf h
  obtain ⟨f1, f2⟩ := few_sz points
  refine Leads.brD (fun q => Leads.chk ⟨by omega, by omega⟩ fun _ => Leads.brD (fun q2 => Leads.chk ⟨by omega, by omega⟩ fun _ => ?_) (fun q2 => ?_)) (fun q => Leads.brD (fun q2 => Leads.chk ⟨by omega, by omega⟩ fun _ => ?_) (fun q2 => ?_))
  · have l1 : szTs (List.take (Int.toNat (10 : Int)) l) := by unfold szTs; rw [List.length_take]; omega
    have l2 : ∀ t ∈ (List.take (Int.toNat (10 : Int)) l), sz3 140737488355328 t := fun t ht => h1 t (List.mem_of_mem_take ht)
    have p1 : ((List.take ((List.take (Int.toNat (10 : Int)) l).length : Int).toNat (fewP points))).length ≤ 20 := by rw [List.length_take]; omega
    have p2 : ∀ x ∈ (List.take ((List.take (Int.toNat (10 : Int)) l).length : Int).toNat (fewP points)), (x.1 : List Nt).length ≤ 10 := fun x hx => f2 x (List.mem_of_mem_take hx)
    have hg := groups_sz true (pts := (List.take ((List.take (Int.toNat (10 : Int)) l).length : Int).toNat (fewP points))) p1 p2
    have hg1 : (groupsP true (List.take ((List.take (Int.toNat (10 : Int)) l).length : Int).toNat (fewP points))).length ≤ 2000000 := by omega
    have hg2 : ∀ g ∈ groupsP true (List.take ((List.take (Int.toNat (10 : Int)) l).length : Int).toNat (fewP points)), szGp g := hg.2
    refine Leads.chk ⟨by omega, fun x hx => by have := p2 x hx; omega⟩ fun _ => Leads.chk ⟨l1, l2, hg1, hg2⟩ fun _ => Leads.chk ⟨l1, l2, hg1, hg2⟩ fun _ => Leads.br (fun w => absurd w (by simp)) (fun _ => Leads.br (fun w => Leads.chk ⟨l1, l2, hg1, fun g hg => (hg2 g hg).1⟩ fun _ => Leads.br (fun _ => Leads.one rfl) (fun w => absurd w (by simp))) (fun w => ?_))
    have w : checkP (List.take (Int.toNat (10 : Int)) l) (groupsP true (List.take ((List.take (Int.toNat (10 : Int)) l).length : Int).toNat (fewP points))) = 0 := by simpa using w
    rw [decide_eq_true w, cond_true, cond_true]
    obtain ⟨a1, a2⟩ := arr_sz (l := (List.take (Int.toNat (10 : Int)) l)) reverse hg1 hg2
    obtain ⟨b1, b2⟩ := arr_sz (l := (List.take (Int.toNat (10 : Int)) l)) (!reverse) hg1 hg2
    refine Leads.br (fun _ => Leads.br (fun _ => Leads.chk ⟨by omega, fun x hx => (a2 x hx).1⟩ fun _ => Leads.chk ⟨by omega, fun x hx => (b2 x hx).1⟩ fun _ => Leads.br (fun _ => Leads.chk ⟨by omega, by omega, a2⟩ fun _ => Leads.br (fun _ => Leads.one rfl) (fun w => ?_)) (fun w => ?_)) (fun w => ?_)) (fun w => ?_)
    · rw [sameP_perm ((arr_perm (List.take (Int.toNat (10 : Int)) l) (groupsP true (List.take ((List.take (Int.toNat (10 : Int)) l).length : Int).toNat (fewP points))) reverse).trans (arr_perm (List.take (Int.toNat (10 : Int)) l) (groupsP true (List.take ((List.take (Int.toNat (10 : Int)) l).length : Int).toNat (fewP points))) (!reverse)).symm) ((arr_perm (List.take (Int.toNat (10 : Int)) l) (groupsP true (List.take ((List.take (Int.toNat (10 : Int)) l).length : Int).toNat (fewP points))) (!reverse)).nodup_iff.2 (groups_nodup true (List.take ((List.take (Int.toNat (10 : Int)) l).length : Int).toNat (fewP points))))] at w; cases w
    · rw [chain_both (List.take (Int.toNat (10 : Int)) l) (groups_nodup true (List.take ((List.take (Int.toNat (10 : Int)) l).length : Int).toNat (fewP points))) reverse (!reverse)] at w; simp at w
    · rw [b1] at w; simp at w
    · rw [a1] at w; simp at w
  · have l1 : szTs (List.take (Int.toNat (10 : Int)) l) := by unfold szTs; rw [List.length_take]; omega
    have l2 : ∀ t ∈ (List.take (Int.toNat (10 : Int)) l), sz3 140737488355328 t := fun t ht => h1 t (List.mem_of_mem_take ht)
    have p1 : ((fewP points)).length ≤ 20 := f1
    have p2 : ∀ x ∈ (fewP points), (x.1 : List Nt).length ≤ 10 := f2
    have hg := groups_sz true (pts := (fewP points)) p1 p2
    have hg1 : (groupsP true (fewP points)).length ≤ 2000000 := by omega
    have hg2 : ∀ g ∈ groupsP true (fewP points), szGp g := hg.2
    refine Leads.chk ⟨by omega, fun x hx => by have := p2 x hx; omega⟩ fun _ => Leads.chk ⟨l1, l2, hg1, hg2⟩ fun _ => Leads.chk ⟨l1, l2, hg1, hg2⟩ fun _ => Leads.br (fun w => absurd w (by simp)) (fun _ => Leads.br (fun w => Leads.chk ⟨l1, l2, hg1, fun g hg => (hg2 g hg).1⟩ fun _ => Leads.br (fun _ => Leads.one rfl) (fun w => absurd w (by simp))) (fun w => ?_))
    have w : checkP (List.take (Int.toNat (10 : Int)) l) (groupsP true (fewP points)) = 0 := by simpa using w
    rw [decide_eq_true w, cond_true, cond_true]
    obtain ⟨a1, a2⟩ := arr_sz (l := (List.take (Int.toNat (10 : Int)) l)) reverse hg1 hg2
    obtain ⟨b1, b2⟩ := arr_sz (l := (List.take (Int.toNat (10 : Int)) l)) (!reverse) hg1 hg2
    refine Leads.br (fun _ => Leads.br (fun _ => Leads.chk ⟨by omega, fun x hx => (a2 x hx).1⟩ fun _ => Leads.chk ⟨by omega, fun x hx => (b2 x hx).1⟩ fun _ => Leads.br (fun _ => Leads.chk ⟨by omega, by omega, a2⟩ fun _ => Leads.br (fun _ => Leads.one rfl) (fun w => ?_)) (fun w => ?_)) (fun w => ?_)) (fun w => ?_)
    · rw [sameP_perm ((arr_perm (List.take (Int.toNat (10 : Int)) l) (groupsP true (fewP points)) reverse).trans (arr_perm (List.take (Int.toNat (10 : Int)) l) (groupsP true (fewP points)) (!reverse)).symm) ((arr_perm (List.take (Int.toNat (10 : Int)) l) (groupsP true (fewP points)) (!reverse)).nodup_iff.2 (groups_nodup true (fewP points)))] at w; cases w
    · rw [chain_both (List.take (Int.toNat (10 : Int)) l) (groups_nodup true (fewP points)) reverse (!reverse)] at w; simp at w
    · rw [b1] at w; simp at w
    · rw [a1] at w; simp at w
  · have l1 : szTs l := by unfold szTs; omega
    have l2 : ∀ t ∈ l, sz3 140737488355328 t := h1
    have p1 : ((List.take ((l.length : Int)).toNat (fewP points))).length ≤ 20 := by rw [List.length_take]; omega
    have p2 : ∀ x ∈ (List.take ((l.length : Int)).toNat (fewP points)), (x.1 : List Nt).length ≤ 10 := fun x hx => f2 x (List.mem_of_mem_take hx)
    have hg := groups_sz true (pts := (List.take ((l.length : Int)).toNat (fewP points))) p1 p2
    have hg1 : (groupsP true (List.take ((l.length : Int)).toNat (fewP points))).length ≤ 2000000 := by omega
    have hg2 : ∀ g ∈ groupsP true (List.take ((l.length : Int)).toNat (fewP points)), szGp g := hg.2
    refine Leads.chk ⟨by omega, fun x hx => by have := p2 x hx; omega⟩ fun _ => Leads.chk ⟨l1, l2, hg1, hg2⟩ fun _ => Leads.chk ⟨l1, l2, hg1, hg2⟩ fun _ => Leads.br (fun w => absurd w (by simp)) (fun _ => Leads.br (fun w => Leads.chk ⟨l1, l2, hg1, fun g hg => (hg2 g hg).1⟩ fun _ => Leads.br (fun _ => Leads.one rfl) (fun w => absurd w (by simp))) (fun w => ?_))
    have w : checkP l (groupsP true (List.take ((l.length : Int)).toNat (fewP points))) = 0 := by simpa using w
    rw [decide_eq_true w, cond_true, cond_true]
    obtain ⟨a1, a2⟩ := arr_sz (l := l) reverse hg1 hg2
    obtain ⟨b1, b2⟩ := arr_sz (l := l) (!reverse) hg1 hg2
    refine Leads.br (fun _ => Leads.br (fun _ => Leads.chk ⟨by omega, fun x hx => (a2 x hx).1⟩ fun _ => Leads.chk ⟨by omega, fun x hx => (b2 x hx).1⟩ fun _ => Leads.br (fun _ => Leads.chk ⟨by omega, by omega, a2⟩ fun _ => Leads.br (fun _ => Leads.one rfl) (fun w => ?_)) (fun w => ?_)) (fun w => ?_)) (fun w => ?_)
    · rw [sameP_perm ((arr_perm l (groupsP true (List.take ((l.length : Int)).toNat (fewP points))) reverse).trans (arr_perm l (groupsP true (List.take ((l.length : Int)).toNat (fewP points))) (!reverse)).symm) ((arr_perm l (groupsP true (List.take ((l.length : Int)).toNat (fewP points))) (!reverse)).nodup_iff.2 (groups_nodup true (List.take ((l.length : Int)).toNat (fewP points))))] at w; cases w
    · rw [chain_both l (groups_nodup true (List.take ((l.length : Int)).toNat (fewP points))) reverse (!reverse)] at w; simp at w
    · rw [b1] at w; simp at w
    · rw [a1] at w; simp at w
  · have l1 : szTs l := by unfold szTs; omega
    have l2 : ∀ t ∈ l, sz3 140737488355328 t := h1
    have p1 : ((fewP points)).length ≤ 20 := f1
    have p2 : ∀ x ∈ (fewP points), (x.1 : List Nt).length ≤ 10 := f2
    have hg := groups_sz true (pts := (fewP points)) p1 p2
    have hg1 : (groupsP true (fewP points)).length ≤ 2000000 := by omega
    have hg2 : ∀ g ∈ groupsP true (fewP points), szGp g := hg.2
    refine Leads.chk ⟨by omega, fun x hx => by have := p2 x hx; omega⟩ fun _ => Leads.chk ⟨l1, l2, hg1, hg2⟩ fun _ => Leads.chk ⟨l1, l2, hg1, hg2⟩ fun _ => Leads.br (fun w => absurd w (by simp)) (fun _ => Leads.br (fun w => Leads.chk ⟨l1, l2, hg1, fun g hg => (hg2 g hg).1⟩ fun _ => Leads.br (fun _ => Leads.one rfl) (fun w => absurd w (by simp))) (fun w => ?_))
    have w : checkP l (groupsP true (fewP points)) = 0 := by simpa using w
    rw [decide_eq_true w, cond_true, cond_true]
    obtain ⟨a1, a2⟩ := arr_sz (l := l) reverse hg1 hg2
    obtain ⟨b1, b2⟩ := arr_sz (l := l) (!reverse) hg1 hg2
    refine Leads.br (fun _ => Leads.br (fun _ => Leads.chk ⟨by omega, fun x hx => (a2 x hx).1⟩ fun _ => Leads.chk ⟨by omega, fun x hx => (b2 x hx).1⟩ fun _ => Leads.br (fun _ => Leads.chk ⟨by omega, by omega, a2⟩ fun _ => Leads.br (fun _ => Leads.one rfl) (fun w => ?_)) (fun w => ?_)) (fun w => ?_)) (fun w => ?_)
    · rw [sameP_perm ((arr_perm l (groupsP true (fewP points)) reverse).trans (arr_perm l (groupsP true (fewP points)) (!reverse)).symm) ((arr_perm l (groupsP true (fewP points)) (!reverse)).nodup_iff.2 (groups_nodup true (fewP points)))] at w; cases w
    · rw [chain_both l (groups_nodup true (fewP points)) reverse (!reverse)] at w; simp at w
    · rw [b1] at w; simp at w
    · rw [a1] at w; simp at w
def El_Connected : Es := (8, (Sl_Connected)) :: El_Arranges
theorem okl_Connected : SatE P (En (El_Connected)) := SatE.cons (satl_Connected) okl_Arranges
end Go.Proofs.Ytgcjhcefpkbheaa.T20
