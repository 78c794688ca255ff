/- Part of a proof of the seat's statements: no statement by itself. -/
import Derived.Test.YtgcjhcefpkbheaaT20B
import Derived.Test.YtgcjhcefpkbheaaSwC
set_option maxRecDepth 100000
open Go.Proofs.Ytgcjhcefpkbheaa.Lg Go Go.Proofs.Ytgcjhcefpkbheaa.Sp
open Go.Proofs
namespace Go.Proofs.Ytgcjhcefpkbheaa.T20


/-! ### legation/sources.check -/
def lkcheck_0 : St [.v false [.sl [.int .i64, .str, .str, .str, .int .i64, .str, .str, .str, .int .i64, .str, .str, .str]], .v false [.int .i64], .v false [.int .i64]] → Prop := fun ⟨⟨(x12 : List (RowE [.int .i64, .str, .str, .str, .int .i64, .str, .str, .str, .int .i64, .str, .str, .str])), _⟩, ⟨(x13 : Int), _⟩, ⟨(x14 : Int), _⟩, _⟩ => 0 ≤ x14 ∧ x14 ≤ x13 ∧ x13 = (x12.length : Int) ∧ x12.length ≤ 2000000 ∧ ∀ t ∈ x12, sz3 140737488355328 t
def lgcheck_0 : St [.v false [.sl [.int .i64, .str, .str, .str, .int .i64, .str, .str, .str, .int .i64, .str, .str, .str]], .v false [.int .i64], .v false [.int .i64]] → Tr (Ex × List SV) := fun ⟨⟨(x12 : List (RowE [.int .i64, .str, .str, .str, .int .i64, .str, .str, .str, .int .i64, .str, .str, .str])), _⟩, ⟨(x13 : Int), _⟩, ⟨(x14 : Int), _⟩, _⟩ => .br ((x12.drop x14.toNat).all pat) (.leaf (.exit 0, [])) (.leaf (.ret, [.val (.d (.int .i64 (2)))]))
def lmcheck_0 : St [.v false [.sl [.int .i64, .str, .str, .str, .int .i64, .str, .str, .str, .int .i64, .str, .str, .str]], .v false [.int .i64], .v false [.int .i64]] → Nat := fun ⟨⟨(x12 : List (RowE [.int .i64, .str, .str, .str, .int .i64, .str, .str, .str, .int .i64, .str, .str, .str])), _⟩, ⟨(x13 : Int), _⟩, ⟨(x14 : Int), _⟩, _⟩ => x12.length - x14.toNat
def lscheck_0 : LoopS := mkR [12, 13, 14] [] [4] [.v false [.sl [.int .i64, .str, .str, .str, .int .i64, .str, .str, .str, .int .i64, .str, .str, .str]], .v false [.int .i64], .v false [.int .i64]] (fun r => .chk (lkcheck_0 r) (lgcheck_0 r))
def lkcheck_1 : St [.v false [.sl [.int .i64, .str, .str, .str, .int .i64, .str, .str, .str, .int .i64, .str, .str, .str]], .v false [.sl [.sl [.int .i64], .sl [.int .i64]]], .v false [.int .i64], .v false [.int .i64]] → Prop := fun ⟨⟨(l : List (RowE [.int .i64, .str, .str, .str, .int .i64, .str, .str, .str, .int .i64, .str, .str, .str])), _⟩, ⟨(x24 : List (RowE [.sl [.int .i64], .sl [.int .i64]])), _⟩, ⟨(x25 : Int), _⟩, ⟨(x26 : Int), _⟩, _⟩ => 0 ≤ x26 ∧ x26 ≤ x25 ∧ x25 = (x24.length : Int) ∧ x24.length ≤ 2000000 ∧ l.length ≤ 2000000 ∧ ∀ g ∈ x24, szGp g
def lgcheck_1 : St [.v false [.sl [.int .i64, .str, .str, .str, .int .i64, .str, .str, .str, .int .i64, .str, .str, .str]], .v false [.sl [.sl [.int .i64], .sl [.int .i64]]], .v false [.int .i64], .v false [.int .i64]] → Tr (Ex × List SV) := fun ⟨⟨(l : List (RowE [.int .i64, .str, .str, .str, .int .i64, .str, .str, .str, .int .i64, .str, .str, .str])), _⟩, ⟨(x24 : List (RowE [.sl [.int .i64], .sl [.int .i64]])), _⟩, ⟨(x25 : Int), _⟩, ⟨(x26 : Int), _⟩, _⟩ => .br ((x24.drop x26.toNat).all (okGr l)) (.leaf (.exit 2, [])) (.leaf (.ret, [.val (.d (.int .i64 (2)))]))
def lmcheck_1 : St [.v false [.sl [.int .i64, .str, .str, .str, .int .i64, .str, .str, .str, .int .i64, .str, .str, .str]], .v false [.sl [.sl [.int .i64], .sl [.int .i64]]], .v false [.int .i64], .v false [.int .i64]] → Nat := fun ⟨⟨(l : List (RowE [.int .i64, .str, .str, .str, .int .i64, .str, .str, .str, .int .i64, .str, .str, .str])), _⟩, ⟨(x24 : List (RowE [.sl [.int .i64], .sl [.int .i64]])), _⟩, ⟨(x25 : Int), _⟩, ⟨(x26 : Int), _⟩, _⟩ => x24.length - x26.toNat
def lscheck_1 : LoopS := mkR [0, 24, 25, 26] [] [4] [.v false [.sl [.int .i64, .str, .str, .str, .int .i64, .str, .str, .str, .int .i64, .str, .str, .str]], .v false [.sl [.sl [.int .i64], .sl [.int .i64]]], .v false [.int .i64], .v false [.int .i64]] (fun r => .chk (lkcheck_1 r) (lgcheck_1 r))
def lkcheck_2 : St [.v false [.sl [.int .i64, .str, .str, .str, .int .i64, .str, .str, .str, .int .i64, .str, .str, .str]], .v false [.sl [.int .i64]], .v false [.int .i64], .v false [.int .i64]] → Prop := fun ⟨⟨(l : List (RowE [.int .i64, .str, .str, .str, .int .i64, .str, .str, .str, .int .i64, .str, .str, .str])), _⟩, ⟨(x31 : List (RowE [.int .i64])), _⟩, ⟨(x32 : Int), _⟩, ⟨(x33 : Int), _⟩, _⟩ => 0 ≤ x33 ∧ x33 ≤ x32 ∧ x32 = (x31.length : Int) ∧ x31.length ≤ 2000000 ∧ l.length ≤ 2000000
def lgcheck_2 : St [.v false [.sl [.int .i64, .str, .str, .str, .int .i64, .str, .str, .str, .int .i64, .str, .str, .str]], .v false [.sl [.int .i64]], .v false [.int .i64], .v false [.int .i64]] → Tr (Ex × List SV) := fun ⟨⟨(l : List (RowE [.int .i64, .str, .str, .str, .int .i64, .str, .str, .str, .int .i64, .str, .str, .str])), _⟩, ⟨(x31 : List (RowE [.int .i64])), _⟩, ⟨(x32 : Int), _⟩, ⟨(x33 : Int), _⟩, _⟩ => .br ((x31.drop x33.toNat).all (inR l)) (.leaf (.exit 4, [.val (.d (.sl [.int .i64, .str, .str, .str, .int .i64, .str, .str, .str, .int .i64, .str, .str, .str] (l)))])) (.leaf (.ret, [.val (.d (.int .i64 (2)))]))
def lmcheck_2 : St [.v false [.sl [.int .i64, .str, .str, .str, .int .i64, .str, .str, .str, .int .i64, .str, .str, .str]], .v false [.sl [.int .i64]], .v false [.int .i64], .v false [.int .i64]] → Nat := fun ⟨⟨(l : List (RowE [.int .i64, .str, .str, .str, .int .i64, .str, .str, .str, .int .i64, .str, .str, .str])), _⟩, ⟨(x31 : List (RowE [.int .i64])), _⟩, ⟨(x32 : Int), _⟩, ⟨(x33 : Int), _⟩, _⟩ => x31.length - x33.toNat
def lscheck_2 : LoopS := mkR [0, 31, 32, 33] [0] [4] [.v false [.sl [.int .i64, .str, .str, .str, .int .i64, .str, .str, .str, .int .i64, .str, .str, .str]], .v false [.sl [.int .i64]], .v false [.int .i64], .v false [.int .i64]] (fun r => .chk (lkcheck_2 r) (lgcheck_2 r))
def Lcheck : Ls := [(2, lscheck_0), (9, lscheck_1), (12, lscheck_2)]
def Scheck := mkS [(false, [.sl [.int .i64, .str, .str, .str, .int .i64, .str, .str, .str, .int .i64, .str, .str, .str]]), (false, [.sl [.sl [.int .i64], .sl [.int .i64]]])] fun ⟨⟨(l : List (RowE [.int .i64, .str, .str, .str, .int .i64, .str, .str, .str, .int .i64, .str, .str, .str])), _⟩, ⟨(groups : List (RowE [.sl [.int .i64], .sl [.int .i64]])), _⟩, _⟩ => .chk (szTs l ∧ (∀ t ∈ l, sz3 140737488355328 t) ∧ groups.length ≤ 2000000 ∧ ∀ g ∈ groups, szGp g) (.leaf (.val (.d (.int .i64 (checkP l groups)))))
theorem ltcheck_0 (x12 : List (RowE [.int .i64, .str, .str, .str, .int .i64, .str, .str, .str, .int .i64, .str, .str, .str])) (x13 : Int) (x14 : Int) : evRound T (Ep (Egroups)) (Ln (Lcheck)) (loopAt 0 (loops (bodyOf Try.f32))) (lscheck_0) [.val (.d (.sl [.int .i64, .str, .str, .str, .int .i64, .str, .str, .str, .int .i64, .str, .str, .str] x12)), .val (.d (.int .i64 x13)), .val (.d (.int .i64 x14))] =
    br (decide (x14 < x13)) (chk ((0 : Int) ≤ x14 ∧ x14 < (↑x12.length : Int)) (chk (sz3 (140737488355328 : Nat) (getR t3S x12 x14)) (br ((if pat (getR t3S x12 x14) = true then (0 : Int) else (2 : Int)) != (0 : Int)) (some (Rnd.out Ex.ret [SV.val (AV.d (D.int IntKind.i64 (if pat (getR t3S x12 x14) = true then (0 : Int) else (2 : Int))))])) (some (Rnd.again [SV.val (AV.d (D.sl t3S x12)), SV.val (AV.d (D.int IntKind.i64 x13)), SV.val (AV.d (D.int IntKind.i64 (IntKind.i64.wrap (x14 + (1 : Int)))))]))))) (some (Rnd.out (Ex.exit (0 : Nat)) [])) := by kernel_rfl
theorem lokcheck_0 : LoopOK T (Ep (Egroups)) (Ln (Lcheck)) (loopAt 0 (loops (bodyOf Try.f32))) := by
  refine loop_ok (live := [12, 13, 14]) (outs := []) (rets := [4]) (ks := [.v false [.sl [.int .i64, .str, .str, .str, .int .i64, .str, .str, .str, .int .i64, .str, .str, .str]], .v false [.int .i64], .v false [.int .i64]]) (G := lgcheck_0) (lkcheck_0) (lmcheck_0) (by kernel_rfl) ?_
  rintro ⟨⟨(x12 : List (RowE [.int .i64, .str, .str, .str, .int .i64, .str, .str, .str, .int .i64, .str, .str, .str])), _⟩, ⟨(x13 : Int), _⟩, ⟨(x14 : Int), _⟩, _⟩ x hok hx
  refine Leads.of_eq (ltcheck_0 x12 x13 x14) ?_
  obtain ⟨h0, h1, h2, h3, h4⟩ := hok
  obtain ⟨m, rfl⟩ := Int.eq_ofNat_of_zero_le h0
  simp only [lgcheck_0, Int.toNat_natCast] at hx
  rcases drop_cases x12 m with ⟨hle, hd⟩ | ⟨x1, hlt, hd, hb⟩
  · rw [hd] at hx
    exact Leads.brD (fun q => by omega) (fun _ => Leads.one (Goes.out (Out_leaf (Out_tt hx))))
  rw [hd, List.all_cons] at hx
  rw [getR_of hb, wrap64 (by omega) (by omega)]
  refine Leads.brD (fun _ => Leads.chk (by omega) fun _ => Leads.chk (h4 x1 (List.mem_of_getElem? hb)) fun _ => ?_) (fun q => by omega)
  cases hp : pat x1
  · rw [hp, Bool.false_and] at hx
    exact Leads.br (fun _ => Leads.one (Goes.out (Out_leaf (Out_ff hx)))) (fun w => absurd w (by decide))
  · rw [hp, Bool.true_and] at hx
    refine Leads.br (fun w => absurd w (by decide)) (fun _ => Leads.one ?_)
    refine Goes.again (ks := [.v false [.sl [.int .i64, .str, .str, .str, .int .i64, .str, .str, .str, .int .i64, .str, .str, .str]], .v false [.int .i64], .v false [.int .i64]]) ((_, ()), (_, ()), (_, ()), ()) rfl ?_ ?_ ?_
    · exact ⟨by omega, by omega, h2, h3, h4⟩
    · simp only [lmcheck_0]; omega
    · simp only [lgcheck_0, toNat_add1]; exact hx
theorem ltcheck_1 (l : List (RowE [.int .i64, .str, .str, .str, .int .i64, .str, .str, .str, .int .i64, .str, .str, .str])) (x24 : List (RowE [.sl [.int .i64], .sl [.int .i64]])) (x25 : Int) (x26 : Int) : evRound T (Ep (Egroups)) (Ln (Lcheck)) (loopAt 1 (loops (bodyOf Try.f32))) (lscheck_1) [.val (.d (.sl [.int .i64, .str, .str, .str, .int .i64, .str, .str, .str, .int .i64, .str, .str, .str] l)), .val (.d (.sl [.sl [.int .i64], .sl [.int .i64]] x24)), .val (.d (.int .i64 x25)), .val (.d (.int .i64 x26))] =
    br (decide (x26 < x25)) (chk ((0 : Int) ≤ x26 ∧ x26 < (↑x24.length : Int)) (chk (lkcheck_2 ((l, ()), ((getR grS x24 x26).fst, ()), ((↑(List.length (getR grS x24 x26).fst) : Int), ()), ((0 : Int), ()), ())) (br ((List.drop (Int.toNat (0 : Int)) (getR grS x24 x26).fst).all (inR l)) (some (Rnd.again [SV.val (AV.d (D.sl t3S l)), SV.val (AV.d (D.sl grS x24)), SV.val (AV.d (D.int IntKind.i64 x25)), SV.val (AV.d (D.int IntKind.i64 (IntKind.i64.wrap (x26 + (1 : Int)))))])) (some (Rnd.out Ex.ret [SV.val (AV.d (D.int IntKind.i64 (2 : Int)))]))))) (some (Rnd.out (Ex.exit (2 : Nat)) [])) := by kernel_rfl
theorem lokcheck_1 : LoopOK T (Ep (Egroups)) (Ln (Lcheck)) (loopAt 1 (loops (bodyOf Try.f32))) := by
  refine loop_ok (live := [0, 24, 25, 26]) (outs := []) (rets := [4]) (ks := [.v false [.sl [.int .i64, .str, .str, .str, .int .i64, .str, .str, .str, .int .i64, .str, .str, .str]], .v false [.sl [.sl [.int .i64], .sl [.int .i64]]], .v false [.int .i64], .v false [.int .i64]]) (G := lgcheck_1) (lkcheck_1) (lmcheck_1) (by kernel_rfl) ?_
  rintro ⟨⟨(l : List (RowE [.int .i64, .str, .str, .str, .int .i64, .str, .str, .str, .int .i64, .str, .str, .str])), _⟩, ⟨(x24 : List (RowE [.sl [.int .i64], .sl [.int .i64]])), _⟩, ⟨(x25 : Int), _⟩, ⟨(x26 : Int), _⟩, _⟩ x hok hx
  refine Leads.of_eq (ltcheck_1 l x24 x25 x26) ?_
  obtain ⟨h0, h1, h2, h3, h4, h5⟩ := hok
  obtain ⟨m, rfl⟩ := Int.eq_ofNat_of_zero_le h0
  simp only [lgcheck_1, Int.toNat_natCast] at hx
  rcases drop_cases x24 m with ⟨hle, hd⟩ | ⟨x1, hlt, hd, hb⟩
  · rw [hd] at hx
    exact Leads.brD (fun q => by omega) (fun _ => Leads.one (Goes.out (Out_leaf (Out_tt hx))))
  rw [hd, List.all_cons] at hx
  have hg := h5 x1 (List.mem_of_getElem? hb)
  rw [getR_of hb, wrap64 (by omega) (by omega)]
  refine Leads.brD (fun _ => Leads.chk (by omega) fun _ => Leads.chk ⟨by omega, Int.natCast_nonneg _, rfl, hg.1, h4⟩ fun _ => Leads.br (fun w => Leads.one ?_) (fun w => Leads.one (Goes.out ?_))) (fun q => by omega)
  · have w : okGr l x1 = true := w
    rw [w, Bool.true_and] at hx
    refine Goes.again (ks := [.v false [.sl [.int .i64, .str, .str, .str, .int .i64, .str, .str, .str, .int .i64, .str, .str, .str]], .v false [.sl [.sl [.int .i64], .sl [.int .i64]]], .v false [.int .i64], .v false [.int .i64]]) ((_, ()), (_, ()), (_, ()), (_, ()), ()) rfl ?_ ?_ ?_
    · exact ⟨by omega, by omega, h2, h3, h4, h5⟩
    · simp only [lmcheck_1]; omega
    · simp only [lgcheck_1, toNat_add1]; exact hx
  · have w : okGr l x1 = false := w
    rw [w, Bool.false_and] at hx
    exact Out_leaf (Out_ff hx)
theorem ltcheck_2 (l : List (RowE [.int .i64, .str, .str, .str, .int .i64, .str, .str, .str, .int .i64, .str, .str, .str])) (x31 : List (RowE [.int .i64])) (x32 : Int) (x33 : Int) : evRound T (Ep (Egroups)) (Ln (Lcheck)) (loopAt 2 (loops (bodyOf Try.f32))) (lscheck_2) [.val (.d (.sl [.int .i64, .str, .str, .str, .int .i64, .str, .str, .str, .int .i64, .str, .str, .str] l)), .val (.d (.sl [.int .i64] x31)), .val (.d (.int .i64 x32)), .val (.d (.int .i64 x33))] =
    br (decide (x33 < x32)) (chk ((0 : Int) ≤ x33 ∧ x33 < (↑x31.length : Int)) (br (decide ((getR [Sh.int IntKind.i64] x31 x33).fst < (0 : Int))) (some (Rnd.out Ex.ret [SV.val (AV.d (D.int IntKind.i64 (2 : Int)))])) (br (decide ((getR [Sh.int IntKind.i64] x31 x33).fst ≥ (↑l.length : Int))) (some (Rnd.out Ex.ret [SV.val (AV.d (D.int IntKind.i64 (2 : Int)))])) (some (Rnd.again [SV.val (AV.d (D.sl t3S l)), SV.val (AV.d (D.sl [Sh.int IntKind.i64] x31)), SV.val (AV.d (D.int IntKind.i64 x32)), SV.val (AV.d (D.int IntKind.i64 (IntKind.i64.wrap (x33 + (1 : Int)))))]))))) (some (Rnd.out (Ex.exit (4 : Nat)) [SV.val (AV.d (D.sl t3S l))])) := by kernel_rfl
theorem lokcheck_2 : LoopOK T (Ep (Egroups)) (Ln (Lcheck)) (loopAt 2 (loops (bodyOf Try.f32))) := by
  refine loop_ok (live := [0, 31, 32, 33]) (outs := [0]) (rets := [4]) (ks := [.v false [.sl [.int .i64, .str, .str, .str, .int .i64, .str, .str, .str, .int .i64, .str, .str, .str]], .v false [.sl [.int .i64]], .v false [.int .i64], .v false [.int .i64]]) (G := lgcheck_2) (lkcheck_2) (lmcheck_2) (by kernel_rfl) ?_
  rintro ⟨⟨(l : List (RowE [.int .i64, .str, .str, .str, .int .i64, .str, .str, .str, .int .i64, .str, .str, .str])), _⟩, ⟨(x31 : List (RowE [.int .i64])), _⟩, ⟨(x32 : Int), _⟩, ⟨(x33 : Int), _⟩, _⟩ x hok hx
  refine Leads.of_eq (ltcheck_2 l x31 x32 x33) ?_
  obtain ⟨h0, h1, h2, h3, h4⟩ := hok
  obtain ⟨m, rfl⟩ := Int.eq_ofNat_of_zero_le h0
  simp only [lgcheck_2, Int.toNat_natCast] at hx
  rcases drop_cases x31 m with ⟨hle, hd⟩ | ⟨x1, hlt, hd, hb⟩
  · rw [hd] at hx
    exact Leads.brD (fun q => by omega) (fun _ => Leads.one (Goes.out (Out_leaf (Out_tt hx))))
  rw [hd, List.all_cons] at hx
  rw [getR_of hb, wrap64 (by omega) (by omega)]
  obtain ⟨v, hv⟩ : ∃ v : Int, v = x1.1 := ⟨_, rfl⟩
  have hin : inR l x1 = (decide (0 ≤ v) && decide (v < l.length)) := by rw [hv]; rfl
  have bad : inR l x1 = false → _ := fun w => Out_leaf (Out_ff (by rw [w, Bool.false_and] at hx; exact hx))
  refine Leads.brD (fun _ => Leads.chk (by omega) fun _ => Leads.brD (fun w => Leads.one (Goes.out (bad ?_))) (fun w => Leads.brD (fun w2 => Leads.one (Goes.out (bad ?_))) (fun w2 => Leads.one ?_))) (fun q => by omega)
  · have w : v < 0 := by rw [hv]; exact w
    rw [hin, decide_eq_false (show ¬ (0 : Int) ≤ v by omega), Bool.false_and]
  · have w2 : v ≥ l.length := by rw [hv]; exact w2
    rw [hin, decide_eq_false (show ¬ v < l.length by omega), Bool.and_false]
  · have w : ¬ v < 0 := by rw [hv]; exact w
    have w2 : ¬ v ≥ l.length := by rw [hv]; exact w2
    have w : inR l x1 = true := by rw [hin, decide_eq_true (show (0 : Int) ≤ v by omega), decide_eq_true (show v < l.length by omega)]; rfl
    rw [w, Bool.true_and] at hx
    refine Goes.again (ks := [.v false [.sl [.int .i64, .str, .str, .str, .int .i64, .str, .str, .str, .int .i64, .str, .str, .str]], .v false [.sl [.int .i64]], .v false [.int .i64], .v false [.int .i64]]) ((_, ()), (_, ()), (_, ()), (_, ()), ()) rfl ?_ ?_ ?_
    · exact ⟨by omega, by omega, h2, h3, h4⟩
    · simp only [lmcheck_2]; omega
    · simp only [lgcheck_2, toNat_add1]; exact hx
theorem tcheck (l : List (RowE [.int .i64, .str, .str, .str, .int .i64, .str, .str, .str, .int .i64, .str, .str, .str])) (groups : List (RowE [.sl [.int .i64], .sl [.int .i64]])) : evF T (Ep (Egroups)) (Ln (Lcheck)) Try.f32 [.d (.sl [.int .i64, .str, .str, .str, .int .i64, .str, .str, .str, .int .i64, .str, .str, .str] l), .d (.sl [.sl [.int .i64], .sl [.int .i64]] groups)] =
    chk (lkcheck_0 ((l, ()), ((↑l.length : Int), ()), ((0 : Int), ()), ())) (br ((List.drop (Int.toNat (0 : Int)) l).all pat) (chk (lkcheck_1 ((l, ()), (groups, ()), ((↑groups.length : Int), ()), ((0 : Int), ()), ())) (br ((List.drop (Int.toNat (0 : Int)) groups).all (okGr l)) (some (SV.val (AV.d (D.int IntKind.i64 (0 : Int))))) (some (SV.val (AV.d (D.int IntKind.i64 (2 : Int))))))) (some (SV.val (AV.d (D.int IntKind.i64 (2 : Int)))))) := by kernel_rfl
theorem satcheck : Sat P 32 (Scheck) := by
  refine sat_mk (LT := Ln (Lcheck)) hC (SatE.ep okgroups) mixed Try.func32 (by kernel_rfl) (c := bodyOf Try.f32) (by kernel_rfl) (by kernel_rfl) ?_ (loops3 (by kernel_rfl) (lokcheck_0) (lokcheck_1) (lokcheck_2))
  rintro ⟨⟨(l : List (RowE [.int .i64, .str, .str, .str, .int .i64, .str, .str, .str, .int .i64, .str, .str, .str])), _⟩, ⟨(groups : List (RowE [.sl [.int .i64], .sl [.int .i64]])), _⟩, _⟩ sv h
  refine Leads.eq (Leads.of_eq (tcheck l groups) ?_)
  obtain ⟨⟨h1, h2, h3, h4⟩, h⟩ := h
  obtain rfl := Out_leaf h
  unfold checkP
  refine Leads.chk ⟨by omega, Int.natCast_nonneg _, rfl, h1, h2⟩ fun _ => Leads.br (fun w => Leads.chk ⟨by omega, Int.natCast_nonneg _, rfl, h3, h1, h4⟩ fun _ => Leads.br (fun w2 => Leads.one ?_) (fun w2 => Leads.one ?_)) (fun w => Leads.one ?_)
  · rw [show l.all pat = true from w, show groups.all (okGr l) = true from w2]; rfl
  · rw [show l.all pat = true from w, show groups.all (okGr l) = false from w2]; rfl
  · rw [show l.all pat = false from w]; rfl
def Echeck : Es := (32, (Scheck)) :: Egroups
theorem okcheck : SatE P (En (Echeck)) := SatE.cons (satcheck) okgroups
/-! ### legation/sources.Points -/
def lkpoints_0 : St [.v false [.int .i64], .a [.sl [.int .i64]], .v false [.sl [.sl [.bool]]], .v false [.int .i64], .v false [.int .i64]] → Prop := fun ⟨⟨(points : Int), _⟩, (out : List (RowE [.sl [.int .i64]])), ⟨(x18 : List (RowE [.sl [.bool]])), _⟩, ⟨(x19 : Int), _⟩, ⟨(x20 : Int), _⟩, _⟩ => 0 ≤ x20 ∧ x20 ≤ x19 ∧ x19 = (x18.length : Int) ∧ x18.length ≤ 5864062014805 ∧ (out.length : Int) ≤ x20 ∧ 0 ≤ points ∧ points ≤ 8
def lgpoints_0 : St [.v false [.int .i64], .a [.sl [.int .i64]], .v false [.sl [.sl [.bool]]], .v false [.int .i64], .v false [.int .i64]] → Tr (Ex × List SV) := fun ⟨⟨(points : Int), _⟩, (out : List (RowE [.sl [.int .i64]])), ⟨(x18 : List (RowE [.sl [.bool]])), _⟩, ⟨(x19 : Int), _⟩, ⟨(x20 : Int), _⟩, _⟩ => .br ((x18.drop x20.toNat).all (lenIs points)) (.leaf (.exit 0, [.app [.sl [.int .i64]] (out ++ (x18.drop x20.toNat).map rowP)])) (.leaf (.ret, [.app [.sl [.int .i64]] ([]), .val (.d (.int .i64 (2)))]))
def lmpoints_0 : St [.v false [.int .i64], .a [.sl [.int .i64]], .v false [.sl [.sl [.bool]]], .v false [.int .i64], .v false [.int .i64]] → Nat := fun ⟨⟨(points : Int), _⟩, (out : List (RowE [.sl [.int .i64]])), ⟨(x18 : List (RowE [.sl [.bool]])), _⟩, ⟨(x19 : Int), _⟩, ⟨(x20 : Int), _⟩, _⟩ => x18.length - x20.toNat
def lspoints_0 : LoopS := mkR [1, 6, 18, 19, 20] [6] [4, 5] [.v false [.int .i64], .a [.sl [.int .i64]], .v false [.sl [.sl [.bool]]], .v false [.int .i64], .v false [.int .i64]] (fun r => .chk (lkpoints_0 r) (lgpoints_0 r))
def lkpoints_1 : St [.a [.int .i64], .v false [.sl [.bool]], .v false [.int .i64], .v false [.int .i64]] → Prop := fun ⟨(one : List (RowE [.int .i64])), ⟨(x29 : List (RowE [.bool])), _⟩, ⟨(x30 : Int), _⟩, ⟨(x31 : Int), _⟩, _⟩ => 0 ≤ x31 ∧ x31 ≤ x30 ∧ x30 = (x29.length : Int) ∧ x29.length ≤ 2000000 ∧ (one.length : Int) ≤ x31
def lgpoints_1 : St [.a [.int .i64], .v false [.sl [.bool]], .v false [.int .i64], .v false [.int .i64]] → Tr (Ex × List SV) := fun ⟨(one : List (RowE [.int .i64])), ⟨(x29 : List (RowE [.bool])), _⟩, ⟨(x30 : Int), _⟩, ⟨(x31 : Int), _⟩, _⟩ => .leaf (.exit 2, [.app [.int .i64] (one ++ trueAt (x29.drop x31.toNat) x31)])
def lmpoints_1 : St [.a [.int .i64], .v false [.sl [.bool]], .v false [.int .i64], .v false [.int .i64]] → Nat := fun ⟨(one : List (RowE [.int .i64])), ⟨(x29 : List (RowE [.bool])), _⟩, ⟨(x30 : Int), _⟩, ⟨(x31 : Int), _⟩, _⟩ => x29.length - x31.toNat
def lspoints_1 : LoopS := mkR [9, 29, 30, 31] [9] [] [.a [.int .i64], .v false [.sl [.bool]], .v false [.int .i64], .v false [.int .i64]] (fun r => .chk (lkpoints_1 r) (lgpoints_1 r))
def Lpoints : Ls := [(5, lspoints_0), (11, lspoints_1)]
def Spoints := mkS [(false, [.sl [.sl [.bool]]]), (false, [.int .i64])] fun ⟨⟨(answers : List (RowE [.sl [.bool]])), _⟩, ⟨(points : Int), _⟩, _⟩ => .chk (answers.length ≤ 5864062014805) (.leaf (.val (.tup [.d (.sl [.sl [.int .i64]] (pointsP answers points).1), .d (.int .i64 (pointsP answers points).2)])))
theorem ltpoints_0 (points : Int) (out : List (RowE [.sl [.int .i64]])) (x18 : List (RowE [.sl [.bool]])) (x19 : Int) (x20 : Int) : evRound T (Ep (Echeck)) (Ln (Lpoints)) (loopAt 0 (loops (bodyOf Try.f15))) (lspoints_0) [.val (.d (.int .i64 points)), .app [.sl [.int .i64]] out, .val (.d (.sl [.sl [.bool]] x18)), .val (.d (.int .i64 x19)), .val (.d (.int .i64 x20))] =
    br (decide (x20 < x19)) (chk ((0 : Int) ≤ x20 ∧ x20 < (↑x18.length : Int)) (br ((↑(List.length (getR [Sh.sl [Sh.bool]] x18 x20).fst) : Int) != points) (some (Rnd.out Ex.ret [SV.app [Sh.sl [Sh.int IntKind.i64]] [], SV.val (AV.d (D.int IntKind.i64 (2 : Int)))])) (chk (lkpoints_1 ([], getR [Sh.sl [Sh.bool]] x18 x20, ((↑(List.length (getR [Sh.sl [Sh.bool]] x18 x20).fst) : Int), ()), ((0 : Int), ()), ())) (chk (((↑out.length : Int) + (↑[([] ++ trueAt (List.drop (Int.toNat (0 : Int)) (getR [Sh.sl [Sh.bool]] x18 x20).fst) (0 : Int), ())].length : Int)) * (↑(24 : Nat) : Int) < lim) (some (Rnd.again [SV.val (AV.d (D.int IntKind.i64 points)), SV.app [Sh.sl [Sh.int IntKind.i64]] (out ++ [([] ++ trueAt (List.drop (Int.toNat (0 : Int)) (getR [Sh.sl [Sh.bool]] x18 x20).fst) (0 : Int), ())]), SV.val (AV.d (D.sl [Sh.sl [Sh.bool]] x18)), SV.val (AV.d (D.int IntKind.i64 x19)), SV.val (AV.d (D.int IntKind.i64 (IntKind.i64.wrap (x20 + (1 : Int)))))])))))) (some (Rnd.out (Ex.exit (0 : Nat)) [SV.app [Sh.sl [Sh.int IntKind.i64]] out])) := by kernel_rfl
theorem lokpoints_0 : LoopOK T (Ep (Echeck)) (Ln (Lpoints)) (loopAt 0 (loops (bodyOf Try.f15))) := by
  refine loop_ok (live := [1, 6, 18, 19, 20]) (outs := [6]) (rets := [4, 5]) (ks := [.v false [.int .i64], .a [.sl [.int .i64]], .v false [.sl [.sl [.bool]]], .v false [.int .i64], .v false [.int .i64]]) (G := lgpoints_0) (lkpoints_0) (lmpoints_0) (by kernel_rfl) ?_
  rintro ⟨⟨(points : Int), _⟩, (out : List (RowE [.sl [.int .i64]])), ⟨(x18 : List (RowE [.sl [.bool]])), _⟩, ⟨(x19 : Int), _⟩, ⟨(x20 : Int), _⟩, _⟩ x hok hx
  refine Leads.of_eq (ltpoints_0 points out x18 x19 x20) ?_
  obtain ⟨h0, h1, h2, h3, h4, h5, h6⟩ := hok
  obtain ⟨m, rfl⟩ := Int.eq_ofNat_of_zero_le h0
  simp only [lgpoints_0, Int.toNat_natCast] at hx
  rcases drop_cases x18 m with ⟨hle, hd⟩ | ⟨x1, hlt, hd, hb⟩
  · rw [hd] at hx
    exact Leads.brD (fun q => by omega) (fun _ => Leads.one (Goes.out (by have := Out_leaf (Out_tt hx); rw [List.map_nil, List.append_nil] at this; exact this)))
  rw [hd, List.all_cons] at hx
  rw [getR_of hb, wrap64 (by omega) (by omega)]
  refine Leads.brD (fun _ => Leads.chk (by omega) fun _ => Leads.br (fun w => Leads.one (Goes.out ?_)) (fun w => ?_)) (fun q => by omega)
  · have w : lenIs points x1 = false := by unfold lenIs; exact decide_eq_false (by simpa using w)
    rw [w, Bool.false_and] at hx
    exact Out_leaf (Out_ff hx)
  · have w : ((x1.1 : List (RowE [.bool])).length : Int) = points := by simpa using w
    have w2 : lenIs points x1 = true := decide_eq_true w
    rw [w2, Bool.true_and, List.map_cons] at hx
    refine Leads.chk ⟨by omega, Int.natCast_nonneg _, rfl, by omega, by simp⟩ fun _ => Leads.chk (by simp only [lim, List.length_cons, List.length_nil]; omega) fun _ => Leads.one ?_
    refine Goes.again (ks := [.v false [.int .i64], .a [.sl [.int .i64]], .v false [.sl [.sl [.bool]]], .v false [.int .i64], .v false [.int .i64]]) ((_, ()), _, (_, ()), (_, ()), (_, ()), ()) rfl ?_ ?_ ?_
    · exact ⟨by omega, by omega, h2, h3, by rw [List.length_append]; simp only [List.length_cons, List.length_nil]; omega, h5, h6⟩
    · simp only [lmpoints_0]; omega
    · simp only [lgpoints_0, toNat_add1]
      rw [List.append_assoc]; exact hx
theorem ltpoints_1 (one : List (RowE [.int .i64])) (x29 : List (RowE [.bool])) (x30 : Int) (x31 : Int) : evRound T (Ep (Echeck)) (Ln (Lpoints)) (loopAt 1 (loops (bodyOf Try.f15))) (lspoints_1) [.app [.int .i64] one, .val (.d (.sl [.bool] x29)), .val (.d (.int .i64 x30)), .val (.d (.int .i64 x31))] =
    br (decide (x31 < x30)) (chk ((0 : Int) ≤ x31 ∧ x31 < (↑x29.length : Int)) (br (getR [Sh.bool] x29 x31).fst (chk (((↑one.length : Int) + (↑[(x31, ())].length : Int)) * (↑(8 : Nat) : Int) < lim) (some (Rnd.again [SV.app [Sh.int IntKind.i64] (one ++ [(x31, ())]), SV.val (AV.d (D.sl [Sh.bool] x29)), SV.val (AV.d (D.int IntKind.i64 x30)), SV.val (AV.d (D.int IntKind.i64 (IntKind.i64.wrap (x31 + (1 : Int)))))]))) (some (Rnd.again [SV.app [Sh.int IntKind.i64] one, SV.val (AV.d (D.sl [Sh.bool] x29)), SV.val (AV.d (D.int IntKind.i64 x30)), SV.val (AV.d (D.int IntKind.i64 (IntKind.i64.wrap (x31 + (1 : Int)))))])))) (some (Rnd.out (Ex.exit (2 : Nat)) [SV.app [Sh.int IntKind.i64] one])) := by kernel_rfl
theorem lokpoints_1 : LoopOK T (Ep (Echeck)) (Ln (Lpoints)) (loopAt 1 (loops (bodyOf Try.f15))) := by
  refine loop_ok (live := [9, 29, 30, 31]) (outs := [9]) (rets := []) (ks := [.a [.int .i64], .v false [.sl [.bool]], .v false [.int .i64], .v false [.int .i64]]) (G := lgpoints_1) (lkpoints_1) (lmpoints_1) (by kernel_rfl) ?_
  rintro ⟨(one : List (RowE [.int .i64])), ⟨(x29 : List (RowE [.bool])), _⟩, ⟨(x30 : Int), _⟩, ⟨(x31 : Int), _⟩, _⟩ x hok hx
  refine Leads.of_eq (ltpoints_1 one x29 x30 x31) ?_
  obtain ⟨h0, h1, h2, h3, h4⟩ := hok
  obtain ⟨m, rfl⟩ := Int.eq_ofNat_of_zero_le h0
  simp only [lgpoints_1, Int.toNat_natCast] at hx
  rcases drop_cases x29 m with ⟨hle, hd⟩ | ⟨x1, hlt, hd, hb⟩
  · rw [hd] at hx
    exact Leads.brD (fun q => by omega) (fun _ => Leads.one (Goes.out (by have := Out_leaf hx; rw [trueAt, List.append_nil] at this; exact this)))
  rw [hd, trueAt] at hx
  rw [getR_of hb, wrap64 (x := (m : Int) + 1) (by omega) (by omega)]
  refine Leads.brD (fun _ => Leads.chk (by omega) fun _ => Leads.br (fun w => Leads.chk (by simp only [lim, List.length_cons, List.length_nil]; omega) fun _ => Leads.one ?_) (fun w => Leads.one ?_)) (fun q => by omega)
  · have w : (x1.1 : Bool) = true := w
    rw [w, cond_true] at hx
    refine Goes.again (ks := [.a [.int .i64], .v false [.sl [.bool]], .v false [.int .i64], .v false [.int .i64]]) (_, (_, ()), (_, ()), (_, ()), ()) rfl ?_ ?_ ?_
    · exact ⟨by omega, by omega, h2, h3, by rw [List.length_append]; simp only [List.length_cons, List.length_nil]; omega⟩
    · simp only [lmpoints_1]; omega
    · simp only [lgpoints_1, toNat_add1]
      rw [List.append_assoc]; exact hx
  · have w : (x1.1 : Bool) = false := w
    rw [w, cond_false, List.nil_append] at hx
    refine Goes.again (ks := [.a [.int .i64], .v false [.sl [.bool]], .v false [.int .i64], .v false [.int .i64]]) (_, (_, ()), (_, ()), (_, ()), ()) rfl ?_ ?_ ?_
    · exact ⟨by omega, by omega, h2, h3, by omega⟩
    · simp only [lmpoints_1]; omega
    · simp only [lgpoints_1, toNat_add1]; exact hx
theorem tpoints (answers : List (RowE [.sl [.bool]])) (points : Int) : evF T (Ep (Echeck)) (Ln (Lpoints)) Try.f15 [.d (.sl [.sl [.bool]] answers), .d (.int .i64 points)] =
    br (decide (points < (0 : Int))) (some (SV.val (AV.tup [AV.d (D.sl [Sh.sl [Sh.int IntKind.i64]] []), AV.d (D.int IntKind.i64 (1 : Int))]))) (br (decide (points > (8 : Int))) (some (SV.val (AV.tup [AV.d (D.sl [Sh.sl [Sh.int IntKind.i64]] []), AV.d (D.int IntKind.i64 (1 : Int))]))) (chk (lkpoints_0 ((points, ()), [], (answers, ()), ((↑answers.length : Int), ()), ((0 : Int), ()), ())) (br ((List.drop (Int.toNat (0 : Int)) answers).all (lenIs points)) (some (SV.val (AV.tup [AV.d (D.sl [Sh.sl [Sh.int IntKind.i64]] ([] ++ List.map rowP (List.drop (Int.toNat (0 : Int)) answers))), AV.d (D.int IntKind.i64 (0 : Int))]))) (some (SV.val (AV.tup [AV.d (D.sl [Sh.sl [Sh.int IntKind.i64]] []), AV.d (D.int IntKind.i64 (2 : Int))])))))) := by kernel_rfl
theorem satpoints : Sat P 15 (Spoints) := by
  refine sat_mk (LT := Ln (Lpoints)) hC (SatE.ep okcheck) mixed Try.func15 (by kernel_rfl) (c := bodyOf Try.f15) (by kernel_rfl) (by kernel_rfl) ?_ (loops2 (by kernel_rfl) (lokpoints_0) (lokpoints_1))
  rintro ⟨⟨(answers : List (RowE [.sl [.bool]])), _⟩, ⟨(points : Int), _⟩, _⟩ sv h
  refine Leads.eq (Leads.of_eq (tpoints answers points) ?_)
  obtain ⟨h1, h⟩ := h
  obtain rfl := Out_leaf h
  unfold pointsP
  refine Leads.brD (fun w => Leads.one ?_) (fun w => Leads.brD (fun w2 => Leads.one ?_) (fun w2 => Leads.chk ⟨by omega, Int.natCast_nonneg _, rfl, h1, by simp, by omega, by omega⟩ fun _ => Leads.br (fun w3 => Leads.one ?_) (fun w3 => Leads.one ?_)))
  · rw [if_pos (.inl w)]
  · rw [if_pos (.inr w2)]
  · rw [if_neg (by omega), show answers.all (lenIs points) = true from w3]; rfl
  · rw [if_neg (by omega), show answers.all (lenIs points) = false from w3]; rfl
def Epoints : Es := (15, (Spoints)) :: Echeck
theorem okpoints : SatE P (En (Epoints)) := SatE.cons (satpoints) okcheck
/-! ### legation/sources.Probe -/
def Lprobe : Ls := []
def Sprobe := mkS [(true, t3S)] fun ⟨(p : RowE t3S), _⟩ => .chk (sz3 140737488355328 p) (.leaf (.val (.tup [.agg (rowD qyS (probeP p)), .d (.int .i64 (if pat p = true then 0 else 2))])))
theorem tprobe (p : RowE t3S) : evF T (Ep (Epoints)) (Ln (Lprobe)) Try.f17 [.agg (rowD t3S p)] =
    chk (sz3 (140737488355328 : Nat) p) (br ((if pat p = true then (0 : Int) else (2 : Int)) != (0 : Int)) (some (SV.val (AV.tup [AV.agg [D.bool (CE.dflt Sh.bool), D.bool (CE.dflt Sh.bool), D.sl [Sh.str] [], D.sl [Sh.int IntKind.i64, Sh.str, Sh.str] [], D.bool (CE.dflt Sh.bool), D.sl [Sh.str] [], D.sl [Sh.str, Sh.bool] [], D.int IntKind.i64 (CE.dflt (Sh.int IntKind.i64)), D.int IntKind.i64 (CE.dflt (Sh.int IntKind.i64)), D.sl [Sh.int IntKind.i64, Sh.sl t3S, Sh.sl [Sh.str], Sh.sl [Sh.sl tmS], Sh.sl [Sh.int IntKind.i64, Sh.int IntKind.i64, Sh.str, Sh.str, Sh.str, Sh.str, Sh.int IntKind.i64], Sh.str, Sh.bool] []], AV.d (D.int IntKind.i64 (if pat p = true then (0 : Int) else (2 : Int)))]))) (some (SV.val (AV.tup [AV.agg [D.bool true, D.bool (CE.dflt Sh.bool), D.sl [Sh.str] [], D.sl [Sh.int IntKind.i64, Sh.str, Sh.str] [], D.bool (CE.dflt Sh.bool), D.sl [Sh.str] [], D.sl [Sh.str, Sh.bool] [], D.int IntKind.i64 (-1 : Int), D.int IntKind.i64 (CE.dflt (Sh.int IntKind.i64)), D.sl [Sh.int IntKind.i64, Sh.sl t3S, Sh.sl [Sh.str], Sh.sl [Sh.sl tmS], Sh.sl [Sh.int IntKind.i64, Sh.int IntKind.i64, Sh.str, Sh.str, Sh.str, Sh.str, Sh.int IntKind.i64], Sh.str, Sh.bool] [((1 : Int), [p], [], [], [], CE.dflt Sh.str, CE.dflt Sh.bool, ())]], AV.d (D.int IntKind.i64 (0 : Int))])))) := by kernel_rfl
theorem satprobe : Sat P 17 (Sprobe) := by
  refine sat_mk (LT := Ln (Lprobe)) hC (SatE.ep okpoints) mixed Try.func17 (by kernel_rfl) (c := bodyOf Try.f17) (by kernel_rfl) (by kernel_rfl) ?_ (loops0 (by kernel_rfl))
  rintro ⟨(p : RowE t3S), _⟩ sv h
  refine Leads.eq (Leads.of_eq (tprobe p) ?_)
  obtain ⟨h1, h⟩ := h
  obtain rfl := Out_leaf h
  unfold probeP
  refine Leads.chk h1 fun _ => ?_
  cases hp : pat p
  · exact Leads.br (fun _ => Leads.one rfl) (fun w => absurd w (by decide))
  · exact Leads.br (fun w => absurd w (by decide)) (fun _ => Leads.one rfl)
def Eprobe : Es := (17, (Sprobe)) :: Epoints
theorem okprobe : SatE P (En (Eprobe)) := SatE.cons (satprobe) okpoints
/-! ### legation/sources.Arrange$1 -/
def La1 : Ls := []
def Sa1 := mkO [false, false, false, false] [.v true grS, .pt [.sl t3S], .pt [.sl grS], .pt [.int .i64]] fun ⟨(g : RowE grS), (x1 : RowE [.sl t3S]), (x2 : RowE [.sl grS]), (x3 : RowE [.int .i64]), _⟩ => .chk ((0 ≤ (x3.1 : Int) ∧ (x3.1 : Int) < (x2.1 : List Gr).length ∧ szTs x1.1 ∧ szGr (getR grS x2.1 x3.1)) ∧ szGr g) (.leaf (.val (.d (.bool (touchP x1.1 g (getR grS x2.1 x3.1)))), []))
theorem ta1 (g : RowE grS) (x1 : RowE [.sl t3S]) (x2 : RowE [.sl grS]) (x3 : RowE [.int .i64]) : evFO T (Ep (Eprobe)) (Ln (La1)) Try.f34 [.val (.agg (rowD grS g)), .at (rowD [.sl t3S] x1), .at (rowD [.sl grS] x2), .at (rowD [.int .i64] x3)] =
    chk ((0 : Int) ≤ x3.fst ∧ x3.fst < (↑(List.length x2.fst) : Int)) (chk (szTs x1.fst ∧ szGr g ∧ szGr (getR grS x2.fst x3.fst)) (some (SV.val (AV.d (D.bool (touchP x1.fst g (getR grS x2.fst x3.fst)))), []))) := by kernel_rfl
theorem sata1 : SatO P 34 (Sa1) := by
  refine sat_mkO (LT := Ln (La1)) hC (SatE.ep okprobe) mixed Try.func34 (by kernel_rfl) (c := bodyOf Try.f34) (by kernel_rfl) (by kernel_rfl) ?_ (loops0 (by kernel_rfl))
  rintro ⟨(g : RowE grS), (x1 : RowE [.sl t3S]), (x2 : RowE [.sl grS]), (x3 : RowE [.int .i64]), _⟩ sv h
  refine Leads.eq (Leads.of_eq (ta1 g x1 x2 x3) ?_)
  obtain ⟨⟨⟨h1, h2, h3, h4⟩, h5⟩, h⟩ := h
  obtain rfl := Out_leaf h
  exact Leads.chk ⟨h1, h2⟩ fun _ => Leads.chk ⟨h3, h5, h4⟩ fun _ => Leads.one rfl
def Ea1 : Es := (34, .o (Sa1)) :: Eprobe
theorem oka1 : SatE P (En (Ea1)) := SatE.consO (sata1) okprobe
/-! ### slices.IndexFunc[[]legation/api.Group,legation/api.Group] -/
def lkidxG_0 : St [.v false [.sl grS], .fc 34 [[.sl t3S], [.sl grS], [.int .i64]], .v false [.int .i64], .v false [.int .i64]] → Prop := fun ⟨⟨(s : List (RowE grS)), _⟩, (f : Caps [[.sl t3S], [.sl grS], [.int .i64]]), ⟨(x7 : Int), _⟩, ⟨(x8 : Int), _⟩, _⟩ => 0 ≤ x8 ∧ x8 ≤ x7 ∧ x7 = (s.length : Int) ∧ s.length ≤ 2000000 ∧ (0 ≤ (f.2.2.1.1 : Int) ∧ (f.2.2.1.1 : Int) < (f.2.1.1 : List Gr).length ∧ szTs f.1.1 ∧ szGr (getR grS f.2.1.1 f.2.2.1.1)) ∧ ∀ g ∈ s, szGr g
def lgidxG_0 : St [.v false [.sl grS], .fc 34 [[.sl t3S], [.sl grS], [.int .i64]], .v false [.int .i64], .v false [.int .i64]] → Tr (Ex × List SV) := fun ⟨⟨(s : List (RowE grS)), _⟩, (f : Caps [[.sl t3S], [.sl grS], [.int .i64]]), ⟨(x7 : Int), _⟩, ⟨(x8 : Int), _⟩, _⟩ => .br ((s.drop x8.toNat).any (fun v => touchP f.1.1 v (getR grS f.2.1.1 f.2.2.1.1))) (.leaf (.ret, [.val (.d (.int .i64 (firstG (fun v => touchP f.1.1 v (getR grS f.2.1.1 f.2.2.1.1)) (s.drop x8.toNat) x8)))])) (.leaf (.exit 0, []))
def lmidxG_0 : St [.v false [.sl grS], .fc 34 [[.sl t3S], [.sl grS], [.int .i64]], .v false [.int .i64], .v false [.int .i64]] → Nat := fun ⟨⟨(s : List (RowE grS)), _⟩, (f : Caps [[.sl t3S], [.sl grS], [.int .i64]]), ⟨(x7 : Int), _⟩, ⟨(x8 : Int), _⟩, _⟩ => s.length - x8.toNat
def lsidxG_0 : LoopS := mkR [0, 1, 7, 8] [] [4] [.v false [.sl grS], .fc 34 [[.sl t3S], [.sl grS], [.int .i64]], .v false [.int .i64], .v false [.int .i64]] (fun r => .chk (lkidxG_0 r) (lgidxG_0 r))
def LidxG : Ls := [(2, lsidxG_0)]
def SidxG := mkO [false, false] [.v false [.sl grS], .fc 34 [[.sl t3S], [.sl grS], [.int .i64]]] fun ⟨⟨(s : List (RowE grS)), _⟩, (f : Caps [[.sl t3S], [.sl grS], [.int .i64]]), _⟩ => .chk (s.length ≤ 2000000 ∧ (0 ≤ (f.2.2.1.1 : Int) ∧ (f.2.2.1.1 : Int) < (f.2.1.1 : List Gr).length ∧ szTs f.1.1 ∧ szGr (getR grS f.2.1.1 f.2.2.1.1)) ∧ ∀ g ∈ s, szGr g) (.leaf (.val (.d (.int .i64 (firstG (fun v => touchP f.1.1 v (getR grS f.2.1.1 f.2.2.1.1)) s 0))), []))
theorem ltidxG_0 (s : List (RowE grS)) (f : Caps [[.sl t3S], [.sl grS], [.int .i64]]) (x7 : Int) (x8 : Int) : evRound T (Ep (Ea1)) (Ln (LidxG)) (loopAt 0 (loops (bodyOf Try.f49))) (lsidxG_0) [.val (.d (.sl grS s)), .val (.fn 34 (Caps.avs [[.sl t3S], [.sl grS], [.int .i64]] f)), .val (.d (.int .i64 x7)), .val (.d (.int .i64 x8))] =
    br (decide (x8 < x7)) (chk ((0 : Int) ≤ x8 ∧ x8 < (↑s.length : Int)) (chk (((0 : CE (Sh.int IntKind.i64)) ≤ f.snd.snd.fst.fst ∧ f.snd.snd.fst.fst < (↑(List.length f.snd.fst.fst) : CE (Sh.int IntKind.i64)) ∧ szTs f.fst.fst ∧ szGr (getR grS f.snd.fst.fst f.snd.snd.fst.fst)) ∧ szGr (getR grS s x8)) (br (touchP f.fst.fst (getR grS s x8) (getR grS f.snd.fst.fst f.snd.snd.fst.fst)) (some (Rnd.out Ex.ret [SV.val (AV.d (D.int IntKind.i64 x8))])) (some (Rnd.again [SV.val (AV.d (D.sl grS s)), SV.val (AV.fn (34 : Nat) [AV.pt [D.sl t3S f.fst.fst], AV.pt [D.sl grS f.snd.fst.fst], AV.pt [D.int IntKind.i64 f.snd.snd.fst.fst]]), SV.val (AV.d (D.int IntKind.i64 x7)), SV.val (AV.d (D.int IntKind.i64 (IntKind.i64.wrap (x8 + (1 : Int)))))]))))) (some (Rnd.out (Ex.exit (0 : Nat)) [])) := by kernel_rfl
theorem lokidxG_0 : LoopOK T (Ep (Ea1)) (Ln (LidxG)) (loopAt 0 (loops (bodyOf Try.f49))) := by
  refine loop_ok (live := [0, 1, 7, 8]) (outs := []) (rets := [4]) (ks := [.v false [.sl grS], .fc 34 [[.sl t3S], [.sl grS], [.int .i64]], .v false [.int .i64], .v false [.int .i64]]) (G := lgidxG_0) (lkidxG_0) (lmidxG_0) (by kernel_rfl) ?_
  rintro ⟨⟨(s : List (RowE grS)), _⟩, (f : Caps [[.sl t3S], [.sl grS], [.int .i64]]), ⟨(x7 : Int), _⟩, ⟨(x8 : Int), _⟩, _⟩ x hok hx
  refine Leads.of_eq (ltidxG_0 s f x7 x8) ?_
  obtain ⟨h0, h1, h2, h3, h4, h5⟩ := hok
  obtain ⟨m, rfl⟩ := Int.eq_ofNat_of_zero_le h0
  simp only [lgidxG_0, Int.toNat_natCast] at hx
  rcases drop_cases s m with ⟨hle, hd⟩ | ⟨x1, hlt, hd, hb⟩
  · rw [hd] at hx
    exact Leads.brD (fun q => by omega) (fun _ => Leads.one (Goes.out (Out_leaf (Out_ff hx))))
  rw [hd, firstG, List.any_cons] at hx
  rw [getR_of hb, wrap64 (by omega) (by omega)]
  refine Leads.brD (fun _ => Leads.chk (by omega) fun _ => Leads.chk ⟨h4, h5 x1 (List.mem_of_getElem? hb)⟩ fun _ => Leads.br (fun w => Leads.one (Goes.out ?_)) (fun w => Leads.one ?_)) (fun q => by omega)
  · have w : touchP f.1.1 x1 (getR grS f.2.1.1 f.2.2.1.1) = true := w
    rw [if_pos w, w, Bool.true_or] at hx
    exact Out_leaf (Out_tt hx)
  · have w : touchP f.1.1 x1 (getR grS f.2.1.1 f.2.2.1.1) = false := w
    rw [if_neg (by rw [w]; simp), w, Bool.false_or] at hx
    refine Goes.again (ks := [.v false [.sl grS], .fc 34 [[.sl t3S], [.sl grS], [.int .i64]], .v false [.int .i64], .v false [.int .i64]]) ((_, ()), _, (_, ()), (_, ()), ()) rfl ?_ ?_ ?_
    · exact ⟨by omega, by omega, h2, h3, h4, h5⟩
    · simp only [lmidxG_0]; omega
    · simp only [lgidxG_0, toNat_add1]; exact hx
theorem tidxG (s : List (RowE grS)) (f : Caps [[.sl t3S], [.sl grS], [.int .i64]]) : evFO T (Ep (Ea1)) (Ln (LidxG)) Try.f49 [.val (.d (.sl grS s)), .val (.fn 34 (Caps.avs [[.sl t3S], [.sl grS], [.int .i64]] f))] =
    chk (lkidxG_0 ((s, ()), f, ((↑s.length : Int), ()), ((0 : Int), ()), ())) (br ((List.drop (Int.toNat (0 : Int)) s).any fun v => touchP f.fst.fst v (getR grS f.snd.fst.fst f.snd.snd.fst.fst)) (some (SV.val (AV.d (D.int IntKind.i64 (firstG (fun v => touchP f.fst.fst v (getR grS f.snd.fst.fst f.snd.snd.fst.fst)) (List.drop (Int.toNat (0 : Int)) s) (0 : Int)))), [])) (some (SV.val (AV.d (D.int IntKind.i64 (-1 : Int))), []))) := by kernel_rfl
theorem satidxG : SatO P 49 (SidxG) := by
  refine sat_mkO (LT := Ln (LidxG)) hC (SatE.ep oka1) mixed Try.func49 (by kernel_rfl) (c := bodyOf Try.f49) (by kernel_rfl) (by kernel_rfl) ?_ (loops1 (by kernel_rfl) (lokidxG_0))
  rintro ⟨⟨(s : List (RowE grS)), _⟩, (f : Caps [[.sl t3S], [.sl grS], [.int .i64]]), _⟩ sv h
  refine Leads.eq (Leads.of_eq (tidxG s f) ?_)
  obtain ⟨⟨h1, h2, h3⟩, h⟩ := h
  obtain rfl := Out_leaf h
  refine Leads.chk ⟨by omega, Int.natCast_nonneg _, rfl, h1, h2, h3⟩ fun _ => Leads.br (fun q => Leads.one rfl) (fun q => Leads.one ?_)
  have q : (s.any (fun v => touchP f.1.1 v (getR grS f.2.1.1 f.2.2.1.1))) = false := q
  rw [firstG_neg _ s 0 (by omega) (of_decide_eq_false ((firstG_ge _ s 0 (by omega)).trans q))]
def EidxG : Es := (49, .o (SidxG)) :: Ea1
theorem okidxG : SatE P (En (EidxG)) := SatE.consO (satidxG) oka1
/-! ### slices.ContainsFunc[[]legation/api.Group,legation/api.Group] -/
def LcntG : Ls := []
def ScntG := mkO [false, false] [.v false [.sl grS], .fc 34 [[.sl t3S], [.sl grS], [.int .i64]]] fun ⟨⟨(s : List (RowE grS)), _⟩, (f : Caps [[.sl t3S], [.sl grS], [.int .i64]]), _⟩ => .chk (s.length ≤ 2000000 ∧ (0 ≤ (f.2.2.1.1 : Int) ∧ (f.2.2.1.1 : Int) < (f.2.1.1 : List Gr).length ∧ szTs f.1.1 ∧ szGr (getR grS f.2.1.1 f.2.2.1.1)) ∧ ∀ g ∈ s, szGr g) (.leaf (.val (.d (.bool (s.any (fun v => touchP f.1.1 v (getR grS f.2.1.1 f.2.2.1.1))))), []))
theorem tcntG (s : List (RowE grS)) (f : Caps [[.sl t3S], [.sl grS], [.int .i64]]) : evFO T (Ep (EidxG)) (Ln (LcntG)) Try.f33 [.val (.d (.sl grS s)), .val (.fn 34 (Caps.avs [[.sl t3S], [.sl grS], [.int .i64]] f))] =
    chk (s.length ≤ (2000000 : Nat) ∧ ((0 : CE (Sh.int IntKind.i64)) ≤ f.snd.snd.fst.fst ∧ f.snd.snd.fst.fst < (↑(List.length f.snd.fst.fst) : CE (Sh.int IntKind.i64)) ∧ szTs f.fst.fst ∧ szGr (getR grS f.snd.fst.fst f.snd.snd.fst.fst)) ∧ ∀ (g : RowE grS), g ∈ s → szGr g) (some (SV.val (AV.d (D.bool (decide (firstG (fun v => touchP f.fst.fst v (getR grS f.snd.fst.fst f.snd.snd.fst.fst)) s (0 : Int) ≥ (0 : Int))))), [])) := by kernel_rfl
theorem satcntG : SatO P 33 (ScntG) := by
  refine sat_mkO (LT := Ln (LcntG)) hC (SatE.ep okidxG) mixed Try.func33 (by kernel_rfl) (c := bodyOf Try.f33) (by kernel_rfl) (by kernel_rfl) ?_ (loops0 (by kernel_rfl))
  rintro ⟨⟨(s : List (RowE grS)), _⟩, (f : Caps [[.sl t3S], [.sl grS], [.int .i64]]), _⟩ sv h
  refine Leads.eq (Leads.of_eq (tcntG s f) ?_)
  obtain ⟨h1, h⟩ := h
  obtain rfl := Out_leaf h
  refine Leads.chk h1 fun _ => Leads.one ?_
  rw [firstG_ge _ s 0 (by omega)]
def EcntG : Es := (33, .o (ScntG)) :: EidxG
theorem okcntG : SatE P (En (EcntG)) := SatE.consO (satcntG) okidxG
/-! ### legation/sources.Arrange -/
def lkarrange_0 : St [.v false [.bool], .pt [.sl grS], .own [.int .i64], .v false [.int .i64], .v false [.int .i64]] → Prop := fun ⟨⟨(reverse : Bool), _⟩, (groups : RowE [.sl grS]), (order : List (RowE [.int .i64])), ⟨(x26 : Int), _⟩, ⟨(x27 : Int), _⟩, _⟩ => 0 ≤ x27 ∧ x27 ≤ x26 ∧ x26 = (order.length : Int) ∧ order.length ≤ 2000000 ∧ (groups.1 : List Gr).length = order.length
def lgarrange_0 : St [.v false [.bool], .pt [.sl grS], .own [.int .i64], .v false [.int .i64], .v false [.int .i64]] → Tr (Ex × List SV) := fun ⟨⟨(reverse : Bool), _⟩, (groups : RowE [.sl grS]), (order : List (RowE [.int .i64])), ⟨(x26 : Int), _⟩, ⟨(x27 : Int), _⟩, _⟩ => .leaf (.exit 0, [.at (rowD [.sl grS] (groups)), .own [.int .i64] (order.take x27.toNat ++ (ordP order.length reverse).drop x27.toNat)])
def lmarrange_0 : St [.v false [.bool], .pt [.sl grS], .own [.int .i64], .v false [.int .i64], .v false [.int .i64]] → Nat := fun ⟨⟨(reverse : Bool), _⟩, (groups : RowE [.sl grS]), (order : List (RowE [.int .i64])), ⟨(x26 : Int), _⟩, ⟨(x27 : Int), _⟩, _⟩ => order.length - x27.toNat
def lsarrange_0 : LoopS := mkR [2, 4, 9, 26, 27] [4, 9] [] [.v false [.bool], .pt [.sl grS], .own [.int .i64], .v false [.int .i64], .v false [.int .i64]] (fun r => .chk (lkarrange_0 r) (lgarrange_0 r))
def lkarrange_1 : St [.pt [.sl t3S], .pt [.sl grS], .own [.int .i64], .mp (.int .i64) false [.bool], .a grS, .v false [.int .i64], .v false [.int .i64]] → Prop := fun ⟨(l : RowE [.sl t3S]), (groups : RowE [.sl grS]), (order : List (RowE [.int .i64])), (taken : List (Int × RowE [.bool])), (out : List (RowE grS)), ⟨(x46 : Int), _⟩, ⟨(x47 : Int), _⟩, _⟩ => 0 ≤ x47 ∧ x47 ≤ x46 ∧ x46 = ((groups.1 : List Gr).length : Int) ∧ (groups.1 : List Gr).length ≤ 2000000 ∧ (out.length : Int) = x47 ∧ (taken.length : Int) ≤ x47 ∧ (szTs l.1 ∧ ∀ g ∈ (groups.1 : List Gr), szGp g) ∧ (∃ rev, order = ordP (groups.1 : List Gr).length rev) ∧ ∀ g ∈ out, szGp g
def lgarrange_1 : St [.pt [.sl t3S], .pt [.sl grS], .own [.int .i64], .mp (.int .i64) false [.bool], .a grS, .v false [.int .i64], .v false [.int .i64]] → Tr (Ex × List SV) := fun ⟨(l : RowE [.sl t3S]), (groups : RowE [.sl grS]), (order : List (RowE [.int .i64])), (taken : List (Int × RowE [.bool])), (out : List (RowE grS)), ⟨(x46 : Int), _⟩, ⟨(x47 : Int), _⟩, _⟩ => .leaf (.exit 2, [.app grS (arrA l.1 groups.1 order (x46 - x47).toNat taken out)])
def lmarrange_1 : St [.pt [.sl t3S], .pt [.sl grS], .own [.int .i64], .mp (.int .i64) false [.bool], .a grS, .v false [.int .i64], .v false [.int .i64]] → Nat := fun ⟨(l : RowE [.sl t3S]), (groups : RowE [.sl grS]), (order : List (RowE [.int .i64])), (taken : List (Int × RowE [.bool])), (out : List (RowE grS)), ⟨(x46 : Int), _⟩, ⟨(x47 : Int), _⟩, _⟩ => (x46 - x47).toNat
def lsarrange_1 : LoopS := mkR [3, 4, 9, 11, 12, 46, 47] [12] [] [.pt [.sl t3S], .pt [.sl grS], .own [.int .i64], .mp (.int .i64) false [.bool], .a grS, .v false [.int .i64], .v false [.int .i64]] (fun r => .chk (lkarrange_1 r) (lgarrange_1 r))
def lkarrange_2 : St [.vw 9 1, .own [.int .i64], .pt [.sl t3S], .pt [.sl grS], .mp (.int .i64) false [.bool], .a grS, .v false [.int .i64], .v false [.int .i64], .v false [.int .i64]] → Prop := fun ⟨⟨(x49_lo : Nat), (x49_hi : Nat)⟩, (order : List (RowE [.int .i64])), (l : RowE [.sl t3S]), (groups : RowE [.sl grS]), (taken : List (Int × RowE [.bool])), (out : List (RowE grS)), ⟨(next : Int), _⟩, ⟨(x50 : Int), _⟩, ⟨(x51 : Int), _⟩, _⟩ => 0 ≤ x51 ∧ x51 ≤ x50 ∧ x50 = (x49_hi : Int) - x49_lo ∧ x49_lo = 0 ∧ x49_hi = order.length ∧ order.length ≤ 2000000 ∧ out.length ≤ 2000000 ∧ szTs l.1 ∧ (∀ g ∈ (groups.1 : List Gr), szGp g) ∧ (∀ g ∈ out, szGp g) ∧ ∀ i ∈ order, 0 ≤ (i.1 : Int) ∧ (i.1 : Int) < (groups.1 : List Gr).length
def lgarrange_2 : St [.vw 9 1, .own [.int .i64], .pt [.sl t3S], .pt [.sl grS], .mp (.int .i64) false [.bool], .a grS, .v false [.int .i64], .v false [.int .i64], .v false [.int .i64]] → Tr (Ex × List SV) := fun ⟨⟨(x49_lo : Nat), (x49_hi : Nat)⟩, (order : List (RowE [.int .i64])), (l : RowE [.sl t3S]), (groups : RowE [.sl grS]), (taken : List (Int × RowE [.bool])), (out : List (RowE grS)), ⟨(next : Int), _⟩, ⟨(x50 : Int), _⟩, ⟨(x51 : Int), _⟩, _⟩ => .leaf (.exit 4, [.own [.int .i64] (order), .at (rowD [.sl t3S] (l)), .at (rowD [.sl grS] (groups)), .mp (.int .i64) false [.bool] (taken), .app grS (out), .val (.d (.int .i64 (pickA l.1 groups.1 out taken next (order.drop x51.toNat))))])
def lmarrange_2 : St [.vw 9 1, .own [.int .i64], .pt [.sl t3S], .pt [.sl grS], .mp (.int .i64) false [.bool], .a grS, .v false [.int .i64], .v false [.int .i64], .v false [.int .i64]] → Nat := fun ⟨⟨(x49_lo : Nat), (x49_hi : Nat)⟩, (order : List (RowE [.int .i64])), (l : RowE [.sl t3S]), (groups : RowE [.sl grS]), (taken : List (Int × RowE [.bool])), (out : List (RowE grS)), ⟨(next : Int), _⟩, ⟨(x50 : Int), _⟩, ⟨(x51 : Int), _⟩, _⟩ => order.length - x51.toNat
def lsarrange_2 : LoopS := mkR [49, 9, 3, 4, 11, 12, 13, 50, 51] [9, 3, 4, 11, 12, 13] [] [.vw 9 1, .own [.int .i64], .pt [.sl t3S], .pt [.sl grS], .mp (.int .i64) false [.bool], .a grS, .v false [.int .i64], .v false [.int .i64], .v false [.int .i64]] (fun r => .chk (lkarrange_2 r) (lgarrange_2 r))
def Larrange : Ls := [(6, lsarrange_0), (15, lsarrange_1), (18, lsarrange_2)]
def Sarrange := mkS [(false, [.sl [.int .i64, .str, .str, .str, .int .i64, .str, .str, .str, .int .i64, .str, .str, .str]]), (false, [.sl [.sl [.int .i64], .sl [.int .i64]]]), (false, [.bool])] fun ⟨⟨(l : List (RowE [.int .i64, .str, .str, .str, .int .i64, .str, .str, .str, .int .i64, .str, .str, .str])), _⟩, ⟨(groups : List (RowE [.sl [.int .i64], .sl [.int .i64]])), _⟩, ⟨(reverse : Bool), _⟩, _⟩ => .chk (szTs l ∧ (∀ t ∈ l, sz3 140737488355328 t) ∧ groups.length ≤ 2000000 ∧ ∀ g ∈ groups, szGp g) (.leaf (.val (.tup [.d (.sl grS (bif decide (checkP l groups = 0) then arrangeP l groups reverse else [])), .d (.int .i64 (checkP l groups))])))
theorem ltarrange_0 (reverse : Bool) (groups : RowE [.sl grS]) (order : List (RowE [.int .i64])) (x26 : Int) (x27 : Int) : evRound T (Ez [9] [3, 4] true (EcntG)) (Ln (Larrange)) (loopAt 0 (loops (bodyOf Try.f19))) (lsarrange_0) [.val (.d (.bool  reverse)), .at (rowD [.sl grS] groups), .own [.int .i64] order, .val (.d (.int .i64 x26)), .val (.d (.int .i64 x27))] =
    br (decide (x27 < x26)) (chk ((0 : Int) ≤ x27 ∧ x27 < (↑order.length : Int) - (↑(0 : Nat) : Int)) (br reverse (chk ((0 : Int) ≤ x27 ∧ x27 < (↑(order.set ((0 : Nat) + x27.toNat) (x27, ())).length : Int) - (↑(0 : Nat) : Int)) (some (Rnd.again [SV.val (AV.d (D.bool reverse)), SV.at [D.sl grS groups.fst], SV.own [Sh.int IntKind.i64] ((order.set ((0 : Nat) + x27.toNat) (x27, ())).set ((0 : Nat) + x27.toNat) (IntKind.i64.wrap (IntKind.i64.wrap ((↑(List.length groups.fst) : Int) - (1 : Int)) - x27), ())), SV.val (AV.d (D.int IntKind.i64 x26)), SV.val (AV.d (D.int IntKind.i64 (IntKind.i64.wrap (x27 + (1 : Int)))))]))) (some (Rnd.again [SV.val (AV.d (D.bool reverse)), SV.at [D.sl grS groups.fst], SV.own [Sh.int IntKind.i64] (order.set ((0 : Nat) + x27.toNat) (x27, ())), SV.val (AV.d (D.int IntKind.i64 x26)), SV.val (AV.d (D.int IntKind.i64 (IntKind.i64.wrap (x27 + (1 : Int)))))])))) (some (Rnd.out (Ex.exit (0 : Nat)) [SV.at [D.sl grS groups.fst], SV.own [Sh.int IntKind.i64] order])) := by kernel_rfl
theorem lokarrange_0 : LoopOK T (Ez [9] [3, 4] true (EcntG)) (Ln (Larrange)) (loopAt 0 (loops (bodyOf Try.f19))) := by
  refine loop_ok (live := [2, 4, 9, 26, 27]) (outs := [4, 9]) (rets := []) (ks := [.v false [.bool], .pt [.sl grS], .own [.int .i64], .v false [.int .i64], .v false [.int .i64]]) (G := lgarrange_0) (lkarrange_0) (lmarrange_0) (by kernel_rfl) ?_
  rintro ⟨⟨(reverse : Bool), _⟩, (groups : RowE [.sl grS]), (order : List (RowE [.int .i64])), ⟨(x26 : Int), _⟩, ⟨(x27 : Int), _⟩, _⟩ x hok hx
  refine Leads.of_eq (ltarrange_0 reverse groups order x26 x27) ?_
  obtain ⟨h0, h1, h2, h3, h4⟩ := hok
  obtain ⟨m, rfl⟩ := Int.eq_ofNat_of_zero_le h0
  simp only [lgarrange_0, Int.toNat_natCast] at hx
  have em : (0 : Nat) + (m : Int).toNat = m := by simp
  rw [em]
  by_cases hm : m < order.length
  · rw [h4, wrap64 (x := (m : Int) + 1) (by omega) (by omega), wrap64 (x := (order.length : Int) - 1) (by omega) (by omega), wrap64 (x := (order.length : Int) - 1 - (m : Int)) (by omega) (by omega)]
    refine Leads.brD (fun _ => Leads.chk ⟨by omega, by omega⟩ fun _ => Leads.br (fun w => Leads.chk ⟨by omega, by rw [List.length_set]; omega⟩ fun _ => Leads.one ?_) (fun w => Leads.one ?_)) (fun q => by omega)
    · have w : reverse = true := w
      rw [List.set_set]
      refine Goes.again (ks := [.v false [.bool], .pt [.sl grS], .own [.int .i64], .v false [.int .i64], .v false [.int .i64]]) ((_, ()), _, _, (_, ()), (_, ()), ()) rfl ?_ ?_ ?_
      · exact ⟨by omega, by omega, by rw [List.length_set]; exact h2, by rw [List.length_set]; exact h3, by rw [List.length_set]; exact h4⟩
      · simp only [lmarrange_0, List.length_set]; omega
      · simp only [lgarrange_0, toNat_add1, List.length_set]
        rw [ord_step rfl hm (by rw [w]; rfl)]; exact hx
    · have w : reverse = false := w
      refine Goes.again (ks := [.v false [.bool], .pt [.sl grS], .own [.int .i64], .v false [.int .i64], .v false [.int .i64]]) ((_, ()), _, _, (_, ()), (_, ()), ()) rfl ?_ ?_ ?_
      · exact ⟨by omega, by omega, by rw [List.length_set]; exact h2, by rw [List.length_set]; exact h3, by rw [List.length_set]; exact h4⟩
      · simp only [lmarrange_0, List.length_set]; omega
      · simp only [lgarrange_0, toNat_add1, List.length_set]
        rw [ord_step rfl hm (by rw [w]; rfl)]; exact hx
  · refine Leads.brD (fun q => by omega) (fun _ => Leads.one (Goes.out ?_))
    rw [List.take_of_length_le (by omega), List.drop_of_length_le (by rw [ord_len]; omega), List.append_nil] at hx
    exact Out_leaf hx
theorem ltarrange_1 (l : RowE [.sl t3S]) (groups : RowE [.sl grS]) (order : List (RowE [.int .i64])) (taken : List (Int × RowE [.bool])) (out : List (RowE grS)) (x46 : Int) (x47 : Int) : evRound T (Ez [9] [3, 4] true (EcntG)) (Ln (Larrange)) (loopAt 1 (loops (bodyOf Try.f19))) (lsarrange_1) [.at (rowD [.sl t3S] l), .at (rowD [.sl grS] groups), .own [.int .i64] order, .mp (.int .i64) false [.bool] taken, .app grS out, .val (.d (.int .i64 x46)), .val (.d (.int .i64 x47))] =
    br (decide (x47 < x46)) (chk (lkarrange_2 (((0 : Nat), order.length), order, l, groups, taken, out, ((-1 : Int), ()), ((↑order.length : Int) - (↑(0 : Nat) : Int), ()), ((0 : Int), ()), ())) (chk ((0 : Int) ≤ pickA l.fst groups.fst out taken (-1 : Int) (List.drop (Int.toNat (0 : Int)) order) ∧ pickA l.fst groups.fst out taken (-1 : Int) (List.drop (Int.toNat (0 : Int)) order) < (↑(List.length groups.fst) : Int)) (chk (szGp (getR grS groups.fst (pickA l.fst groups.fst out taken (-1 : Int) (List.drop (Int.toNat (0 : Int)) order)))) (chk (((↑out.length : Int) + (↑[getR grS groups.fst (pickA l.fst groups.fst out taken (-1 : Int) (List.drop (Int.toNat (0 : Int)) order))].length : Int)) * (↑(48 : Nat) : Int) < lim) (some (Rnd.again [SV.at [D.sl t3S l.fst], SV.at [D.sl grS groups.fst], SV.own [Sh.int IntKind.i64] order, SV.mp (Sh.int IntKind.i64) false [Sh.bool] (mput (Sh.int IntKind.i64) [Sh.bool] taken (pickA l.fst groups.fst out taken (-1 : Int) (List.drop (Int.toNat (0 : Int)) order)) (true, ())), SV.app grS (out ++ [getR grS groups.fst (pickA l.fst groups.fst out taken (-1 : Int) (List.drop (Int.toNat (0 : Int)) order))]), SV.val (AV.d (D.int IntKind.i64 x46)), SV.val (AV.d (D.int IntKind.i64 (IntKind.i64.wrap (x47 + (1 : Int)))))])))))) (some (Rnd.out (Ex.exit (2 : Nat)) [SV.app grS out])) := by kernel_rfl
theorem lokarrange_1 : LoopOK T (Ez [9] [3, 4] true (EcntG)) (Ln (Larrange)) (loopAt 1 (loops (bodyOf Try.f19))) := by
  refine loop_ok (live := [3, 4, 9, 11, 12, 46, 47]) (outs := [12]) (rets := []) (ks := [.pt [.sl t3S], .pt [.sl grS], .own [.int .i64], .mp (.int .i64) false [.bool], .a grS, .v false [.int .i64], .v false [.int .i64]]) (G := lgarrange_1) (lkarrange_1) (lmarrange_1) (by kernel_rfl) ?_
  rintro ⟨(l : RowE [.sl t3S]), (groups : RowE [.sl grS]), (order : List (RowE [.int .i64])), (taken : List (Int × RowE [.bool])), (out : List (RowE grS)), ⟨(x46 : Int), _⟩, ⟨(x47 : Int), _⟩, _⟩ x hok hx
  refine Leads.of_eq (ltarrange_1 l groups order taken out x46 x47) ?_
  obtain ⟨h0, h1, h2, h3, h4, h5, ⟨h6, h7⟩, ⟨rev, h8⟩, h9⟩ := hok
  obtain ⟨m, rfl⟩ := Int.eq_ofNat_of_zero_le h0
  by_cases hm : m < (groups.1 : List Gr).length
  · have hp := pick_in l.1 groups.1 out (t := taken) (n := (groups.1 : List Gr).length) (rev := rev) (by omega)
    have hol : order.length = (groups.1 : List Gr).length := by rw [h8, ord_len]
    have hom : ∀ i ∈ order, 0 ≤ (i.1 : Int) ∧ (i.1 : Int) < (groups.1 : List Gr).length := fun i hi => ord_mem (h8 ▸ hi)
    have h8' := h8
    rw [← h8] at hp
    have e : (x46 - (m : Int)).toNat = (x46 - ((m : Int) + 1)).toNat + 1 := by omega
    simp only [lgarrange_1] at hx
    rw [e, arrA] at hx
    rw [show List.drop (Int.toNat (0 : Int)) order = order from rfl, wrap64 (x := (m : Int) + 1) (by omega) (by omega)]
    obtain ⟨_, hp1, hp2⟩ := hp
    have hgm := getR_mem (l := (groups.1 : List Gr)) hp1 hp2
    refine Leads.brD (fun _ => Leads.chk ⟨by omega, by omega, by omega, rfl, rfl, by omega, by omega, h6, h7, h9, hom⟩ fun _ => Leads.chk ⟨hp1, hp2⟩ fun _ => Leads.chk (h7 _ hgm) fun _ => Leads.chk (by simp only [lim, List.length_cons, List.length_nil]; omega) fun _ => Leads.one ?_) (fun q => by omega)
    refine Goes.again (ks := [.pt [.sl t3S], .pt [.sl grS], .own [.int .i64], .mp (.int .i64) false [.bool], .a grS, .v false [.int .i64], .v false [.int .i64]]) (_, _, _, _, _, (_, ()), (_, ()), ()) rfl ?_ ?_ ?_
    · refine ⟨by omega, by omega, h2, h3, ?_, ?_, ⟨h6, h7⟩, ⟨rev, h8'⟩, fun g hg => ?_⟩
      · rw [List.length_append]; simp only [List.length_cons, List.length_nil]; omega
      · have := mput_lenT taken (pickA l.1 groups.1 out taken (-1) order) (true, ())
        show ((mput (.int .i64) [.bool] taken (pickA l.1 groups.1 out taken (-1) order) (true, ())).length : Int) ≤ _
        omega
      · rcases List.mem_append.1 hg with hg | hg
        · exact h9 g hg
        · rw [List.mem_singleton.1 hg]; exact h7 _ hgm
    · simp only [lmarrange_1]; omega
    · simp only [lgarrange_1]; exact hx
  · have e : (x46 - (m : Int)).toNat = 0 := by omega
    simp only [lgarrange_1] at hx
    rw [e, arrA] at hx
    exact Leads.brD (fun q => by omega) (fun _ => Leads.one (Goes.out (Out_leaf hx)))
theorem ltarrange_2 (x49_lo : Nat) (x49_hi : Nat) (order : List (RowE [.int .i64])) (l : RowE [.sl t3S]) (groups : RowE [.sl grS]) (taken : List (Int × RowE [.bool])) (out : List (RowE grS)) (next : Int) (x50 : Int) (x51 : Int) : evRound T (Ez [9] [3, 4] true (EcntG)) (Ln (Larrange)) (loopAt 2 (loops (bodyOf Try.f19))) (lsarrange_2) [.ow 9 (.sub 1 x49_lo x49_hi), .own [.int .i64] order, .at (rowD [.sl t3S] l), .at (rowD [.sl grS] groups), .mp (.int .i64) false [.bool] taken, .app grS out, .val (.d (.int .i64 next)), .val (.d (.int .i64 x50)), .val (.d (.int .i64 x51))] =
    br (decide (x51 < x50))
  (chk ((0 : Int) ≤ x51 ∧ x51 < (↑x49_hi : Int) - (↑x49_lo : Int))
    (br (mget (Sh.int IntKind.i64) [Sh.bool] taken (getR [Sh.int IntKind.i64] order (↑(x49_lo + x51.toNat) : Int)).fst).fst (some (Rnd.again [SV.ow (9 : Nat) (OA.sub (1 : Nat) x49_lo x49_hi), SV.own [Sh.int IntKind.i64] order, SV.at [D.sl t3S l.fst], SV.at [D.sl grS groups.fst], SV.mp (Sh.int IntKind.i64) false [Sh.bool] taken, SV.app grS out, SV.val (AV.d (D.int IntKind.i64 next)), SV.val (AV.d (D.int IntKind.i64 x50)), SV.val (AV.d (D.int IntKind.i64 (IntKind.i64.wrap (x51 + (1 : Int)))))]))
      (br (decide (next < (0 : Int))) (chk (out.length ≤ (2000000 : Nat) ∧ ((0 : CE (Sh.int IntKind.i64)) ≤ (getR [Sh.int IntKind.i64] order (↑(x49_lo + x51.toNat) : Int)).fst ∧ (getR [Sh.int IntKind.i64] order (↑(x49_lo + x51.toNat) : Int)).fst < (↑(List.length groups.fst) : CE (Sh.int IntKind.i64)) ∧ szTs l.fst ∧ szGr (getR grS groups.fst (getR [Sh.int IntKind.i64] order (↑(x49_lo + x51.toNat) : Int)).fst)) ∧ ∀ (g : RowE grS), g ∈ out → szGr g) (br (out.any fun v => touchP (l, groups, getR [Sh.int IntKind.i64] order (↑(x49_lo + x51.toNat) : Int), ()).fst.fst v (getR grS (l, groups, getR [Sh.int IntKind.i64] order (↑(x49_lo + x51.toNat) : Int), ()).snd.fst.fst (l, groups, getR [Sh.int IntKind.i64] order (↑(x49_lo + x51.toNat) : Int), ()).snd.snd.fst.fst)) (some (Rnd.out (Ex.exit (4 : Nat)) [SV.own [Sh.int IntKind.i64] order, SV.at [D.sl t3S l.fst], SV.at [D.sl grS groups.fst], SV.mp (Sh.int IntKind.i64) false [Sh.bool] taken, SV.app grS out, SV.val (AV.d (D.int IntKind.i64 (getR [Sh.int IntKind.i64] order (↑(x49_lo + x51.toNat) : Int)).fst))])) (some (Rnd.again [SV.ow (9 : Nat) (OA.sub (1 : Nat) x49_lo x49_hi), SV.own [Sh.int IntKind.i64] order, SV.at [D.sl t3S l.fst], SV.at [D.sl grS groups.fst], SV.mp (Sh.int IntKind.i64) false [Sh.bool] taken, SV.app grS out, SV.val (AV.d (D.int IntKind.i64 (getR [Sh.int IntKind.i64] order (↑(x49_lo + x51.toNat) : Int)).fst)), SV.val (AV.d (D.int IntKind.i64 x50)), SV.val (AV.d (D.int IntKind.i64 (IntKind.i64.wrap (x51 + (1 : Int)))))])))) (chk (out.length ≤ (2000000 : Nat) ∧ ((0 : CE (Sh.int IntKind.i64)) ≤ (getR [Sh.int IntKind.i64] order (↑(x49_lo + x51.toNat) : Int)).fst ∧ (getR [Sh.int IntKind.i64] order (↑(x49_lo + x51.toNat) : Int)).fst < (↑(List.length groups.fst) : CE (Sh.int IntKind.i64)) ∧ szTs l.fst ∧ szGr (getR grS groups.fst (getR [Sh.int IntKind.i64] order (↑(x49_lo + x51.toNat) : Int)).fst)) ∧ ∀ (g : RowE grS), g ∈ out → szGr g) (br (out.any fun v => touchP (l, groups, getR [Sh.int IntKind.i64] order (↑(x49_lo + x51.toNat) : Int), ()).fst.fst v (getR grS (l, groups, getR [Sh.int IntKind.i64] order (↑(x49_lo + x51.toNat) : Int), ()).snd.fst.fst (l, groups, getR [Sh.int IntKind.i64] order (↑(x49_lo + x51.toNat) : Int), ()).snd.snd.fst.fst)) (some (Rnd.out (Ex.exit (4 : Nat)) [SV.own [Sh.int IntKind.i64] order, SV.at [D.sl t3S l.fst], SV.at [D.sl grS groups.fst], SV.mp (Sh.int IntKind.i64) false [Sh.bool] taken, SV.app grS out, SV.val (AV.d (D.int IntKind.i64 (getR [Sh.int IntKind.i64] order (↑(x49_lo + x51.toNat) : Int)).fst))])) (some (Rnd.again [SV.ow (9 : Nat) (OA.sub (1 : Nat) x49_lo x49_hi), SV.own [Sh.int IntKind.i64] order, SV.at [D.sl t3S l.fst], SV.at [D.sl grS groups.fst], SV.mp (Sh.int IntKind.i64) false [Sh.bool] taken, SV.app grS out, SV.val (AV.d (D.int IntKind.i64 next)), SV.val (AV.d (D.int IntKind.i64 x50)), SV.val (AV.d (D.int IntKind.i64 (IntKind.i64.wrap (x51 + (1 : Int)))))])))))))
  (some (Rnd.out (Ex.exit (4 : Nat)) [SV.own [Sh.int IntKind.i64] order, SV.at [D.sl t3S l.fst], SV.at [D.sl grS groups.fst], SV.mp (Sh.int IntKind.i64) false [Sh.bool] taken, SV.app grS out, SV.val (AV.d (D.int IntKind.i64 next))])) := by kernel_rfl
theorem lokarrange_2 : LoopOK T (Ez [9] [3, 4] true (EcntG)) (Ln (Larrange)) (loopAt 2 (loops (bodyOf Try.f19))) := by
  refine loop_ok (live := [49, 9, 3, 4, 11, 12, 13, 50, 51]) (outs := [9, 3, 4, 11, 12, 13]) (rets := []) (ks := [.vw 9 1, .own [.int .i64], .pt [.sl t3S], .pt [.sl grS], .mp (.int .i64) false [.bool], .a grS, .v false [.int .i64], .v false [.int .i64], .v false [.int .i64]]) (G := lgarrange_2) (lkarrange_2) (lmarrange_2) (by kernel_rfl) ?_
  rintro ⟨⟨(x49_lo : Nat), (x49_hi : Nat)⟩, (order : List (RowE [.int .i64])), (l : RowE [.sl t3S]), (groups : RowE [.sl grS]), (taken : List (Int × RowE [.bool])), (out : List (RowE grS)), ⟨(next : Int), _⟩, ⟨(x50 : Int), _⟩, ⟨(x51 : Int), _⟩, _⟩ x hok hx
  refine Leads.of_eq (ltarrange_2 x49_lo x49_hi order l groups taken out next x50 x51) ?_
  obtain ⟨h0, h1, h2, h3, h4, h5, h6, h7, h8, h9, h10⟩ := hok
  obtain ⟨m, rfl⟩ := Int.eq_ofNat_of_zero_le h0
  simp only [lgarrange_2, Int.toNat_natCast] at hx
  rcases drop_cases order m with ⟨hle, hd⟩ | ⟨x1, hlt, hd, hb⟩
  · rw [hd, pickA] at hx
    exact Leads.brD (fun q => by omega) (fun _ => Leads.one (Goes.out (Out_leaf hx)))
  rw [hd, pickA] at hx
  have ei : ((x49_lo + (m : Int).toNat : Nat) : Int) = (m : Int) := by rw [h3]; simp
  have hin := h10 x1 (List.mem_of_getElem? hb)
  have hgm := getR_mem (l := (groups.1 : List Gr)) hin.1 hin.2
  rw [ei, getR_of hb, wrap64 (x := (m : Int) + 1) (by omega) (by omega)]
  have again : ∀ nx : Int, (Tr.leaf (Ex.exit 4, [SV.own [.int .i64] order, SV.at (rowD [.sl t3S] l), SV.at (rowD [.sl grS] groups), SV.mp (.int .i64) false [.bool] taken, SV.app grS out, .val (.d (.int .i64 (pickA l.1 groups.1 out taken nx (order.drop (m + 1)))))])).Out x → Goes [.vw 9 1, .own [.int .i64], .pt [.sl t3S], .pt [.sl grS], .mp (.int .i64) false [.bool], .a grS, .v false [.int .i64], .v false [.int .i64], .v false [.int .i64]] lgarrange_2 lkarrange_2 lmarrange_2 ((x49_lo, x49_hi), order, l, groups, taken, out, (next, ()), (x50, ()), ((m : Int), ()), ()) x (.again (St.svs [.vw 9 1, .own [.int .i64], .pt [.sl t3S], .pt [.sl grS], .mp (.int .i64) false [.bool], .a grS, .v false [.int .i64], .v false [.int .i64], .v false [.int .i64]] ((x49_lo, x49_hi), order, l, groups, taken, out, (nx, ()), (x50, ()), ((m : Int) + 1, ()), ()))) := fun nx hx => by
    refine Goes.again (ks := [.vw 9 1, .own [.int .i64], .pt [.sl t3S], .pt [.sl grS], .mp (.int .i64) false [.bool], .a grS, .v false [.int .i64], .v false [.int .i64], .v false [.int .i64]]) _ rfl ?_ ?_ ?_
    · exact ⟨by omega, by omega, h2, h3, h4, h5, h6, h7, h8, h9, h10⟩
    · simp only [lmarrange_2]; omega
    · simp only [lgarrange_2, toNat_add1]; exact hx
  refine Leads.brD (fun _ => Leads.chk ⟨by omega, by omega⟩ fun _ => Leads.br (fun w => Leads.one (again next ?_)) (fun w => ?_)) (fun q => by omega)
  · have w : tkn taken x1.1 = true := w
    rw [w, cond_true] at hx; exact hx
  have w : tkn taken x1.1 = false := w
  rw [w, cond_false] at hx
  refine Leads.brD (fun w3 => ?_) (fun w3 => ?_)
  · rw [if_pos w3] at hx
    refine Leads.chk ⟨h6, ⟨hin.1, hin.2, h7, (h8 _ hgm).1⟩, fun g hg => (h9 g hg).1⟩ fun _ => Leads.br (fun w2 => Leads.one (Goes.out ?_)) (fun w2 => Leads.one (again _ ?_))
    · have w2 : out.any (fun g => touchP l.1 g (getR grS groups.1 x1.1)) = true := w2
      rw [w2, cond_true] at hx; exact Out_leaf hx
    · have w2 : out.any (fun g => touchP l.1 g (getR grS groups.1 x1.1)) = false := w2
      rw [w2, cond_false] at hx; exact hx
  · rw [if_neg w3] at hx
    refine Leads.chk ⟨h6, ⟨hin.1, hin.2, h7, (h8 _ hgm).1⟩, fun g hg => (h9 g hg).1⟩ fun _ => Leads.br (fun w2 => Leads.one (Goes.out ?_)) (fun w2 => Leads.one (again _ ?_))
    · have w2 : out.any (fun g => touchP l.1 g (getR grS groups.1 x1.1)) = true := w2
      rw [w2, cond_true] at hx; exact Out_leaf hx
    · have w2 : out.any (fun g => touchP l.1 g (getR grS groups.1 x1.1)) = false := w2
      rw [w2, cond_false] at hx; exact hx
theorem tarrange (l : List (RowE [.int .i64, .str, .str, .str, .int .i64, .str, .str, .str, .int .i64, .str, .str, .str])) (groups : List (RowE [.sl [.int .i64], .sl [.int .i64]])) (reverse : Bool) : evF T (Ez [9] [3, 4] true (EcntG)) (Ln (Larrange)) Try.f19 [.d (.sl [.int .i64, .str, .str, .str, .int .i64, .str, .str, .str, .int .i64, .str, .str, .str] l), .d (.sl [.sl [.int .i64], .sl [.int .i64]] groups), .d (.bool reverse)] =
    chk (szTs l ∧ (∀ (t : RowE t3S), t ∈ l → sz3 (140737488355328 : Nat) t) ∧ groups.length ≤ (2000000 : Nat) ∧ ∀ (g : RowE grS), g ∈ groups → szGp g) (br (checkP l groups != (0 : Int)) (some (SV.val (AV.tup [AV.d (D.sl grS []), AV.d (D.int IntKind.i64 (checkP l groups))]))) (chk ((↑groups.length : Int) = (↑groups.length : Int) ∧ (0 : Int) ≤ (↑groups.length : Int) ∧ (↑groups.length : Int) * (↑(8 : Nat) : Int) < lim) (chk (lkarrange_0 ((reverse, ()), (groups, ()), List.replicate (↑groups.length : Int).toNat (RowE.dflt ([Sh.int IntKind.i64] : List Sh)), ((↑(List.replicate (↑groups.length : Int).toNat (RowE.dflt ([Sh.int IntKind.i64] : List Sh))).length : Int) - (↑(0 : Nat) : Int), ()), ((0 : Int), ()), ())) (chk (lkarrange_1 ((l, ()), (groups, ()), List.take (Int.toNat (0 : Int)) (List.replicate (↑groups.length : Int).toNat (RowE.dflt ([Sh.int IntKind.i64] : List Sh))) ++ List.drop (Int.toNat (0 : Int)) (ordP (List.replicate (↑groups.length : Int).toNat (RowE.dflt ([Sh.int IntKind.i64] : List Sh))).length reverse), [], [], ((↑groups.length : Int), ()), ((0 : Int), ()), ())) (some (SV.val (AV.tup [AV.d (D.sl grS (arrA l groups (List.take (Int.toNat (0 : Int)) (List.replicate (↑groups.length : Int).toNat (RowE.dflt ([Sh.int IntKind.i64] : List Sh))) ++ List.drop (Int.toNat (0 : Int)) (ordP (List.replicate (↑groups.length : Int).toNat (RowE.dflt ([Sh.int IntKind.i64] : List Sh))).length reverse)) ((↑groups.length : Int) - (0 : Int)).toNat [] [])), AV.d (D.int IntKind.i64 (0 : Int))]))))))) := by kernel_rfl
theorem satarrange : Sat P 19 (Sarrange) := by
  refine sat_mk (LT := Ln (Larrange)) hC (SatE.ez (ow := [9]) (fz := [3, 4]) (pr := true) okcntG) mixed Try.func19 (by kernel_rfl) (c := bodyOf Try.f19) (by kernel_rfl) (by kernel_rfl) ?_ (loops3 (by kernel_rfl) (lokarrange_0) (lokarrange_1) (lokarrange_2))
  rintro ⟨⟨(l : List (RowE [.int .i64, .str, .str, .str, .int .i64, .str, .str, .str, .int .i64, .str, .str, .str])), _⟩, ⟨(groups : List (RowE [.sl [.int .i64], .sl [.int .i64]])), _⟩, ⟨(reverse : Bool), _⟩, _⟩ sv h
  refine Leads.eq (Leads.of_eq (tarrange l groups reverse) ?_)
  obtain ⟨⟨h1, h2, h3, h4⟩, h⟩ := h
  obtain rfl := Out_leaf h
  refine Leads.chk ⟨h1, h2, h3, h4⟩ fun _ => Leads.br (fun w => Leads.one ?_) (fun w => ?_)
  · have w : checkP l groups ≠ 0 := by simpa using w
    rw [decide_eq_false w]; rfl
  have w : checkP l groups = 0 := by simpa using w
  have hl : (List.replicate ((groups.length : Int)).toNat (RowE.dflt ([.int .i64] : List Sh))).length = groups.length := by rw [List.length_replicate, Int.toNat_natCast]
  refine Leads.chk ⟨rfl, by omega, by simp only [lim]; omega⟩ fun _ => Leads.chk ⟨by omega, by omega, by omega, by omega, by rw [hl]⟩ fun _ => ?_
  rw [hl, show List.take (Int.toNat (0 : Int)) (List.replicate ((groups.length : Int)).toNat (RowE.dflt ([.int .i64] : List Sh))) ++ List.drop (Int.toNat (0 : Int)) (ordP groups.length reverse) = ordP groups.length reverse from rfl, Int.sub_zero, Int.toNat_natCast]
  refine Leads.chk ⟨by omega, by omega, rfl, h3, by simp, by simp, ⟨h1, h4⟩, ⟨reverse, rfl⟩, by simp⟩ fun _ => Leads.one ?_
  rw [decide_eq_true w, w]; rfl
def Earrange : Es := (19, (Sarrange)) :: EcntG
theorem okarrange : SatE P (En (Earrange)) := SatE.cons (satarrange) okcntG
end Go.Proofs.Ytgcjhcefpkbheaa.T20
