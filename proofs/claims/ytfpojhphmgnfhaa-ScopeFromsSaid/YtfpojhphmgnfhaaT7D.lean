/- Part of a proof of the seat's statements: no statement by itself. -/
import Derived.Test.YtfpojhphmgnfhaaT7C
import Derived.Test.YtfpojhphmgnfhaaSvD
import Derived.Test.YtfpojhphmgnfhaaSortI7
set_option maxRecDepth 100000
open Go.Proofs.Ytfpojhphmgnfhaa.Lg Go Go.Proofs.Ytfpojhphmgnfhaa.Sp
open Go.Proofs
namespace Go.Proofs.Ytfpojhphmgnfhaa.T7


def Esort : Es := (36, .o SSortS) :: Es_results
theorem oksort : SatE P (En Esort) := SatE.consO sat_sortS oks_results
/-! ### legation/scope.Check -/
def Ls_Check : Ls := []
def Ss_Check := mkS [(false, [.sl [.int .i64, .sl [.int .i64, .str, .str, .str, .int .i64, .str, .str, .str, .int .i64, .str, .str, .str], .sl [.str], .sl [.sl [.int .i64, .str, .str, .str]], .sl [.int .i64, .int .i64, .str, .str, .str, .str, .int .i64], .str, .bool]])] fun ⟨⟨(c : List (RowE [.int .i64, .sl [.int .i64, .str, .str, .str, .int .i64, .str, .str, .str, .int .i64, .str, .str, .str], .sl [.str], .sl [.sl [.int .i64, .str, .str, .str]], .sl [.int .i64, .int .i64, .str, .str, .str, .str, .int .i64], .str, .bool])), _⟩, _⟩ => .chk (szC c) (ii (resS c).2)
theorem ts_Check (c : List (RowE [.int .i64, .sl [.int .i64, .str, .str, .str, .int .i64, .str, .str, .str, .int .i64, .str, .str, .str], .sl [.str], .sl [.sl [.int .i64, .str, .str, .str]], .sl [.int .i64, .int .i64, .str, .str, .str, .str, .int .i64], .str, .bool])) : evF T (Ep (Esort)) (Ln (Ls_Check)) Try.f18 [.d (.sl [.int .i64, .sl [.int .i64, .str, .str, .str, .int .i64, .str, .str, .str, .int .i64, .str, .str, .str], .sl [.str], .sl [.sl [.int .i64, .str, .str, .str]], .sl [.int .i64, .int .i64, .str, .str, .str, .str, .int .i64], .str, .bool] c)] =
    chk (szC c) (some (SV.val (AV.d (D.int IntKind.i64 (resS c).snd)))) := by kernel_rfl
theorem sats_Check : Sat P 18 (Ss_Check) := by
  refine sat_mk (LT := Ln (Ls_Check)) hC (SatE.ep oksort) mixed Try.func18 (by kernel_rfl) (c := bodyOf Try.f18) (by kernel_rfl) (by kernel_rfl) ?_ (loops0 (by kernel_rfl))
  rintro ⟨⟨(c : List (RowE [.int .i64, .sl [.int .i64, .str, .str, .str, .int .i64, .str, .str, .str, .int .i64, .str, .str, .str], .sl [.str], .sl [.sl [.int .i64, .str, .str, .str]], .sl [.int .i64, .int .i64, .str, .str, .str, .str, .int .i64], .str, .bool])), _⟩, _⟩ sv h
  refine Leads.eq (Leads.of_eq (ts_Check c) ?_)
  obtain ⟨hc, h⟩ := h
  obtain rfl := Out_leaf h
  exact Leads.chk hc fun _ => Leads.one rfl
def Es_Check : Es := (18, (Ss_Check)) :: Esort
theorem oks_Check : SatE P (En (Es_Check)) := SatE.cons (sats_Check) oksort
/-! ### legation/scope.at -/
def Ls_at : Ls := []
def Ss_at := mkS [(false, [.sl [.int .i64, .sl [.int .i64, .str, .str, .str, .int .i64, .str, .str, .str, .int .i64, .str, .str, .str], .sl [.str], .sl [.sl [.int .i64, .str, .str, .str]], .sl [.int .i64, .int .i64, .str, .str, .str, .str, .int .i64], .str, .bool]]), (false, [.int .i64])] fun ⟨⟨(c : List (RowE [.int .i64, .sl [.int .i64, .str, .str, .str, .int .i64, .str, .str, .str, .int .i64, .str, .str, .str], .sl [.str], .sl [.sl [.int .i64, .str, .str, .str]], .sl [.int .i64, .int .i64, .str, .str, .str, .str, .int .i64], .str, .bool])), _⟩, ⟨(i : Int), _⟩, _⟩ => .chk (szC c) (.leaf (.val (.tup [.agg (rowD rsS (atS c i).1), .d (.int .i64 (atS c i).2)])))
theorem ts_at (c : List (RowE [.int .i64, .sl [.int .i64, .str, .str, .str, .int .i64, .str, .str, .str, .int .i64, .str, .str, .str], .sl [.str], .sl [.sl [.int .i64, .str, .str, .str]], .sl [.int .i64, .int .i64, .str, .str, .str, .str, .int .i64], .str, .bool])) (i : Int) : evF T (Ep (Es_Check)) (Ln (Ls_at)) Try.f35 [.d (.sl [.int .i64, .sl [.int .i64, .str, .str, .str, .int .i64, .str, .str, .str, .int .i64, .str, .str, .str], .sl [.str], .sl [.sl [.int .i64, .str, .str, .str]], .sl [.int .i64, .int .i64, .str, .str, .str, .str, .int .i64], .str, .bool] c), .d (.int .i64 i)] =
    chk (szC c) (br ((resS c).snd != (0 : Int)) (some (SV.val (AV.tup [AV.agg [D.mp Sh.str false [Sh.bool] (CE.dflt (Sh.str.mp false [Sh.bool])), D.int IntKind.i64 (CE.dflt (Sh.int IntKind.i64)), D.bool (CE.dflt Sh.bool)], AV.d (D.int IntKind.i64 (resS c).snd)]))) (br (decide (i < (0 : Int))) (some (SV.val (AV.tup [AV.agg [D.mp Sh.str false [Sh.bool] (CE.dflt (Sh.str.mp false [Sh.bool])), D.int IntKind.i64 (CE.dflt (Sh.int IntKind.i64)), D.bool (CE.dflt Sh.bool)], AV.d (D.int IntKind.i64 (1 : Int))]))) (br (decide (i ≥ (↑c.length : Int))) (some (SV.val (AV.tup [AV.agg [D.mp Sh.str false [Sh.bool] (CE.dflt (Sh.str.mp false [Sh.bool])), D.int IntKind.i64 (CE.dflt (Sh.int IntKind.i64)), D.bool (CE.dflt Sh.bool)], AV.d (D.int IntKind.i64 (1 : Int))]))) (chk ((0 : Int) ≤ i ∧ i < (↑(resS c).fst.length : Int)) (some (SV.val (AV.tup [AV.agg [D.mp Sh.str false [Sh.bool] (getR rsS (resS c).fst i).fst, D.int IntKind.i64 (getR rsS (resS c).fst i).snd.fst, D.bool (getR rsS (resS c).fst i).snd.snd.fst], AV.d (D.int IntKind.i64 (0 : Int))]))))))) := by kernel_rfl
theorem sats_at : Sat P 35 (Ss_at) := by
  refine sat_mk (LT := Ln (Ls_at)) hC (SatE.ep oks_Check) mixed Try.func35 (by kernel_rfl) (c := bodyOf Try.f35) (by kernel_rfl) (by kernel_rfl) ?_ (loops0 (by kernel_rfl))
  rintro ⟨⟨(c : List (RowE [.int .i64, .sl [.int .i64, .str, .str, .str, .int .i64, .str, .str, .str, .int .i64, .str, .str, .str], .sl [.str], .sl [.sl [.int .i64, .str, .str, .str]], .sl [.int .i64, .int .i64, .str, .str, .str, .str, .int .i64], .str, .bool])), _⟩, ⟨(i : Int), _⟩, _⟩ sv h
  refine Leads.eq (Leads.of_eq (ts_at c i) ?_)
  obtain ⟨hc, h⟩ := h
  have h := Out_leaf h
  have fin : ∀ a b, atS c i = (a, b) → (SV.val (.tup [.agg (rowD rsS a), .d (.int .i64 b)])) = sv := fun a b e => by rw [h, e]
  have hi := resS_inv c
  refine Leads.chk hc fun _ => Leads.brN (fun e => Leads.brD (fun q => Leads.one (fin zeroR 1 ?_)) (fun q => Leads.brD (fun q2 => Leads.one (fin zeroR 1 ?_)) (fun q2 => Leads.chk ⟨by omega, ?_⟩ fun _ => Leads.one (fin (getR rsS (resS c).1 i) 0 ?_)))) (fun e => Leads.one (fin zeroR _ ?_))
  · unfold atS; rw [if_neg (by rw [e]; simp), if_pos (.inl q)]
  · unfold atS; rw [if_neg (by rw [e]; simp), if_pos (.inr (by omega))]
  · rw [(hi.2.1 e).1]; omega
  · unfold atS; rw [if_neg (by rw [e]; simp), if_neg (by omega)]
  · unfold atS; rw [if_pos e]
def Es_at : Es := (35, (Ss_at)) :: Es_Check
theorem oks_at : SatE P (En (Es_at)) := SatE.cons (sats_at) oks_Check
/-! ### legation/scope.InScope -/
def lks_InScope_0 : St [.own [.str], .mit .str false [.bool]] → Prop := fun ⟨(out : List (RowE [.str])), (it : List (List UInt8 × RowE [.bool])), _⟩ => out.length + it.length ≤ 100000
def lgs_InScope_0 : St [.own [.str], .mit .str false [.bool]] → MR := fun ⟨(out : List (RowE [.str])), (it : List (List UInt8 × RowE [.bool])), _⟩ => .any (fac it.length) fun i => (.exit 0, [.own [.str] (out ++ (pkN it.length it i).map keyR)])
def lms_InScope_0 : St [.own [.str], .mit .str false [.bool]] → Nat := fun ⟨(out : List (RowE [.str])), (it : List (List UInt8 × RowE [.bool])), _⟩ => it.length
def lss_InScope_0 : LoopS := mkM [8, 18] [8] [] [.own [.str], .mit .str false [.bool]] (fun r => .chk (lks_InScope_0 r) (.leaf (lgs_InScope_0 r)))
def Ls_InScope : Ls := [(4, lss_InScope_0)]
def Ss_InScope := mkS [(false, [.sl [.int .i64, .sl [.int .i64, .str, .str, .str, .int .i64, .str, .str, .str, .int .i64, .str, .str, .str], .sl [.str], .sl [.sl [.int .i64, .str, .str, .str]], .sl [.int .i64, .int .i64, .str, .str, .str, .str, .int .i64], .str, .bool]]), (false, [.int .i64])] fun ⟨⟨(c : List (RowE [.int .i64, .sl [.int .i64, .str, .str, .str, .int .i64, .str, .str, .str, .int .i64, .str, .str, .str], .sl [.str], .sl [.sl [.int .i64, .str, .str, .str]], .sl [.int .i64, .int .i64, .str, .str, .str, .str, .int .i64], .str, .bool])), _⟩, ⟨(i : Int), _⟩, _⟩ => .chk (szC c) (.leaf (.val (.tup [.d (.sl [.str] (keys7 (atS c i).1.1)), .d (.int .i64 (atS c i).2)])))
theorem lts_InScope_0 {R : Type} (K : Ex → List SV → Option R) (A : List SV → Option R) (out : List (RowE [.str])) (it : List (List UInt8 × RowE [.bool])) : evRoundK T (Eo [8] true (Es_at)) (Ln (Ls_InScope)) (loopAt 0 (loops (bodyOf Try.f14))) (lss_InScope_0) [.own [.str] out, .mit .str false [.bool] it none] K A =
    brP (it = []) (K (Ex.exit (0 : Nat)) [SV.own [Sh.str] out]) (anyN it.length fun i => chk (((↑out.length : Int) + (↑[((it.getD i (CE.dflt Sh.str, RowE.dflt [Sh.bool])).fst, ())].length : Int)) * (↑(16 : Nat) : Int) < lim) (A [SV.own [Sh.str] (List.take out.length out ++ [((it.getD i (CE.dflt Sh.str, RowE.dflt [Sh.bool])).fst, ())]), SV.mit Sh.str false [Sh.bool] (it.eraseIdx i) none])) := by kernel_rfl
theorem loks_InScope_0 : LoopOK T (Eo [8] true (Es_at)) (Ln (Ls_InScope)) (loopAt 0 (loops (bodyOf Try.f14))) := by
  refine loop_okM (live := [8, 18]) (outs := [8]) (rets := []) (ks := [.own [.str], .mit .str false [.bool]]) (G := lgs_InScope_0) (lks_InScope_0) (lms_InScope_0) (by kernel_rfl) ?_
  rintro R K A z ⟨(out : List (RowE [.str])), (it : List (List UInt8 × RowE [.bool])), _⟩ hok hA hz
  refine Leads.eq (Leads.of_eq (lts_InScope_0 K A out it) ?_)
  have hok : out.length + it.length ≤ 100000 := hok
  refine Leads.brP (fun e => Leads.is ?_) (fun e => Leads.any (List.length_pos_iff.2 e) fun i hi => ?_)
  · subst e
    have := anyN_some hz 0 (by decide)
    simpa [pkN] using this
  · have hx : it[i]? = some it[i] := List.getElem?_eq_getElem hi
    have hg : it.getD i (CE.dflt Sh.str, RowE.dflt [.bool]) = it[i] := by rw [List.getD_eq_getElem?_getD, hx]; rfl
    rw [hg, List.take_length]
    obtain ⟨n, hn⟩ : ∃ n, it.length = n + 1 := ⟨it.length - 1, by omega⟩
    have hle : (it.eraseIdx i).length = n := by rw [List.length_eraseIdx, if_pos hi]; omega
    refine Leads.chk (by simp only [List.length_cons, List.length_nil, lim]; omega) fun _ => ?_
    refine Leads.is (hA (out ++ [keyR it[i]], it.eraseIdx i, ()) ?_ ?_ ?_)
    · show (out ++ [keyR it[i]]).length + (it.eraseIdx i).length ≤ 100000
      rw [hle, List.length_append]; simp only [List.length_cons, List.length_nil]; omega
    · simp only [lms_InScope_0]; rw [hle, hn]
    · simp only [lgs_InScope_0, MR.run] at hz ⊢
      rw [hle]
      refine anyN_mk (fac_pos _) fun j hj => ?_
      rw [hn] at hz
      have hz := anyN_some hz (j * (n + 1) + i) (fac_step hj (by omega))
      rw [pkN_step i j (by omega) hx] at hz
      rw [List.append_assoc]; exact hz
theorem ts_InScope (c : List (RowE [.int .i64, .sl [.int .i64, .str, .str, .str, .int .i64, .str, .str, .str, .int .i64, .str, .str, .str], .sl [.str], .sl [.sl [.int .i64, .str, .str, .str]], .sl [.int .i64, .int .i64, .str, .str, .str, .str, .int .i64], .str, .bool])) (i : Int) : evF T (Eo [8] true (Es_at)) (Ln (Ls_InScope)) Try.f14 [.d (.sl [.int .i64, .sl [.int .i64, .str, .str, .str, .int .i64, .str, .str, .str, .int .i64, .str, .str, .str], .sl [.str], .sl [.sl [.int .i64, .str, .str, .str]], .sl [.int .i64, .int .i64, .str, .str, .str, .str, .int .i64], .str, .bool] c), .d (.int .i64 i)] =
    chk (szC c) (chk (lks_InScope_0 ([], (atS c i).fst.fst, ())) (anyN (fac (List.length (atS c i).fst.fst)) fun i_1 => chk (([] ++ List.map keyR (pkN (List.length (atS c i).fst.fst) (atS c i).fst.fst i_1)).length < (4611686018427387904 : Nat)) (some (SV.val (AV.tup [AV.d (D.sl [Sh.str] (List.drop (0 : Nat) (List.take (srtS ([] ++ List.map keyR (pkN (List.length (atS c i).fst.fst) (atS c i).fst.fst i_1))).length (srtS ([] ++ List.map keyR (pkN (List.length (atS c i).fst.fst) (atS c i).fst.fst i_1)))))), AV.d (D.int IntKind.i64 (atS c i).snd)]))))) := by kernel_rfl
theorem sats_InScope : Sat P 14 (Ss_InScope) := by
  refine sat_mk (LT := Ln (Ls_InScope)) hC (SatE.eo oks_at) mixed Try.func14 (by kernel_rfl) (c := bodyOf Try.f14) (by kernel_rfl) (by kernel_rfl) ?_ (loops1 (by kernel_rfl) (loks_InScope_0))
  rintro ⟨⟨(c : List (RowE [.int .i64, .sl [.int .i64, .str, .str, .str, .int .i64, .str, .str, .str, .int .i64, .str, .str, .str], .sl [.str], .sl [.sl [.int .i64, .str, .str, .str]], .sl [.int .i64, .int .i64, .str, .str, .str, .str, .int .i64], .str, .bool])), _⟩, ⟨(i : Int), _⟩, _⟩ sv h
  refine Leads.eq (Leads.of_eq (ts_InScope c i) ?_)
  obtain ⟨hc, h⟩ := h
  obtain rfl := Out_leaf h
  have hi := atS_inv c i
  refine Leads.chk hc fun _ => Leads.chk (show ([] : List (RowE [.str])).length + _ ≤ 100000 from by have := hi.2; simp only [List.length_nil]; omega) fun _ => Leads.any (fac_pos _) fun j hj => Leads.chk ?_ fun _ => Leads.one ?_
  · have hp := (pkN_perm _ (atS c i).1.1 j rfl).length_eq
    have := hi.2
    rw [List.nil_append, List.length_map]
    rw [hp]; omega
  · rw [List.drop_zero, List.take_length, List.nil_append, srt_keys hi.1 (pkN_perm _ _ _ rfl)]
def Es_InScope : Es := (14, (Ss_InScope)) :: Es_at
theorem oks_InScope : SatE P (En (Es_InScope)) := SatE.cons (sats_InScope) oks_at
/-! ### legation/scope.Certain -/
def lks_Certain_0 : St [.own [.str], .mit .str false [.bool]] → Prop := fun ⟨(out : List (RowE [.str])), (it : List (List UInt8 × RowE [.bool])), _⟩ => out.length + it.length ≤ 100000
def lgs_Certain_0 : St [.own [.str], .mit .str false [.bool]] → MR := fun ⟨(out : List (RowE [.str])), (it : List (List UInt8 × RowE [.bool])), _⟩ => .any (fac it.length) fun i => (.exit 0, [.own [.str] (out ++ ((pkN it.length it i).filter fun e => e.2.1).map keyR)])
def lms_Certain_0 : St [.own [.str], .mit .str false [.bool]] → Nat := fun ⟨(out : List (RowE [.str])), (it : List (List UInt8 × RowE [.bool])), _⟩ => it.length
def lss_Certain_0 : LoopS := mkM [8, 19] [8] [] [.own [.str], .mit .str false [.bool]] (fun r => .chk (lks_Certain_0 r) (.leaf (lgs_Certain_0 r)))
def Ls_Certain : Ls := [(4, lss_Certain_0)]
def Ss_Certain := mkS [(false, [.sl [.int .i64, .sl [.int .i64, .str, .str, .str, .int .i64, .str, .str, .str, .int .i64, .str, .str, .str], .sl [.str], .sl [.sl [.int .i64, .str, .str, .str]], .sl [.int .i64, .int .i64, .str, .str, .str, .str, .int .i64], .str, .bool]]), (false, [.int .i64])] fun ⟨⟨(c : List (RowE [.int .i64, .sl [.int .i64, .str, .str, .str, .int .i64, .str, .str, .str, .int .i64, .str, .str, .str], .sl [.str], .sl [.sl [.int .i64, .str, .str, .str]], .sl [.int .i64, .int .i64, .str, .str, .str, .str, .int .i64], .str, .bool])), _⟩, ⟨(i : Int), _⟩, _⟩ => .chk (szC c) (.leaf (.val (.tup [.d (.sl [.str] (certs7 (atS c i).1.1)), .d (.int .i64 (atS c i).2)])))
theorem lts_Certain_0 {R : Type} (K : Ex → List SV → Option R) (A : List SV → Option R) (out : List (RowE [.str])) (it : List (List UInt8 × RowE [.bool])) : evRoundK T (Eo [8] true (Es_InScope)) (Ln (Ls_Certain)) (loopAt 0 (loops (bodyOf Try.f15))) (lss_Certain_0) [.own [.str] out, .mit .str false [.bool] it none] K A =
    brP (it = []) (K (Ex.exit (0 : Nat)) [SV.own [Sh.str] out]) (anyN it.length fun i => br (it.getD i (CE.dflt Sh.str, RowE.dflt [Sh.bool])).snd.fst (chk (((↑out.length : Int) + (↑[((it.getD i (CE.dflt Sh.str, RowE.dflt [Sh.bool])).fst, ())].length : Int)) * (↑(16 : Nat) : Int) < lim) (A [SV.own [Sh.str] (List.take out.length out ++ [((it.getD i (CE.dflt Sh.str, RowE.dflt [Sh.bool])).fst, ())]), SV.mit Sh.str false [Sh.bool] (it.eraseIdx i) none])) (A [SV.own [Sh.str] out, SV.mit Sh.str false [Sh.bool] (it.eraseIdx i) none])) := by kernel_rfl
theorem loks_Certain_0 : LoopOK T (Eo [8] true (Es_InScope)) (Ln (Ls_Certain)) (loopAt 0 (loops (bodyOf Try.f15))) := by
  refine loop_okM (live := [8, 19]) (outs := [8]) (rets := []) (ks := [.own [.str], .mit .str false [.bool]]) (G := lgs_Certain_0) (lks_Certain_0) (lms_Certain_0) (by kernel_rfl) ?_
  rintro R K A z ⟨(out : List (RowE [.str])), (it : List (List UInt8 × RowE [.bool])), _⟩ hok hA hz
  refine Leads.eq (Leads.of_eq (lts_Certain_0 K A out it) ?_)
  have hok : out.length + it.length ≤ 100000 := hok
  refine Leads.brP (fun e => Leads.is ?_) (fun e => Leads.any (List.length_pos_iff.2 e) fun i hi => ?_)
  · subst e
    have := anyN_some hz 0 (by decide)
    simpa [pkN] using this
  · have hx : it[i]? = some it[i] := List.getElem?_eq_getElem hi
    have hg : it.getD i (CE.dflt Sh.str, RowE.dflt [.bool]) = it[i] := by rw [List.getD_eq_getElem?_getD, hx]; rfl
    rw [hg, List.take_length]
    obtain ⟨n, hn⟩ : ∃ n, it.length = n + 1 := ⟨it.length - 1, by omega⟩
    have hle : (it.eraseIdx i).length = n := by rw [List.length_eraseIdx, if_pos hi]; omega
    have go : ∀ out' : List (RowE [.str]), out ++ ((it[i] :: it.eraseIdx i).filter fun e => e.2.1).map keyR = out' ++ ((it.eraseIdx i).filter fun e => e.2.1).map keyR → (∀ j, out ++ ((pkN (n + 1) it (j * (n + 1) + i)).filter fun e => e.2.1).map keyR = out' ++ ((pkN n (it.eraseIdx i) j).filter fun e => e.2.1).map keyR) → out'.length ≤ out.length + 1 → A (St.svs [.own [.str], .mit .str false [.bool]] (out', it.eraseIdx i, ())) = some z := fun out' _ e2 e3 => by
      refine hA (out', it.eraseIdx i, ()) ?_ ?_ ?_
      · show out'.length + (it.eraseIdx i).length ≤ 100000
        rw [hle]; omega
      · simp only [lms_Certain_0]; rw [hle, hn]
      · simp only [lgs_Certain_0, MR.run] at hz ⊢
        rw [hle]
        refine anyN_mk (fac_pos _) fun j hj => ?_
        rw [hn] at hz
        have hz := anyN_some hz (j * (n + 1) + i) (fac_step hj (by omega))
        rw [← e2 j]; exact hz
    refine Leads.br (fun w => Leads.chk (by simp only [List.length_cons, List.length_nil, lim]; omega) fun _ => Leads.is (go (out ++ [keyR it[i]]) ?_ (fun j => ?_) ?_)) (fun w => Leads.is (go out ?_ (fun j => ?_) ?_))
    · have w : it[i].2.1 = true := w
      rw [List.filter_cons, if_pos w, List.map_cons, List.append_assoc]; rfl
    · have w : it[i].2.1 = true := w
      rw [pkN_step i j (by omega) hx, List.filter_cons, if_pos w, List.map_cons, List.append_assoc]; rfl
    · rw [List.length_append]; simp
    · have w : it[i].2.1 = false := w
      rw [List.filter_cons, if_neg (by rw [w]; simp)]
    · have w : it[i].2.1 = false := w
      rw [pkN_step i j (by omega) hx, List.filter_cons, if_neg (by rw [w]; simp)]
    · omega
theorem ts_Certain (c : List (RowE [.int .i64, .sl [.int .i64, .str, .str, .str, .int .i64, .str, .str, .str, .int .i64, .str, .str, .str], .sl [.str], .sl [.sl [.int .i64, .str, .str, .str]], .sl [.int .i64, .int .i64, .str, .str, .str, .str, .int .i64], .str, .bool])) (i : Int) : evF T (Eo [8] true (Es_InScope)) (Ln (Ls_Certain)) Try.f15 [.d (.sl [.int .i64, .sl [.int .i64, .str, .str, .str, .int .i64, .str, .str, .str, .int .i64, .str, .str, .str], .sl [.str], .sl [.sl [.int .i64, .str, .str, .str]], .sl [.int .i64, .int .i64, .str, .str, .str, .str, .int .i64], .str, .bool] c), .d (.int .i64 i)] =
    chk (szC c) (chk (lks_Certain_0 ([], (atS c i).fst.fst, ())) (anyN (fac (List.length (atS c i).fst.fst)) fun i_1 => chk (([] ++ List.map keyR (List.filter (fun e => e.snd.fst) (pkN (List.length (atS c i).fst.fst) (atS c i).fst.fst i_1))).length < (4611686018427387904 : Nat)) (some (SV.val (AV.tup [AV.d (D.sl [Sh.str] (List.drop (0 : Nat) (List.take (srtS ([] ++ List.map keyR (List.filter (fun e => e.snd.fst) (pkN (List.length (atS c i).fst.fst) (atS c i).fst.fst i_1)))).length (srtS ([] ++ List.map keyR (List.filter (fun e => e.snd.fst) (pkN (List.length (atS c i).fst.fst) (atS c i).fst.fst i_1))))))), AV.d (D.int IntKind.i64 (atS c i).snd)]))))) := by kernel_rfl
theorem sats_Certain : Sat P 15 (Ss_Certain) := by
  refine sat_mk (LT := Ln (Ls_Certain)) hC (SatE.eo oks_InScope) mixed Try.func15 (by kernel_rfl) (c := bodyOf Try.f15) (by kernel_rfl) (by kernel_rfl) ?_ (loops1 (by kernel_rfl) (loks_Certain_0))
  rintro ⟨⟨(c : List (RowE [.int .i64, .sl [.int .i64, .str, .str, .str, .int .i64, .str, .str, .str, .int .i64, .str, .str, .str], .sl [.str], .sl [.sl [.int .i64, .str, .str, .str]], .sl [.int .i64, .int .i64, .str, .str, .str, .str, .int .i64], .str, .bool])), _⟩, ⟨(i : Int), _⟩, _⟩ sv h
  refine Leads.eq (Leads.of_eq (ts_Certain c i) ?_)
  obtain ⟨hc, h⟩ := h
  obtain rfl := Out_leaf h
  have hi := atS_inv c i
  refine Leads.chk hc fun _ => Leads.chk (show ([] : List (RowE [.str])).length + _ ≤ 100000 from by have := hi.2; simp only [List.length_nil]; omega) fun _ => Leads.any (fac_pos _) fun j hj => Leads.chk ?_ fun _ => Leads.one ?_
  · have hp := (pkN_perm _ (atS c i).1.1 j rfl).length_eq
    have := hi.2
    rw [List.nil_append, List.length_map]
    exact Nat.lt_of_le_of_lt (List.length_filter_le _ _) (by rw [hp]; omega)
  · rw [List.drop_zero, List.take_length, List.nil_append, srt_certs hi.1 (pkN_perm _ _ _ rfl)]
def Es_Certain : Es := (15, (Ss_Certain)) :: Es_InScope
theorem oks_Certain : SatE P (En (Es_Certain)) := SatE.cons (sats_Certain) oks_InScope
/-! ### legation/scope.From -/
def Ls_From : Ls := []
def Ss_From := mkS [(false, [.sl [.int .i64, .sl [.int .i64, .str, .str, .str, .int .i64, .str, .str, .str, .int .i64, .str, .str, .str], .sl [.str], .sl [.sl [.int .i64, .str, .str, .str]], .sl [.int .i64, .int .i64, .str, .str, .str, .str, .int .i64], .str, .bool]]), (false, [.int .i64])] fun ⟨⟨(c : List (RowE [.int .i64, .sl [.int .i64, .str, .str, .str, .int .i64, .str, .str, .str, .int .i64, .str, .str, .str], .sl [.str], .sl [.sl [.int .i64, .str, .str, .str]], .sl [.int .i64, .int .i64, .str, .str, .str, .str, .int .i64], .str, .bool])), _⟩, ⟨(i : Int), _⟩, _⟩ => .chk (szC c) (.leaf (.val (.tup [.d (.int .i64 (atS c i).1.2.1), .d (.int .i64 (atS c i).2)])))
theorem ts_From (c : List (RowE [.int .i64, .sl [.int .i64, .str, .str, .str, .int .i64, .str, .str, .str, .int .i64, .str, .str, .str], .sl [.str], .sl [.sl [.int .i64, .str, .str, .str]], .sl [.int .i64, .int .i64, .str, .str, .str, .str, .int .i64], .str, .bool])) (i : Int) : evF T (Ep (Es_Certain)) (Ln (Ls_From)) Try.f20 [.d (.sl [.int .i64, .sl [.int .i64, .str, .str, .str, .int .i64, .str, .str, .str, .int .i64, .str, .str, .str], .sl [.str], .sl [.sl [.int .i64, .str, .str, .str]], .sl [.int .i64, .int .i64, .str, .str, .str, .str, .int .i64], .str, .bool] c), .d (.int .i64 i)] =
    chk (szC c) (some (SV.val (AV.tup [AV.d (D.int IntKind.i64 (atS c i).fst.snd.fst), AV.d (D.int IntKind.i64 (atS c i).snd)]))) := by kernel_rfl
theorem sats_From : Sat P 20 (Ss_From) := by
  refine sat_mk (LT := Ln (Ls_From)) hC (SatE.ep oks_Certain) mixed Try.func20 (by kernel_rfl) (c := bodyOf Try.f20) (by kernel_rfl) (by kernel_rfl) ?_ (loops0 (by kernel_rfl))
  rintro ⟨⟨(c : List (RowE [.int .i64, .sl [.int .i64, .str, .str, .str, .int .i64, .str, .str, .str, .int .i64, .str, .str, .str], .sl [.str], .sl [.sl [.int .i64, .str, .str, .str]], .sl [.int .i64, .int .i64, .str, .str, .str, .str, .int .i64], .str, .bool])), _⟩, ⟨(i : Int), _⟩, _⟩ sv h
  refine Leads.eq (Leads.of_eq (ts_From c i) ?_)
  obtain ⟨hc, h⟩ := h
  obtain rfl := Out_leaf h
  exact Leads.chk hc fun _ => Leads.one rfl
def Es_From : Es := (20, (Ss_From)) :: Es_Certain
theorem oks_From : SatE P (En (Es_From)) := SatE.cons (sats_From) oks_Certain
end Go.Proofs.Ytfpojhphmgnfhaa.T7
