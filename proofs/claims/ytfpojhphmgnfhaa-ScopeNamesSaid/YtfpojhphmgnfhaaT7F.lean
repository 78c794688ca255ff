/- Part of a proof of the seat's statements: no statement by itself. -/
import Derived.Test.YtfpojhphmgnfhaaT7E
import Derived.Test.YtfpojhphmgnfhaaSvF
set_option maxRecDepth 100000
open Go.Proofs.Ytfpojhphmgnfhaa.Lg Go Go.Proofs.Ytfpojhphmgnfhaa.Sp
open Go.Proofs
namespace Go.Proofs.Ytfpojhphmgnfhaa.T7


/-! ### legation/legationlaw07.ScopeCertain -/
def lkl_Certain_0 : St [.v false [.sl [.str]], .v false [.sl [.str]], .v false [.int .i64]] → Prop := fun ⟨⟨(l : List (RowE [.str])), _⟩, ⟨(m : List (RowE [.str])), _⟩, ⟨(k : Int), _⟩, _⟩ => 0 ≤ k ∧ k ≤ (m.length : Int) ∧ m.length ≤ 16384 ∧ l.length ≤ 16384 ∧ asc m ∧ ∀ x ∈ m, hasS l x.1 = true
def lgl_Certain_0 : St [.v false [.sl [.str]], .v false [.sl [.str]], .v false [.int .i64]] → Tr (Ex × List SV) := fun ⟨⟨(l : List (RowE [.str])), _⟩, ⟨(m : List (RowE [.str])), _⟩, ⟨(k : Int), _⟩, _⟩ => .leaf (.exit 0, [.val (.d (.sl [.str] (l)))])
def lml_Certain_0 : St [.v false [.sl [.str]], .v false [.sl [.str]], .v false [.int .i64]] → Nat := fun ⟨⟨(l : List (RowE [.str])), _⟩, ⟨(m : List (RowE [.str])), _⟩, ⟨(k : Int), _⟩, _⟩ => m.length - k.toNat
def lsl_Certain_0 : LoopS := mkR [5, 7, 9] [5] [4] [.v false [.sl [.str]], .v false [.sl [.str]], .v false [.int .i64]] (fun r => .chk (lkl_Certain_0 r) (lgl_Certain_0 r))
def lkl_Certain_1 : St [.v false [.sl [.str]], .v false [.int .i64]] → Prop := fun ⟨⟨(l : List (RowE [.str])), _⟩, ⟨(k : Int), _⟩, _⟩ => 1 ≤ k ∧ k ≤ 20000 ∧ l.length ≤ 16384 ∧ asc l
def lgl_Certain_1 : St [.v false [.sl [.str]], .v false [.int .i64]] → Tr (Ex × List SV) := fun ⟨⟨(l : List (RowE [.str])), _⟩, ⟨(k : Int), _⟩, _⟩ => .leaf (.exit 2, [])
def lml_Certain_1 : St [.v false [.sl [.str]], .v false [.int .i64]] → Nat := fun ⟨⟨(l : List (RowE [.str])), _⟩, ⟨(k : Int), _⟩, _⟩ => l.length - k.toNat
def lsl_Certain_1 : LoopS := mkR [5, 10] [] [4] [.v false [.sl [.str]], .v false [.int .i64]] (fun r => .chk (lkl_Certain_1 r) (lgl_Certain_1 r))
def Ll_Certain : Ls := [(6, lsl_Certain_0), (11, lsl_Certain_1)]
def Sl_Certain := mkS [(false, [.sl [.int .i64, .sl [.int .i64, .str, .str, .str, .int .i64, .str, .str, .str, .int .i64, .str, .str, .str], .sl [.str], .sl [.sl [.int .i64, .str, .str, .str]], .sl [.int .i64, .int .i64, .str, .str, .str, .str, .int .i64], .str, .bool]]), (false, [.int .i64])] fun ⟨⟨(c : List (RowE [.int .i64, .sl [.int .i64, .str, .str, .str, .int .i64, .str, .str, .str, .int .i64, .str, .str, .str], .sl [.str], .sl [.sl [.int .i64, .str, .str, .str]], .sl [.int .i64, .int .i64, .str, .str, .str, .str, .int .i64], .str, .bool])), _⟩, ⟨(i : Int), _⟩, _⟩ => .chk (szC c) (bl true)
theorem ltl_Certain_0 (l : List (RowE [.str])) (m : List (RowE [.str])) (k : Int) : evRound T (Ep (El_Rights)) (Ln (Ll_Certain)) (loopAt 0 (loops (bodyOf Try.f5))) (lsl_Certain_0) [.val (.d (.sl [.str] l)), .val (.d (.sl [.str] m)), .val (.d (.int .i64 k))] =
    br (decide (k < (↑m.length : Int))) (chk ((0 : Int) ≤ k ∧ k < (↑m.length : Int)) (chk (l.length ≤ (140737488355328 : Nat)) (br (!hasS l (getR [Sh.str] m k).fst) (some (Rnd.out Ex.ret [SV.val (AV.d (D.bool false))])) (br (decide (k > (0 : Int))) (chk ((0 : Int) ≤ k ∧ k < (↑m.length : Int)) (chk ((0 : Int) ≤ IntKind.i64.wrap (k - (1 : Int)) ∧ IntKind.i64.wrap (k - (1 : Int)) < (↑m.length : Int)) (br (bytesLess (getR [Sh.str] m k).fst (getR [Sh.str] m (IntKind.i64.wrap (k - (1 : Int)))).fst || (getR [Sh.str] m k).fst == (getR [Sh.str] m (IntKind.i64.wrap (k - (1 : Int)))).fst) (some (Rnd.out Ex.ret [SV.val (AV.d (D.bool false))])) (some (Rnd.again [SV.val (AV.d (D.sl [Sh.str] l)), SV.val (AV.d (D.sl [Sh.str] m)), SV.val (AV.d (D.int IntKind.i64 (IntKind.i64.wrap (k + (1 : Int)))))]))))) (some (Rnd.again [SV.val (AV.d (D.sl [Sh.str] l)), SV.val (AV.d (D.sl [Sh.str] m)), SV.val (AV.d (D.int IntKind.i64 (IntKind.i64.wrap (k + (1 : Int)))))])))))) (some (Rnd.out (Ex.exit (0 : Nat)) [SV.val (AV.d (D.sl [Sh.str] l))])) := by kernel_rfl
theorem lokl_Certain_0 : LoopOK T (Ep (El_Rights)) (Ln (Ll_Certain)) (loopAt 0 (loops (bodyOf Try.f5))) := by
  refine loop_ok (live := [5, 7, 9]) (outs := [5]) (rets := [4]) (ks := [.v false [.sl [.str]], .v false [.sl [.str]], .v false [.int .i64]]) (G := lgl_Certain_0) (lkl_Certain_0) (lml_Certain_0) (by kernel_rfl) ?_
  rintro ⟨⟨(l : List (RowE [.str])), _⟩, ⟨(m : List (RowE [.str])), _⟩, ⟨(k : Int), _⟩, _⟩ x hok hx
  refine Leads.of_eq (ltl_Certain_0 l m k) ?_
  obtain ⟨h0, h1, h2, h3, h4, h5⟩ := hok
  obtain ⟨n, rfl⟩ := Int.eq_ofNat_of_zero_le h0
  rcases Nat.lt_or_ge n m.length with hlt | hge
  · have hb := List.getElem?_eq_getElem hlt
    have hin : hasS l (getR [.str] m (n : Int)).1 = true := by rw [getR_of hb]; exact h5 _ (List.getElem_mem hlt)
    have go : Goes [.v false [.sl [.str]], .v false [.sl [.str]], .v false [.int .i64]] lgl_Certain_0 lkl_Certain_0 lml_Certain_0 ((l, ()), (m, ()), ((n : Int), ()), ()) x (.again (St.svs [.v false [.sl [.str]], .v false [.sl [.str]], .v false [.int .i64]] ((l, ()), (m, ()), ((n : Int) + 1, ()), ()))) := by
      refine Goes.again (ks := [.v false [.sl [.str]], .v false [.sl [.str]], .v false [.int .i64]]) _ rfl ?_ ?_ ?_
      · exact ⟨by omega, by omega, h2, h3, h4, h5⟩
      · simp only [lml_Certain_0]; omega
      · exact hx
    rw [wrap64 (x := (n : Int) + 1) (by omega) (by omega), wrap64 (x := (n : Int) - 1) (by omega) (by omega), hin]
    refine Leads.brD (fun _ => Leads.chk ⟨by omega, by omega⟩ fun _ => Leads.chk (by omega) fun _ => Leads.brD (fun w => Leads.chk ⟨by omega, by omega⟩ fun _ => Leads.chk ⟨by omega, by omega⟩ fun _ => Leads.br (fun q => ?_) (fun _ => Leads.one go)) (fun _ => Leads.one go)) (fun q => by omega)
    obtain ⟨n, rfl⟩ : ∃ k, n = k + 1 := ⟨n - 1, by omega⟩
    have e : (((n + 1 : Nat) : Int) - 1) = ((n : Nat) : Int) := by omega
    rw [e, bl_not (asc_at h4 (Nat.lt_succ_self n) hlt)] at q
    cases q
  · exact Leads.brD (fun q => by omega) (fun _ => Leads.one (Goes.out (Out_leaf hx)))
theorem ltl_Certain_1 (l : List (RowE [.str])) (k : Int) : evRound T (Ep (El_Rights)) (Ln (Ll_Certain)) (loopAt 1 (loops (bodyOf Try.f5))) (lsl_Certain_1) [.val (.d (.sl [.str] l)), .val (.d (.int .i64 k))] =
    br (decide (k < (↑l.length : Int))) (chk ((0 : Int) ≤ k ∧ k < (↑l.length : Int)) (chk ((0 : Int) ≤ IntKind.i64.wrap (k - (1 : Int)) ∧ IntKind.i64.wrap (k - (1 : Int)) < (↑l.length : Int)) (br (bytesLess (getR [Sh.str] l k).fst (getR [Sh.str] l (IntKind.i64.wrap (k - (1 : Int)))).fst || (getR [Sh.str] l k).fst == (getR [Sh.str] l (IntKind.i64.wrap (k - (1 : Int)))).fst) (some (Rnd.out Ex.ret [SV.val (AV.d (D.bool false))])) (some (Rnd.again [SV.val (AV.d (D.sl [Sh.str] l)), SV.val (AV.d (D.int IntKind.i64 (IntKind.i64.wrap (k + (1 : Int)))))]))))) (some (Rnd.out (Ex.exit (2 : Nat)) [])) := by kernel_rfl
theorem lokl_Certain_1 : LoopOK T (Ep (El_Rights)) (Ln (Ll_Certain)) (loopAt 1 (loops (bodyOf Try.f5))) := by
  refine loop_ok (live := [5, 10]) (outs := []) (rets := [4]) (ks := [.v false [.sl [.str]], .v false [.int .i64]]) (G := lgl_Certain_1) (lkl_Certain_1) (lml_Certain_1) (by kernel_rfl) ?_
  rintro ⟨⟨(l : List (RowE [.str])), _⟩, ⟨(k : Int), _⟩, _⟩ x hok hx
  refine Leads.of_eq (ltl_Certain_1 l k) ?_
  obtain ⟨h0, h1, h3, h4⟩ := hok
  obtain ⟨n, rfl⟩ := Int.eq_ofNat_of_zero_le (show (0 : Int) ≤ k by omega)
  rcases Nat.lt_or_ge n l.length with hlt | hge
  · rw [wrap64 (x := (n : Int) + 1) (by omega) (by omega), wrap64 (x := (n : Int) - 1) (by omega) (by omega)]
    refine Leads.brD (fun _ => Leads.chk ⟨by omega, by omega⟩ fun _ => Leads.chk ⟨by omega, by omega⟩ fun _ => Leads.br (fun q => ?_) (fun _ => Leads.one ?_)) (fun q => by omega)
    · obtain ⟨n, rfl⟩ : ∃ k, n = k + 1 := ⟨n - 1, by omega⟩
      have e : (((n + 1 : Nat) : Int) - 1) = ((n : Nat) : Int) := by omega
      rw [e, bl_not (asc_at h4 (Nat.lt_succ_self n) hlt)] at q
      cases q
    · refine Goes.again (ks := [.v false [.sl [.str]], .v false [.int .i64]]) ((_, ()), (_, ()), ()) rfl ?_ ?_ ?_
      · exact ⟨by omega, by omega, h3, h4⟩
      · simp only [lml_Certain_1]; omega
      · exact hx
  · exact Leads.brD (fun q => by omega) (fun _ => Leads.one (Goes.out (Out_leaf hx)))
theorem tl_Certain (c : List (RowE [.int .i64, .sl [.int .i64, .str, .str, .str, .int .i64, .str, .str, .str, .int .i64, .str, .str, .str], .sl [.str], .sl [.sl [.int .i64, .str, .str, .str]], .sl [.int .i64, .int .i64, .str, .str, .str, .str, .int .i64], .str, .bool])) (i : Int) : evF T (Ep (El_Rights)) (Ln (Ll_Certain)) Try.f5 [.d (.sl [.int .i64, .sl [.int .i64, .str, .str, .str, .int .i64, .str, .str, .str, .int .i64, .str, .str, .str], .sl [.str], .sl [.sl [.int .i64, .str, .str, .str]], .sl [.int .i64, .int .i64, .str, .str, .str, .str, .int .i64], .str, .bool] c), .d (.int .i64 i)] =
    chk (szC c) (chk (szC c) (br ((atS c i).snd != (atS c i).snd) (some (SV.val (AV.d (D.bool false)))) (chk (lkl_Certain_0 ((keys7 (atS c i).fst.fst, ()), (certs7 (atS c i).fst.fst, ()), ((0 : Int), ()), ())) (chk (lkl_Certain_1 ((keys7 (atS c i).fst.fst, ()), ((1 : Int), ()), ())) (some (SV.val (AV.d (D.bool true)))))))) := by kernel_rfl
theorem satl_Certain : Sat P 5 (Sl_Certain) := by
  refine sat_mk (LT := Ln (Ll_Certain)) hC (SatE.ep okl_Rights) mixed Try.func5 (by kernel_rfl) (c := bodyOf Try.f5) (by kernel_rfl) (by kernel_rfl) ?_ (loops2 (by kernel_rfl) (lokl_Certain_0) (lokl_Certain_1))
  rintro ⟨⟨(c : List (RowE [.int .i64, .sl [.int .i64, .str, .str, .str, .int .i64, .str, .str, .str, .int .i64, .str, .str, .str], .sl [.str], .sl [.sl [.int .i64, .str, .str, .str]], .sl [.int .i64, .int .i64, .str, .str, .str, .str, .int .i64], .str, .bool])), _⟩, ⟨(i : Int), _⟩, _⟩ sv h
  refine Leads.eq (Leads.of_eq (tl_Certain c i) ?_)
  obtain ⟨hc, h⟩ := h
  obtain rfl := Out_leaf h
  obtain ⟨hs, hl⟩ := atS_inv c i
  have h1 := keys_len (atS c i).1.1
  have h2 := certs_len (atS c i).1.1
  refine Leads.chk hc fun _ => Leads.chk hc fun _ => Leads.brN (fun _ => Leads.chk ⟨by omega, by omega, by omega, by omega, certs_asc hs, fun x hx => has_keys hx⟩ fun _ => Leads.chk ⟨by omega, by omega, by omega, keys_asc hs⟩ fun _ => Leads.one rfl) (fun q => absurd rfl q)
def El_Certain : Es := (5, (Sl_Certain)) :: El_Rights
theorem okl_Certain : SatE P (En (El_Certain)) := SatE.cons (satl_Certain) okl_Rights
end Go.Proofs.Ytfpojhphmgnfhaa.T7
