/- Part of a proof of the seat's statements: no statement by itself. -/
import Derived.Test.YtoopcfjmmhmamaaT6H
import Derived.Test.YtoopcfjmmhmamaaSpX
set_option maxRecDepth 100000
open Go.Proofs.Ytoopcfjmmhmamaa.Lg Go Go.Proofs.Ytoopcfjmmhmamaa.Sp
open Go.Proofs
namespace Go.Proofs.Ytoopcfjmmhmamaa.T6


/-! ### legation/legationref06.Same -/
def lkr_Same_0 : St [.v false [.sl [.int .i64, .int .i64, .str, .str, .str, .str, .int .i64]], .v false [.sl [.int .i64, .int .i64, .str, .str, .str, .str, .int .i64]], .v false [.int .i64]] → Prop := fun ⟨⟨(a : List (RowE [.int .i64, .int .i64, .str, .str, .str, .str, .int .i64])), _⟩, ⟨(b : List (RowE [.int .i64, .int .i64, .str, .str, .str, .str, .int .i64])), _⟩, ⟨(i : Int), _⟩, _⟩ => a = b ∧ 0 ≤ i ∧ i ≤ a.length ∧ a.length ≤ 1000000
def lgr_Same_0 : St [.v false [.sl [.int .i64, .int .i64, .str, .str, .str, .str, .int .i64]], .v false [.sl [.int .i64, .int .i64, .str, .str, .str, .str, .int .i64]], .v false [.int .i64]] → Tr (Ex × List SV) := fun ⟨⟨(a : List (RowE [.int .i64, .int .i64, .str, .str, .str, .str, .int .i64])), _⟩, ⟨(b : List (RowE [.int .i64, .int .i64, .str, .str, .str, .str, .int .i64])), _⟩, ⟨(i : Int), _⟩, _⟩ => .leaf (.exit 0, [])
def lmr_Same_0 : St [.v false [.sl [.int .i64, .int .i64, .str, .str, .str, .str, .int .i64]], .v false [.sl [.int .i64, .int .i64, .str, .str, .str, .str, .int .i64]], .v false [.int .i64]] → Nat := fun ⟨⟨(a : List (RowE [.int .i64, .int .i64, .str, .str, .str, .str, .int .i64])), _⟩, ⟨(b : List (RowE [.int .i64, .int .i64, .str, .str, .str, .str, .int .i64])), _⟩, ⟨(i : Int), _⟩, _⟩ => a.length - i.toNat
def lsr_Same_0 : LoopS := mkR [0, 1, 5] [] [4] [.v false [.sl [.int .i64, .int .i64, .str, .str, .str, .str, .int .i64]], .v false [.sl [.int .i64, .int .i64, .str, .str, .str, .str, .int .i64]], .v false [.int .i64]] (fun r => .chk (lkr_Same_0 r) (lgr_Same_0 r))
def Lr_Same : Ls := [(4, lsr_Same_0)]
def Sr_Same := mkS [(false, [.sl [.int .i64, .int .i64, .str, .str, .str, .str, .int .i64]]), (false, [.sl [.int .i64, .int .i64, .str, .str, .str, .str, .int .i64]])] fun ⟨⟨(a : List (RowE [.int .i64, .int .i64, .str, .str, .str, .str, .int .i64])), _⟩, ⟨(b : List (RowE [.int .i64, .int .i64, .str, .str, .str, .str, .int .i64])), _⟩, _⟩ => .chk (a = b ∧ a.length ≤ 1000000) (bl true)
theorem ltr_Same_0 (a : List (RowE [.int .i64, .int .i64, .str, .str, .str, .str, .int .i64])) (b : List (RowE [.int .i64, .int .i64, .str, .str, .str, .str, .int .i64])) (i : Int) : evRound T (Ep (El5)) (Ln (Lr_Same)) (loopAt 0 (loops (bodyOf Try.f16))) (lsr_Same_0) [.val (.d (.sl [.int .i64, .int .i64, .str, .str, .str, .str, .int .i64] a)), .val (.d (.sl [.int .i64, .int .i64, .str, .str, .str, .str, .int .i64] b)), .val (.d (.int .i64 i))] =
    br (decide (i < (↑a.length : Int))) (chk ((0 : Int) ≤ i ∧ i < (↑a.length : Int)) (chk ((0 : Int) ≤ i ∧ i < (↑b.length : Int)) (br (!((getR ptS a i).fst == (getR ptS b i).fst && ((getR ptS a i).snd.fst == (getR ptS b i).snd.fst && ((getR ptS a i).snd.snd.fst == (getR ptS b i).snd.snd.fst && ((getR ptS a i).snd.snd.snd.fst == (getR ptS b i).snd.snd.snd.fst && ((getR ptS a i).snd.snd.snd.snd.fst == (getR ptS b i).snd.snd.snd.snd.fst && ((getR ptS a i).snd.snd.snd.snd.snd.fst == (getR ptS b i).snd.snd.snd.snd.snd.fst && (getR ptS a i).snd.snd.snd.snd.snd.snd.fst == (getR ptS b i).snd.snd.snd.snd.snd.snd.fst))))))) (some (Rnd.out Ex.ret [SV.val (AV.d (D.bool false))])) (some (Rnd.again [SV.val (AV.d (D.sl ptS a)), SV.val (AV.d (D.sl ptS b)), SV.val (AV.d (D.int IntKind.i64 (IntKind.i64.wrap (i + (1 : Int)))))]))))) (some (Rnd.out (Ex.exit (0 : Nat)) [])) := by kernel_rfl
theorem lokr_Same_0 : LoopOK T (Ep (El5)) (Ln (Lr_Same)) (loopAt 0 (loops (bodyOf Try.f16))) := by
  refine loop_ok (live := [0, 1, 5]) (outs := []) (rets := [4]) (ks := [.v false [.sl [.int .i64, .int .i64, .str, .str, .str, .str, .int .i64]], .v false [.sl [.int .i64, .int .i64, .str, .str, .str, .str, .int .i64]], .v false [.int .i64]]) (G := lgr_Same_0) (lkr_Same_0) (lmr_Same_0) (by kernel_rfl) ?_
  rintro ⟨⟨(a : List (RowE [.int .i64, .int .i64, .str, .str, .str, .str, .int .i64])), _⟩, ⟨(b : List (RowE [.int .i64, .int .i64, .str, .str, .str, .str, .int .i64])), _⟩, ⟨(i : Int), _⟩, _⟩ x hok hx
  refine Leads.of_eq (ltr_Same_0 a b i) ?_
  obtain ⟨e, h0, h1, hl⟩ := hok
  have e : a = b := e
  subst e
  obtain rfl := Out_leaf hx
  obtain ⟨i, rfl⟩ := Int.eq_ofNat_of_zero_le h0
  rw [wrap64 (by omega) (by omega)]
  refine Leads.brD (fun lt => Leads.chk ⟨h0, lt⟩ fun _ => Leads.chk ⟨h0, lt⟩ fun _ => Leads.brG (fun _ => Leads.one ?_) (fun z => ?_)) (fun ge => Leads.one (Goes.out rfl))
  · refine Goes.again (ks := [.v false [.sl [.int .i64, .int .i64, .str, .str, .str, .str, .int .i64]], .v false [.sl [.int .i64, .int .i64, .str, .str, .str, .str, .int .i64]], .v false [.int .i64]]) ((a, ()), (a, ()), ((i : Int) + 1, ()), ()) rfl ?_ ?_ ?_
    · exact ⟨rfl, (by omega : 0 ≤ (i : Int) + 1), (by omega : (i : Int) + 1 ≤ (a.length : Int)), hl⟩
    · show a.length - ((i : Int) + 1).toNat < a.length - (i : Int).toNat
      simp only [toNat_add1, Int.toNat_natCast]; omega
    · rfl
  · exfalso
    simp at z
theorem tr_Same (a : List (RowE [.int .i64, .int .i64, .str, .str, .str, .str, .int .i64])) (b : List (RowE [.int .i64, .int .i64, .str, .str, .str, .str, .int .i64])) : evF T (Ep (El5)) (Ln (Lr_Same)) Try.f16 [.d (.sl [.int .i64, .int .i64, .str, .str, .str, .str, .int .i64] a), .d (.sl [.int .i64, .int .i64, .str, .str, .str, .str, .int .i64] b)] =
    br ((↑a.length : Int) != (↑b.length : Int)) (some (SV.val (AV.d (D.bool false)))) (chk (lkr_Same_0 ((a, ()), (b, ()), ((0 : Int), ()), ())) (some (SV.val (AV.d (D.bool true))))) := by kernel_rfl
theorem satr_Same : Sat P 16 (Sr_Same) := by
  refine sat_mk (LT := Ln (Lr_Same)) hC (SatE.ep okl5) mixed Try.func16 (by kernel_rfl) (c := bodyOf Try.f16) (by kernel_rfl) (by kernel_rfl) ?_ (loops1 (by kernel_rfl) (lokr_Same_0))
  rintro ⟨⟨(a : List (RowE [.int .i64, .int .i64, .str, .str, .str, .str, .int .i64])), _⟩, ⟨(b : List (RowE [.int .i64, .int .i64, .str, .str, .str, .str, .int .i64])), _⟩, _⟩ sv h
  refine Leads.eq (Leads.of_eq (tr_Same a b) ?_)
  obtain ⟨⟨e, hl⟩, h⟩ := h
  have h := Out_leaf h
  have e : a = b := e
  subst e
  subst h
  exact Leads.brN (fun _ => Leads.chk ⟨rfl, by decide, Int.natCast_nonneg _, hl⟩ fun _ => Leads.one rfl) (fun z => absurd rfl z)
def Er_Same : Es := (16, (Sr_Same)) :: El5
theorem okr_Same : SatE P (En (Er_Same)) := SatE.cons (satr_Same) okl5
/-! ### legation/legationlaw06.FormulaBack -/
def Ll6 : Ls := []
def Sl6 := mkS [(false, [.sl [.int .i64, .int .i64, .str, .str, .str, .str, .int .i64]])] fun ⟨⟨(f : List (RowE [.int .i64, .int .i64, .str, .str, .str, .str, .int .i64])), _⟩, _⟩ => .chk (allPt f) (bl true)
theorem tl6 (f : List (RowE [.int .i64, .int .i64, .str, .str, .str, .str, .int .i64])) : evF T (Ep (Er_Same)) (Ln (Ll6)) Try.f5 [.d (.sl [.int .i64, .int .i64, .str, .str, .str, .str, .int .i64] f)] =
    chk (allPt f) (br (checkS f != (0 : Int)) (br ((if checkS f = (0 : Int) then textF f else []) == []) (some (SV.val (AV.d (D.bool true)))) (some (SV.val (AV.d (D.bool false))))) (chk ((if checkS f = (0 : Int) then textF f else []).length ≤ (140737488351232 : Nat)) (br ((lexS (if checkS f = (0 : Int) then textF f else [])).snd.snd != (0 : Int)) (br (decide ((↑(if checkS f = (0 : Int) then textF f else []).length : Int) > (4096 : Int))) (some (SV.val (AV.d (D.bool true)))) (some (SV.val (AV.d (D.bool false))))) (chk ((0 : Int) ≤ (0 : Int) ∧ (0 : Int) ≤ (↑(lexS (if checkS f = (0 : Int) then textF f else [])).fst.length : Int) → (lexS (if checkS f = (0 : Int) then textF f else [])).fst.length ≤ (900000000000 : Nat) ∧ allPt (pfW (0 : Int) ((lexS (if checkS f = (0 : Int) then textF f else [])).fst, (0 : Int), [], false, ())).snd.snd.fst) (br ((parseS (lexS (if checkS f = (0 : Int) then textF f else [])).fst (0 : Int)).snd.snd == (0 : Int)) (br ((parseS (lexS (if checkS f = (0 : Int) then textF f else [])).fst (0 : Int)).snd.fst == (↑(lexS (if checkS f = (0 : Int) then textF f else [])).fst.length : Int)) (chk (f = (parseS (lexS (if checkS f = (0 : Int) then textF f else [])).fst (0 : Int)).fst ∧ f.length ≤ (1000000 : Nat)) (some (SV.val (AV.d (D.bool true))))) (some (SV.val (AV.d (D.bool false))))) (some (SV.val (AV.d (D.bool false))))))))) := by kernel_rfl
theorem satl6 : Sat P 5 (Sl6) := by
  refine sat_mk (LT := Ln (Ll6)) hC (SatE.ep okr_Same) mixed Try.func5 (by kernel_rfl) (c := bodyOf Try.f5) (by kernel_rfl) (by kernel_rfl) ?_ (loops0 (by kernel_rfl))
  rintro ⟨⟨(f : List (RowE [.int .i64, .int .i64, .str, .str, .str, .str, .int .i64])), _⟩, _⟩ sv h
  refine Leads.eq (Leads.of_eq (tl6 f) ?_)
  obtain ⟨ha, h⟩ := h
  have h := Out_leaf h
  subst h
  refine Leads.chk ha fun _ => Leads.brN (fun c => ?_) (fun c => ?_)
  · have c : checkS f = 0 := c
    simp only [if_pos c]
    have hl := checkS_len c
    have ht := text_len c
    refine Leads.chk (by omega) fun _ => Leads.brN (fun w => ?_) (fun w => ?_)
    · have w : (lexS (textF f)).2.2 = 0 := w
      obtain ⟨b1, b2⟩ := back_ok c w
      have b3 := lexS_len (textF f)
      refine Leads.chk (fun _ => ⟨by omega, by rw [b1]; exact ha⟩) fun _ => ?_
      rw [b2]
      exact Leads.brE (fun _ => Leads.brE (fun _ => Leads.chk ⟨rfl, by omega⟩ fun _ => Leads.one rfl) (fun z => absurd rfl z)) (fun z => absurd rfl z)
    · have w : ¬ (lexS (textF f)).2.2 = 0 := w
      have := back_long c w
      exact Leads.brD (fun _ => Leads.one rfl) (fun z => absurd (show ((textF f).length : Int) > 4096 by omega) z)
  · have c : ¬ checkS f = 0 := c
    exact Leads.brE (fun _ => Leads.one rfl) (fun z => absurd (if_neg c) z)
def El6 : Es := (5, (Sl6)) :: Er_Same
theorem okl6 : SatE P (En (El6)) := SatE.cons (satl6) okr_Same
end Go.Proofs.Ytoopcfjmmhmamaa.T6
