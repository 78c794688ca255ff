/- Part of a proof of the seat's statements: no statement by itself. -/
import Derived.Test.YtgcjhcefpkbheaaQ20
import Derived.Test.YtgcjhcefpkbheaaSwA
set_option maxRecDepth 100000
open Go.Proofs.Ytgcjhcefpkbheaa.Lg Go Go.Proofs.Ytgcjhcefpkbheaa.Sp
open Go.Proofs
namespace Go.Proofs.Ytgcjhcefpkbheaa.T20


/-! ### slices.Clone[[]int,int] -/
def LcloneI : Ls := []
def ScloneI := mkS [(false, [.sl [.int .i64]])] fun ⟨⟨(s : List (RowE [.int .i64])), _⟩, _⟩ => .chk (s.length ≤ 2000000) (.leaf (.app [.int .i64] s))
theorem tcloneI (s : List (RowE [.int .i64])) : evF T (Ep (Et_Vars)) (Ln (LcloneI)) Try.f26 [.d (.sl [.int .i64] s)] =
    brP (s = []) (anyN (2 : Nat) fun j => br (j.beq (0 : Nat)) (some (SV.app [Sh.int IntKind.i64] [])) (chk (((↑(List.nil (α := RowE [.int .u8])).length : Int) + (↑s.length : Int)) * (↑(8 : Nat) : Int) < lim) (some (SV.app [Sh.int IntKind.i64] ([] ++ s))))) (chk (((↑(List.nil (α := RowE [.int .u8])).length : Int) + (↑s.length : Int)) * (↑(8 : Nat) : Int) < lim) (some (SV.app [Sh.int IntKind.i64] ([] ++ s)))) := by kernel_rfl
theorem satcloneI : Sat P 26 (ScloneI) := by
  refine sat_mk (LT := Ln (LcloneI)) hC (SatE.ep okt_Vars) mixed Try.func26 (by kernel_rfl) (c := bodyOf Try.f26) (by kernel_rfl) (by kernel_rfl) ?_ (loops0 (by kernel_rfl))
  rintro ⟨⟨(s : List (RowE [.int .i64])), _⟩, _⟩ sv h
  refine Leads.eq (Leads.of_eq (tcloneI s) ?_)
  obtain ⟨hs, h⟩ := h
  obtain rfl := Out_leaf h
  refine Leads.brP (fun e => Leads.any (by decide) fun i hi => Leads.br (fun _ => Leads.one ?_) (fun _ => Leads.chk (by simp only [lim, List.length_append, List.length_cons, List.length_nil, List.length_take]; omega) fun _ => Leads.one rfl)) (fun e => Leads.chk (by simp only [lim, List.length_append, List.length_cons, List.length_nil, List.length_take]; omega) fun _ => Leads.one rfl)
  rw [e]
def EcloneI : Es := (26, (ScloneI)) :: Et_Vars
theorem okcloneI : SatE P (En (EcloneI)) := SatE.cons (satcloneI) okt_Vars
/-! ### legation/sources.vars -/
def lkvars_0 : St [.v false [.sl [.int .i64, .str, .str, .str, .int .i64, .str, .str, .str, .int .i64, .str, .str, .str]], .a [.str], .v false [.sl [.int .i64]], .v false [.int .i64], .v false [.int .i64]] → Prop := fun ⟨⟨(l : List (RowE [.int .i64, .str, .str, .str, .int .i64, .str, .str, .str, .int .i64, .str, .str, .str])), _⟩, (out : List (RowE [.str])), ⟨(x9 : List (RowE [.int .i64])), _⟩, ⟨(x10 : Int), _⟩, ⟨(x11 : Int), _⟩, _⟩ => 0 ≤ x11 ∧ x11 ≤ x10 ∧ x10 = (x9.length : Int) ∧ x9.length ≤ 2000000 ∧ (out.length : Int) ≤ 3 * x11
def lgvars_0 : St [.v false [.sl [.int .i64, .str, .str, .str, .int .i64, .str, .str, .str, .int .i64, .str, .str, .str]], .a [.str], .v false [.sl [.int .i64]], .v false [.int .i64], .v false [.int .i64]] → Tr (Ex × List SV) := fun ⟨⟨(l : List (RowE [.int .i64, .str, .str, .str, .int .i64, .str, .str, .str, .int .i64, .str, .str, .str])), _⟩, (out : List (RowE [.str])), ⟨(x9 : List (RowE [.int .i64])), _⟩, ⟨(x10 : Int), _⟩, ⟨(x11 : Int), _⟩, _⟩ => .leaf (.exit 0, [.app [.str] (out ++ varsG l (x9.drop x11.toNat))])
def lmvars_0 : St [.v false [.sl [.int .i64, .str, .str, .str, .int .i64, .str, .str, .str, .int .i64, .str, .str, .str]], .a [.str], .v false [.sl [.int .i64]], .v false [.int .i64], .v false [.int .i64]] → Nat := fun ⟨⟨(l : List (RowE [.int .i64, .str, .str, .str, .int .i64, .str, .str, .str, .int .i64, .str, .str, .str])), _⟩, (out : List (RowE [.str])), ⟨(x9 : List (RowE [.int .i64])), _⟩, ⟨(x10 : Int), _⟩, ⟨(x11 : Int), _⟩, _⟩ => x9.length - x11.toNat
def lsvars_0 : LoopS := mkR [0, 5, 9, 10, 11] [5] [] [.v false [.sl [.int .i64, .str, .str, .str, .int .i64, .str, .str, .str, .int .i64, .str, .str, .str]], .a [.str], .v false [.sl [.int .i64]], .v false [.int .i64], .v false [.int .i64]] (fun r => .chk (lkvars_0 r) (lgvars_0 r))
def Lvars : Ls := [(3, lsvars_0)]
def Svars := mkS [(false, [.sl [.int .i64, .str, .str, .str, .int .i64, .str, .str, .str, .int .i64, .str, .str, .str]]), (true, grS)] fun ⟨⟨(l : List (RowE [.int .i64, .str, .str, .str, .int .i64, .str, .str, .str, .int .i64, .str, .str, .str])), _⟩, (g : RowE grS), _⟩ => .chk (g.1.length ≤ 2000000 ∧ l.length ≤ 2000000) (.leaf (.app [.str] (varsG l g.1)))
theorem ltvars_0 (l : List (RowE [.int .i64, .str, .str, .str, .int .i64, .str, .str, .str, .int .i64, .str, .str, .str])) (out : List (RowE [.str])) (x9 : List (RowE [.int .i64])) (x10 : Int) (x11 : Int) : evRound T (Ep (EcloneI)) (Ln (Lvars)) (loopAt 0 (loops (bodyOf Try.f36))) (lsvars_0) [.val (.d (.sl [.int .i64, .str, .str, .str, .int .i64, .str, .str, .str, .int .i64, .str, .str, .str] l)), .app [.str] out, .val (.d (.sl [.int .i64] x9)), .val (.d (.int .i64 x10)), .val (.d (.int .i64 x11))] =
    br (decide (x11 < x10)) (chk ((0 : Int) ≤ x11 ∧ x11 < (↑x9.length : Int)) (br (decide ((getR [Sh.int IntKind.i64] x9 x11).fst ≥ (0 : Int))) (br (decide ((getR [Sh.int IntKind.i64] x9 x11).fst < (↑l.length : Int))) (chk ((0 : Int) ≤ (getR [Sh.int IntKind.i64] x9 x11).fst ∧ (getR [Sh.int IntKind.i64] x9 x11).fst < (↑l.length : Int)) (chk (((↑out.length : Int) + (↑(varsS (getR t3S l (getR [Sh.int IntKind.i64] x9 x11).fst)).length : Int)) * (↑(16 : Nat) : Int) < lim) (some (Rnd.again [SV.val (AV.d (D.sl t3S l)), SV.app [Sh.str] (out ++ varsS (getR t3S l (getR [Sh.int IntKind.i64] x9 x11).fst)), SV.val (AV.d (D.sl [Sh.int IntKind.i64] x9)), SV.val (AV.d (D.int IntKind.i64 x10)), SV.val (AV.d (D.int IntKind.i64 (IntKind.i64.wrap (x11 + (1 : Int)))))])))) (some (Rnd.again [SV.val (AV.d (D.sl t3S l)), SV.app [Sh.str] out, SV.val (AV.d (D.sl [Sh.int IntKind.i64] x9)), SV.val (AV.d (D.int IntKind.i64 x10)), SV.val (AV.d (D.int IntKind.i64 (IntKind.i64.wrap (x11 + (1 : Int)))))]))) (some (Rnd.again [SV.val (AV.d (D.sl t3S l)), SV.app [Sh.str] out, SV.val (AV.d (D.sl [Sh.int IntKind.i64] x9)), SV.val (AV.d (D.int IntKind.i64 x10)), SV.val (AV.d (D.int IntKind.i64 (IntKind.i64.wrap (x11 + (1 : Int)))))])))) (some (Rnd.out (Ex.exit (0 : Nat)) [SV.app [Sh.str] out])) := by kernel_rfl
theorem lokvars_0 : LoopOK T (Ep (EcloneI)) (Ln (Lvars)) (loopAt 0 (loops (bodyOf Try.f36))) := by
  refine loop_ok (live := [0, 5, 9, 10, 11]) (outs := [5]) (rets := []) (ks := [.v false [.sl [.int .i64, .str, .str, .str, .int .i64, .str, .str, .str, .int .i64, .str, .str, .str]], .a [.str], .v false [.sl [.int .i64]], .v false [.int .i64], .v false [.int .i64]]) (G := lgvars_0) (lkvars_0) (lmvars_0) (by kernel_rfl) ?_
  rintro ⟨⟨(l : List (RowE [.int .i64, .str, .str, .str, .int .i64, .str, .str, .str, .int .i64, .str, .str, .str])), _⟩, (out : List (RowE [.str])), ⟨(x9 : List (RowE [.int .i64])), _⟩, ⟨(x10 : Int), _⟩, ⟨(x11 : Int), _⟩, _⟩ x hok hx
  refine Leads.of_eq (ltvars_0 l out x9 x10 x11) ?_
  obtain ⟨h0, h1, h2, h3, h4⟩ := hok
  obtain ⟨m, rfl⟩ := Int.eq_ofNat_of_zero_le h0
  simp only [lgvars_0, Int.toNat_natCast] at hx
  rcases drop_cases x9 m with ⟨hle, hd⟩ | ⟨x1, hlt, hd, hb⟩
  · rw [hd] at hx
    exact Leads.brD (fun q => by omega) (fun _ => Leads.one (Goes.out (by have := Out_leaf hx; simp only [varsG, List.append_nil] at this; exact this)))
  rw [hd] at hx
  simp only [varsG] at hx
  rw [getR_of hb, wrap64 (x := (m : Int) + 1) (by omega) (by omega)]
  have h5 := varsS_len (getR tpS l x1.1)
  have no : ¬ (0 ≤ (x1.1 : Int) ∧ (x1.1 : Int) < l.length) → Goes [.v false [.sl [.int .i64, .str, .str, .str, .int .i64, .str, .str, .str, .int .i64, .str, .str, .str]], .a [.str], .v false [.sl [.int .i64]], .v false [.int .i64], .v false [.int .i64]] lgvars_0 lkvars_0 lmvars_0 ((l, ()), out, (x9, ()), (x10, ()), ((m : Int), ()), ()) x (.again (St.svs [.v false [.sl [.int .i64, .str, .str, .str, .int .i64, .str, .str, .str, .int .i64, .str, .str, .str]], .a [.str], .v false [.sl [.int .i64]], .v false [.int .i64], .v false [.int .i64]] ((l, ()), out, (x9, ()), (x10, ()), ((m : Int) + 1, ()), ()))) := fun hno => by
    refine Goes.again (ks := [.v false [.sl [.int .i64, .str, .str, .str, .int .i64, .str, .str, .str, .int .i64, .str, .str, .str]], .a [.str], .v false [.sl [.int .i64]], .v false [.int .i64], .v false [.int .i64]]) _ rfl ?_ ?_ ?_
    · exact ⟨by omega, by omega, h2, h3, by omega⟩
    · simp only [lmvars_0]; omega
    · simp only [lgvars_0, toNat_add1]
      rw [if_neg hno, List.nil_append] at hx; exact hx
  refine Leads.brD (fun _ => Leads.chk (by omega) fun _ => Leads.brD (fun p => Leads.brD (fun q => Leads.chk ⟨p, q⟩ fun _ => Leads.chk (by have h5 : (varsS (getR t3S l x1.1)).length ≤ 3 := h5; simp only [lim]; omega) fun _ => Leads.one ?_) (fun q => Leads.one (no fun z => q z.2))) (fun p => Leads.one (no fun z => p z.1))) (fun q => by omega)
  refine Goes.again (ks := [.v false [.sl [.int .i64, .str, .str, .str, .int .i64, .str, .str, .str, .int .i64, .str, .str, .str]], .a [.str], .v false [.sl [.int .i64]], .v false [.int .i64], .v false [.int .i64]]) ((_, ()), _, (_, ()), (_, ()), (_, ()), ()) rfl ?_ ?_ ?_
  · exact ⟨by omega, by omega, h2, h3, by rw [List.length_append]; have h5 : (varsS (getR t3S l x1.1)).length ≤ 3 := h5; omega⟩
  · simp only [lmvars_0]; omega
  · simp only [lgvars_0, toNat_add1]
    rw [if_pos ⟨p, q⟩, ← List.append_assoc] at hx; exact hx
theorem tvars (l : List (RowE [.int .i64, .str, .str, .str, .int .i64, .str, .str, .str, .int .i64, .str, .str, .str])) (g : RowE grS) : evF T (Ep (EcloneI)) (Ln (Lvars)) Try.f36 [.d (.sl [.int .i64, .str, .str, .str, .int .i64, .str, .str, .str, .int .i64, .str, .str, .str] l), .agg (rowD grS g)] =
    chk (lkvars_0 ((l, ()), [], (g.fst, ()), ((↑(List.length g.fst) : Int), ()), ((0 : Int), ()), ())) (some (SV.app [Sh.str] ([] ++ varsG l (List.drop (Int.toNat (0 : Int)) g.fst)))) := by kernel_rfl
theorem satvars : Sat P 36 (Svars) := by
  refine sat_mk (LT := Ln (Lvars)) hC (SatE.ep okcloneI) mixed Try.func36 (by kernel_rfl) (c := bodyOf Try.f36) (by kernel_rfl) (by kernel_rfl) ?_ (loops1 (by kernel_rfl) (lokvars_0))
  rintro ⟨⟨(l : List (RowE [.int .i64, .str, .str, .str, .int .i64, .str, .str, .str, .int .i64, .str, .str, .str])), _⟩, (g : RowE grS), _⟩ sv h
  refine Leads.eq (Leads.of_eq (tvars l g) ?_)
  obtain ⟨⟨h1, h2⟩, h⟩ := h
  obtain rfl := Out_leaf h
  exact Leads.chk ⟨by omega, Int.natCast_nonneg _, rfl, h1, by simp⟩ fun _ => Leads.one rfl
def Evars : Es := (36, (Svars)) :: EcloneI
theorem okvars : SatE P (En (Evars)) := SatE.cons (satvars) okcloneI
/-! ### legation/sources.Touch$1 -/
def Ltouch1 : Ls := []
def Stouch1 := mkO [false, false] [.v false [.str], .pt [.sl [.str]]] fun ⟨⟨(v : List UInt8), _⟩, (x1 : RowE [.sl [.str]]), _⟩ => .chk ((x1.1 : List (RowE [.str])).length ≤ 140737488355328) (.leaf (.val (.d (.bool (hasS x1.1 v))), []))
theorem ttouch1 (v : List UInt8) (x1 : RowE [.sl [.str]]) : evFO T (Ep (Evars)) (Ln (Ltouch1)) Try.f38 [.val (.d (.str  v)), .at (rowD [.sl [.str]] x1)] =
    chk (List.length x1.fst ≤ (140737488355328 : Nat)) (some (SV.val (AV.d (D.bool (hasS x1.fst v))), [])) := by kernel_rfl
theorem sattouch1 : SatO P 38 (Stouch1) := by
  refine sat_mkO (LT := Ln (Ltouch1)) hC (SatE.ep okvars) mixed Try.func38 (by kernel_rfl) (c := bodyOf Try.f38) (by kernel_rfl) (by kernel_rfl) ?_ (loops0 (by kernel_rfl))
  rintro ⟨⟨(v : List UInt8), _⟩, (x1 : RowE [.sl [.str]]), _⟩ sv h
  refine Leads.eq (Leads.of_eq (ttouch1 v x1) ?_)
  obtain ⟨h1, h⟩ := h
  obtain rfl := Out_leaf h
  exact Leads.chk h1 fun _ => Leads.one rfl
def Etouch1 : Es := (38, .o (Stouch1)) :: Evars
theorem oktouch1 : SatE P (En (Etouch1)) := SatE.consO (sattouch1) okvars
/-! ### slices.IndexFunc[[]string,string] -/
def lkidxF_0 : St [.v false [.sl [.str]], .fc 38 [[.sl [.str]]], .v false [.int .i64], .v false [.int .i64]] → Prop := fun ⟨⟨(s : List (RowE [.str])), _⟩, (f : Caps [[.sl [.str]]]), ⟨(x7 : Int), _⟩, ⟨(x8 : Int), _⟩, _⟩ => 0 ≤ x8 ∧ x8 ≤ x7 ∧ x7 = (s.length : Int) ∧ s.length ≤ 140737488355328 ∧ (f.1.1 : List (RowE [.str])).length ≤ 140737488355328
def lgidxF_0 : St [.v false [.sl [.str]], .fc 38 [[.sl [.str]]], .v false [.int .i64], .v false [.int .i64]] → Tr (Ex × List SV) := fun ⟨⟨(s : List (RowE [.str])), _⟩, (f : Caps [[.sl [.str]]]), ⟨(x7 : Int), _⟩, ⟨(x8 : Int), _⟩, _⟩ => .br ((s.drop x8.toNat).any fun v => hasS f.1.1 v.1) (.leaf (.ret, [.val (.d (.int .i64 (firstF (fun v => hasS f.1.1 v.1) (s.drop x8.toNat) x8)))])) (.leaf (.exit 0, []))
def lmidxF_0 : St [.v false [.sl [.str]], .fc 38 [[.sl [.str]]], .v false [.int .i64], .v false [.int .i64]] → Nat := fun ⟨⟨(s : List (RowE [.str])), _⟩, (f : Caps [[.sl [.str]]]), ⟨(x7 : Int), _⟩, ⟨(x8 : Int), _⟩, _⟩ => s.length - x8.toNat
def lsidxF_0 : LoopS := mkR [0, 1, 7, 8] [] [4] [.v false [.sl [.str]], .fc 38 [[.sl [.str]]], .v false [.int .i64], .v false [.int .i64]] (fun r => .chk (lkidxF_0 r) (lgidxF_0 r))
def LidxF : Ls := [(2, lsidxF_0)]
def SidxF := mkO [false, false] [.v false [.sl [.str]], .fc 38 [[.sl [.str]]]] fun ⟨⟨(s : List (RowE [.str])), _⟩, (f : Caps [[.sl [.str]]]), _⟩ => .chk (s.length ≤ 140737488355328 ∧ (f.1.1 : List (RowE [.str])).length ≤ 140737488355328) (.leaf (.val (.d (.int .i64 (firstF (fun v => hasS f.1.1 v.1) s 0))), []))
theorem ltidxF_0 (s : List (RowE [.str])) (f : Caps [[.sl [.str]]]) (x7 : Int) (x8 : Int) : evRound T (Ep (Etouch1)) (Ln (LidxF)) (loopAt 0 (loops (bodyOf Try.f51))) (lsidxF_0) [.val (.d (.sl [.str] s)), .val (.fn 38 (Caps.avs [[.sl [.str]]] f)), .val (.d (.int .i64 x7)), .val (.d (.int .i64 x8))] =
    br (decide (x8 < x7)) (chk ((0 : Int) ≤ x8 ∧ x8 < (↑s.length : Int)) (chk (List.length f.fst.fst ≤ (140737488355328 : Nat)) (br (hasS f.fst.fst (getR [Sh.str] s x8).fst) (some (Rnd.out Ex.ret [SV.val (AV.d (D.int IntKind.i64 x8))])) (some (Rnd.again [SV.val (AV.d (D.sl [Sh.str] s)), SV.val (AV.fn (38 : Nat) [AV.pt [D.sl [Sh.str] f.fst.fst]]), SV.val (AV.d (D.int IntKind.i64 x7)), SV.val (AV.d (D.int IntKind.i64 (IntKind.i64.wrap (x8 + (1 : Int)))))]))))) (some (Rnd.out (Ex.exit (0 : Nat)) [])) := by kernel_rfl
theorem lokidxF_0 : LoopOK T (Ep (Etouch1)) (Ln (LidxF)) (loopAt 0 (loops (bodyOf Try.f51))) := by
  refine loop_ok (live := [0, 1, 7, 8]) (outs := []) (rets := [4]) (ks := [.v false [.sl [.str]], .fc 38 [[.sl [.str]]], .v false [.int .i64], .v false [.int .i64]]) (G := lgidxF_0) (lkidxF_0) (lmidxF_0) (by kernel_rfl) ?_
  rintro ⟨⟨(s : List (RowE [.str])), _⟩, (f : Caps [[.sl [.str]]]), ⟨(x7 : Int), _⟩, ⟨(x8 : Int), _⟩, _⟩ x hok hx
  refine Leads.of_eq (ltidxF_0 s f x7 x8) ?_
  obtain ⟨h0, h1, h2, h3, h4⟩ := hok
  obtain ⟨m, rfl⟩ := Int.eq_ofNat_of_zero_le h0
  simp only [lgidxF_0, Int.toNat_natCast] at hx
  rcases drop_cases s m with ⟨hle, hd⟩ | ⟨x1, hlt, hd, hb⟩
  · rw [hd] at hx
    exact Leads.brD (fun q => by omega) (fun _ => Leads.one (Goes.out (Out_leaf (Out_ff hx))))
  rw [hd, firstF, List.any_cons] at hx
  rw [getR_of hb, wrap64 (by omega) (by omega)]
  refine Leads.brD (fun _ => Leads.chk (by omega) fun _ => Leads.chk h4 fun _ => Leads.br (fun w => Leads.one (Goes.out ?_)) (fun w => Leads.one ?_)) (fun q => by omega)
  · have w : hasS f.1.1 x1.1 = true := w
    rw [if_pos w, w, Bool.true_or] at hx
    exact Out_leaf (Out_tt hx)
  · have w : hasS f.1.1 x1.1 = false := w
    rw [if_neg (by rw [w]; simp), w, Bool.false_or] at hx
    refine Goes.again (ks := [.v false [.sl [.str]], .fc 38 [[.sl [.str]]], .v false [.int .i64], .v false [.int .i64]]) ((_, ()), _, (_, ()), (_, ()), ()) rfl ?_ ?_ ?_
    · exact ⟨by omega, by omega, h2, h3, h4⟩
    · simp only [lmidxF_0]; omega
    · simp only [lgidxF_0, toNat_add1]; exact hx
theorem tidxF (s : List (RowE [.str])) (f : Caps [[.sl [.str]]]) : evFO T (Ep (Etouch1)) (Ln (LidxF)) Try.f51 [.val (.d (.sl [.str] s)), .val (.fn 38 (Caps.avs [[.sl [.str]]] f))] =
    chk (lkidxF_0 ((s, ()), f, ((↑s.length : Int), ()), ((0 : Int), ()), ())) (br ((List.drop (Int.toNat (0 : Int)) s).any fun v => hasS f.fst.fst v.fst) (some (SV.val (AV.d (D.int IntKind.i64 (firstF (fun v => hasS f.fst.fst v.fst) (List.drop (Int.toNat (0 : Int)) s) (0 : Int)))), [])) (some (SV.val (AV.d (D.int IntKind.i64 (-1 : Int))), []))) := by kernel_rfl
theorem satidxF : SatO P 51 (SidxF) := by
  refine sat_mkO (LT := Ln (LidxF)) hC (SatE.ep oktouch1) mixed Try.func51 (by kernel_rfl) (c := bodyOf Try.f51) (by kernel_rfl) (by kernel_rfl) ?_ (loops1 (by kernel_rfl) (lokidxF_0))
  rintro ⟨⟨(s : List (RowE [.str])), _⟩, (f : Caps [[.sl [.str]]]), _⟩ sv h
  refine Leads.eq (Leads.of_eq (tidxF s f) ?_)
  obtain ⟨⟨h1, h2⟩, h⟩ := h
  obtain rfl := Out_leaf h
  refine Leads.chk ⟨by omega, Int.natCast_nonneg _, rfl, h1, h2⟩ fun _ => Leads.br (fun q => Leads.one rfl) (fun q => Leads.one ?_)
  have q : (s.any fun v => hasS f.1.1 v.1) = false := q
  rw [firstF_neg _ s 0 (by omega) (of_decide_eq_false ((firstF_ge _ s 0 (by omega)).trans q))]
def EidxF : Es := (51, .o (SidxF)) :: Etouch1
theorem okidxF : SatE P (En (EidxF)) := SatE.consO (satidxF) oktouch1
/-! ### slices.ContainsFunc[[]string,string] -/
def LcntF : Ls := []
def ScntF := mkO [false, false] [.v false [.sl [.str]], .fc 38 [[.sl [.str]]]] fun ⟨⟨(s : List (RowE [.str])), _⟩, (f : Caps [[.sl [.str]]]), _⟩ => .chk (s.length ≤ 140737488355328 ∧ (f.1.1 : List (RowE [.str])).length ≤ 140737488355328) (.leaf (.val (.d (.bool (s.any fun v => hasS f.1.1 v.1))), []))
theorem tcntF (s : List (RowE [.str])) (f : Caps [[.sl [.str]]]) : evFO T (Ep (EidxF)) (Ln (LcntF)) Try.f37 [.val (.d (.sl [.str] s)), .val (.fn 38 (Caps.avs [[.sl [.str]]] f))] =
    chk (s.length ≤ (140737488355328 : Nat) ∧ List.length f.fst.fst ≤ (140737488355328 : Nat)) (some (SV.val (AV.d (D.bool (decide (firstF (fun v => hasS f.fst.fst v.fst) s (0 : Int) ≥ (0 : Int))))), [])) := by kernel_rfl
theorem satcntF : SatO P 37 (ScntF) := by
  refine sat_mkO (LT := Ln (LcntF)) hC (SatE.ep okidxF) mixed Try.func37 (by kernel_rfl) (c := bodyOf Try.f37) (by kernel_rfl) (by kernel_rfl) ?_ (loops0 (by kernel_rfl))
  rintro ⟨⟨(s : List (RowE [.str])), _⟩, (f : Caps [[.sl [.str]]]), _⟩ sv h
  refine Leads.eq (Leads.of_eq (tcntF s f) ?_)
  obtain ⟨h1, h⟩ := h
  obtain rfl := Out_leaf h
  refine Leads.chk h1 fun _ => Leads.one ?_
  rw [firstF_ge _ s 0 (by omega)]
def EcntF : Es := (37, .o (ScntF)) :: EidxF
theorem okcntF : SatE P (En (EcntF)) := SatE.consO (satcntF) okidxF
/-! ### legation/sources.Touch -/
def Ltouch : Ls := []
def Stouch := mkS [(false, [.sl [.int .i64, .str, .str, .str, .int .i64, .str, .str, .str, .int .i64, .str, .str, .str]]), (true, grS), (true, grS)] fun ⟨⟨(l : List (RowE [.int .i64, .str, .str, .str, .int .i64, .str, .str, .str, .int .i64, .str, .str, .str])), _⟩, (a : RowE grS), (b : RowE grS), _⟩ => .chk (szTs l ∧ szGr a ∧ szGr b) (.leaf (.val (.d (.bool (touchP l a b)))))
theorem ttouch (l : List (RowE [.int .i64, .str, .str, .str, .int .i64, .str, .str, .str, .int .i64, .str, .str, .str])) (a : RowE grS) (b : RowE grS) : evF T (Ep (EcntF)) (Ln (Ltouch)) Try.f21 [.d (.sl [.int .i64, .str, .str, .str, .int .i64, .str, .str, .str, .int .i64, .str, .str, .str] l), .agg (rowD grS a), .agg (rowD grS b)] =
    chk (List.length b.fst ≤ (2000000 : Nat) ∧ l.length ≤ (2000000 : Nat)) (chk (List.length a.fst ≤ (2000000 : Nat) ∧ l.length ≤ (2000000 : Nat)) (chk ((varsG l a.fst).length ≤ (140737488355328 : Nat) ∧ (varsG l b.fst).length ≤ (140737488355328 : Nat)) (some (SV.val (AV.d (D.bool ((varsG l a.fst).any fun v => hasS ((varsG l b.fst, ()), ()).fst.fst v.fst))))))) := by kernel_rfl
theorem sattouch : Sat P 21 (Stouch) := by
  refine sat_mk (LT := Ln (Ltouch)) hC (SatE.ep okcntF) mixed Try.func21 (by kernel_rfl) (c := bodyOf Try.f21) (by kernel_rfl) (by kernel_rfl) ?_ (loops0 (by kernel_rfl))
  rintro ⟨⟨(l : List (RowE [.int .i64, .str, .str, .str, .int .i64, .str, .str, .str, .int .i64, .str, .str, .str])), _⟩, (a : RowE grS), (b : RowE grS), _⟩ sv h
  refine Leads.eq (Leads.of_eq (ttouch l a b) ?_)
  obtain ⟨⟨h0, h1, h2⟩, h⟩ := h
  obtain rfl := Out_leaf h
  exact Leads.chk ⟨h2, h0⟩ fun _ => Leads.chk ⟨h1, h0⟩ fun _ => Leads.chk ⟨varsG_len l _ h1, varsG_len l _ h2⟩ fun _ => Leads.one rfl
def Etouch : Es := (21, (Stouch)) :: EcntF
theorem oktouch : SatE P (En (Etouch)) := SatE.cons (sattouch) okcntF
/-! ### legation/sources.clone -/
def Lclone : Ls := []
def Sclone := mkS [(true, grS)] fun ⟨(g : RowE grS), _⟩ => .chk (szGp g) (.leaf (.val (.agg (rowD grS g))))
theorem tclone (g : RowE grS) : evF T (Ep (Etouch)) (Ln (Lclone)) Try.f35 [.agg (rowD grS g)] =
    chk (List.length g.fst ≤ (2000000 : Nat)) (chk (List.length g.snd.fst ≤ (2000000 : Nat)) (some (SV.val (AV.agg [D.sl [Sh.int IntKind.i64] g.fst, D.sl [Sh.int IntKind.i64] g.snd.fst])))) := by kernel_rfl
theorem satclone : Sat P 35 (Sclone) := by
  refine sat_mk (LT := Ln (Lclone)) hC (SatE.ep oktouch) mixed Try.func35 (by kernel_rfl) (c := bodyOf Try.f35) (by kernel_rfl) (by kernel_rfl) ?_ (loops0 (by kernel_rfl))
  rintro ⟨(g : RowE grS), _⟩ sv h
  refine Leads.eq (Leads.of_eq (tclone g) ?_)
  obtain ⟨⟨h1, h2⟩, h⟩ := h
  obtain rfl := Out_leaf h
  exact Leads.chk h1 fun _ => Leads.chk h2 fun _ => Leads.one rfl
def Eclone : Es := (35, (Sclone)) :: Etouch
theorem okclone : SatE P (En (Eclone)) := SatE.cons (satclone) oktouch
end Go.Proofs.Ytgcjhcefpkbheaa.T20
