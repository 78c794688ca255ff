/- Part of a proof of the seat's statements: no statement by itself. -/
import Derived.Test.YtfafmpiajlgojaaDoorT2C
set_option maxRecDepth 100000
open Go.Proofs.YtfafmpiajlgojaaDoor.Lg Go Go.Proofs.YtfafmpiajlgojaaDoor.Sp
open Go.Proofs
namespace Go.Proofs.YtfafmpiajlgojaaDoor.T2


/-! ### legation/number.Add -/
def LnAdd : Ls := []
def SnAdd := mkS [(true, nmS), (true, nmS)] fun ⟨(a : RowE nmS), (b : RowE nmS), _⟩ => .br (rightN a && rightN b) (.br (recO 1 a b) (.leaf (.val (.tup [.agg (rowD nmS (recN 1 a b)), .d (.int .i64 0)]))) (.leaf (.val (.tup [.agg (rowD nmS n0), .d (.int .i64 5)])))) (.leaf (.val (.tup [.agg (rowD nmS n0), .d (.int .i64 2)])))
theorem tnAdd (a : RowE nmS) (b : RowE nmS) : evF T (En (ErComp)) (Ln (LnAdd)) Tryd.f17 [.agg (rowD nmS a), .agg (rowD nmS b)] =
    br (!(rightN (a.fst, a.snd.fst, a.snd.snd.fst, ()) && rightN (b.fst, b.snd.fst, b.snd.snd.fst, ()))) (some (SV.val (AV.tup [AV.agg [D.int IntKind.i64 (CE.dflt (Sh.int IntKind.i64)), D.int IntKind.i64 (CE.dflt (Sh.int IntKind.i64)), D.bool (CE.dflt Sh.bool)], AV.d (D.int IntKind.i64 (2 : Int))]))) (chk (rightN (a.fst, a.snd.fst, a.snd.snd.fst, ()) = true ∧ rightN (b.fst, b.snd.fst, b.snd.snd.fst, ()) = true) (br a.snd.snd.fst (chk ((0 : Int) ≤ (4 : Int) ∧ (4 : Int) ≤ (100 : Int) ∧ i64 (IntKind.i64.wrap (amtN (a.fst, a.snd.fst, a.snd.snd.fst, ()) + amtN (b.fst, b.snd.fst, b.snd.snd.fst, ())))) (br (cutOK (IntKind.i64.wrap (amtN (a.fst, a.snd.fst, a.snd.snd.fst, ()) + amtN (b.fst, b.snd.fst, b.snd.snd.fst, ()))) (4 : Int)) (some (SV.val (AV.tup [AV.agg [D.int IntKind.i64 (cutV (IntKind.i64.wrap (amtN (a.fst, a.snd.fst, a.snd.snd.fst, ()) + amtN (b.fst, b.snd.fst, b.snd.snd.fst, ()))) (4 : Int)), D.int IntKind.i64 (cutS (IntKind.i64.wrap (amtN (a.fst, a.snd.fst, a.snd.snd.fst, ()) + amtN (b.fst, b.snd.fst, b.snd.snd.fst, ()))) (4 : Int)), D.bool true], AV.d (D.int IntKind.i64 (0 : Int))]))) (some (SV.val (AV.tup [AV.agg [D.int IntKind.i64 n0.fst, D.int IntKind.i64 n0.snd.fst, D.bool n0.snd.snd.fst], AV.d (D.int IntKind.i64 (5 : Int))]))))) (chk ((0 : Int) ≤ (4 : Int) ∧ (4 : Int) ≤ (100 : Int) ∧ i64 (IntKind.i64.wrap (amtN (a.fst, a.snd.fst, a.snd.snd.fst, ()) + amtN (b.fst, b.snd.fst, b.snd.snd.fst, ())))) (br (cutOK (IntKind.i64.wrap (amtN (a.fst, a.snd.fst, a.snd.snd.fst, ()) + amtN (b.fst, b.snd.fst, b.snd.snd.fst, ()))) (4 : Int)) (some (SV.val (AV.tup [AV.agg [D.int IntKind.i64 (cutV (IntKind.i64.wrap (amtN (a.fst, a.snd.fst, a.snd.snd.fst, ()) + amtN (b.fst, b.snd.fst, b.snd.snd.fst, ()))) (4 : Int)), D.int IntKind.i64 (cutS (IntKind.i64.wrap (amtN (a.fst, a.snd.fst, a.snd.snd.fst, ()) + amtN (b.fst, b.snd.fst, b.snd.snd.fst, ()))) (4 : Int)), D.bool b.snd.snd.fst], AV.d (D.int IntKind.i64 (0 : Int))]))) (some (SV.val (AV.tup [AV.agg [D.int IntKind.i64 n0.fst, D.int IntKind.i64 n0.snd.fst, D.bool n0.snd.snd.fst], AV.d (D.int IntKind.i64 (5 : Int))]))))))) := by kernel_rfl
theorem satnAdd : Sat P 17 (SnAdd) := by
  refine sat_mk (LT := Ln (LnAdd)) hC okrComp mixed Tryd.func17 (by kernel_rfl) (c := bodyOf Tryd.f17) (by kernel_rfl) (by kernel_rfl) ?_ (loops0 (by kernel_rfl))
  rintro ⟨(a : RowE nmS), (b : RowE nmS), _⟩ sv h
  refine Leads.eq (Leads.of_eq (tnAdd a b) ?_)
  have con : ∀ {x : Bool} {p : Prop}, x = true → x = false → p := fun x y => by rw [x] at y; cases y
  rcases Out_br h with ⟨q, h⟩ | ⟨q, h⟩
  · have q2 := q
    simp only [Bool.and_eq_true] at q2
    have hv := recV_i64 1 q2.1 q2.2
    obtain ⟨_, _, a3, a4, _⟩ := (rightN_iff a).1 q2.1
    obtain ⟨_, _, b3, b4, _⟩ := (rightN_iff b).1 q2.2
    rw [show IntKind.i64.wrap (amtN a + amtN b) = amtN a + amtN b from wrapI hv]
    refine Leads.brG (fun _ => Leads.chk q2 fun _ => ?_) (fun z => con q z)
    rcases Out_br h with ⟨k, h⟩ | ⟨k, h⟩
    · have h := Out_leaf h
      refine Leads.br (fun da => Leads.chk ⟨by omega, by omega, hv⟩ fun _ => Leads.br (fun _ => Leads.one ?_) (fun z => con k z)) (fun da => Leads.chk ⟨by omega, by omega, hv⟩ fun _ => Leads.br (fun _ => Leads.one ?_) (fun z => con k z))
      · have hd : recD 1 a b = true := by show (a.2.2.1 || b.2.2.1) = true; rw [show a.2.2.1 = true from da]; rfl
        rw [h, show recN 1 a b = (cutV (recV 1 a b) (recS 1 a b), cutS (recV 1 a b) (recS 1 a b), true, ()) by unfold recN; rw [hd]]; rfl
      · have hd : recD 1 a b = b.2.2.1 := by show (a.2.2.1 || b.2.2.1) = _; rw [show a.2.2.1 = false from da]; rfl
        rw [h, show recN 1 a b = (cutV (recV 1 a b) (recS 1 a b), cutS (recV 1 a b) (recS 1 a b), b.2.2.1, ()) by unfold recN; rw [hd]]; rfl
    · have h := Out_leaf h
      exact Leads.br (fun da => Leads.chk ⟨by omega, by omega, hv⟩ fun _ => Leads.br (fun z => con z k) (fun _ => Leads.one (by rw [h]; rfl))) (fun da => Leads.chk ⟨by omega, by omega, hv⟩ fun _ => Leads.br (fun z => con z k) (fun _ => Leads.one (by rw [h]; rfl)))
  · have h := Out_leaf h
    exact Leads.brG (fun z => con z q) (fun _ => Leads.one (by rw [h]; rfl))
def EnAdd : Es := (17, SnAdd) :: ErComp
theorem oknAdd : SatE P (En (EnAdd)) := SatE.cons (satnAdd) okrComp
/-! ### legation/number.Sub -/
def LnSub : Ls := []
def SnSub := mkS [(true, nmS), (true, nmS)] fun ⟨(a : RowE nmS), (b : RowE nmS), _⟩ => .br (rightN a && rightN b) (.br (recO 2 a b) (.leaf (.val (.tup [.agg (rowD nmS (recN 2 a b)), .d (.int .i64 0)]))) (.leaf (.val (.tup [.agg (rowD nmS n0), .d (.int .i64 5)])))) (.leaf (.val (.tup [.agg (rowD nmS n0), .d (.int .i64 2)])))
theorem tnSub (a : RowE nmS) (b : RowE nmS) : evF T (En (EnAdd)) (Ln (LnSub)) Tryd.f19 [.agg (rowD nmS a), .agg (rowD nmS b)] =
    br (!(rightN (a.fst, a.snd.fst, a.snd.snd.fst, ()) && rightN (b.fst, b.snd.fst, b.snd.snd.fst, ()))) (some (SV.val (AV.tup [AV.agg [D.int IntKind.i64 (CE.dflt (Sh.int IntKind.i64)), D.int IntKind.i64 (CE.dflt (Sh.int IntKind.i64)), D.bool (CE.dflt Sh.bool)], AV.d (D.int IntKind.i64 (2 : Int))]))) (chk (rightN (a.fst, a.snd.fst, a.snd.snd.fst, ()) = true ∧ rightN (b.fst, b.snd.fst, b.snd.snd.fst, ()) = true) (br a.snd.snd.fst (chk ((0 : Int) ≤ (4 : Int) ∧ (4 : Int) ≤ (100 : Int) ∧ i64 (IntKind.i64.wrap (amtN (a.fst, a.snd.fst, a.snd.snd.fst, ()) - amtN (b.fst, b.snd.fst, b.snd.snd.fst, ())))) (br (cutOK (IntKind.i64.wrap (amtN (a.fst, a.snd.fst, a.snd.snd.fst, ()) - amtN (b.fst, b.snd.fst, b.snd.snd.fst, ()))) (4 : Int)) (some (SV.val (AV.tup [AV.agg [D.int IntKind.i64 (cutV (IntKind.i64.wrap (amtN (a.fst, a.snd.fst, a.snd.snd.fst, ()) - amtN (b.fst, b.snd.fst, b.snd.snd.fst, ()))) (4 : Int)), D.int IntKind.i64 (cutS (IntKind.i64.wrap (amtN (a.fst, a.snd.fst, a.snd.snd.fst, ()) - amtN (b.fst, b.snd.fst, b.snd.snd.fst, ()))) (4 : Int)), D.bool true], AV.d (D.int IntKind.i64 (0 : Int))]))) (some (SV.val (AV.tup [AV.agg [D.int IntKind.i64 n0.fst, D.int IntKind.i64 n0.snd.fst, D.bool n0.snd.snd.fst], AV.d (D.int IntKind.i64 (5 : Int))]))))) (chk ((0 : Int) ≤ (4 : Int) ∧ (4 : Int) ≤ (100 : Int) ∧ i64 (IntKind.i64.wrap (amtN (a.fst, a.snd.fst, a.snd.snd.fst, ()) - amtN (b.fst, b.snd.fst, b.snd.snd.fst, ())))) (br (cutOK (IntKind.i64.wrap (amtN (a.fst, a.snd.fst, a.snd.snd.fst, ()) - amtN (b.fst, b.snd.fst, b.snd.snd.fst, ()))) (4 : Int)) (some (SV.val (AV.tup [AV.agg [D.int IntKind.i64 (cutV (IntKind.i64.wrap (amtN (a.fst, a.snd.fst, a.snd.snd.fst, ()) - amtN (b.fst, b.snd.fst, b.snd.snd.fst, ()))) (4 : Int)), D.int IntKind.i64 (cutS (IntKind.i64.wrap (amtN (a.fst, a.snd.fst, a.snd.snd.fst, ()) - amtN (b.fst, b.snd.fst, b.snd.snd.fst, ()))) (4 : Int)), D.bool b.snd.snd.fst], AV.d (D.int IntKind.i64 (0 : Int))]))) (some (SV.val (AV.tup [AV.agg [D.int IntKind.i64 n0.fst, D.int IntKind.i64 n0.snd.fst, D.bool n0.snd.snd.fst], AV.d (D.int IntKind.i64 (5 : Int))]))))))) := by kernel_rfl
theorem satnSub : Sat P 19 (SnSub) := by
  refine sat_mk (LT := Ln (LnSub)) hC oknAdd mixed Tryd.func19 (by kernel_rfl) (c := bodyOf Tryd.f19) (by kernel_rfl) (by kernel_rfl) ?_ (loops0 (by kernel_rfl))
  rintro ⟨(a : RowE nmS), (b : RowE nmS), _⟩ sv h
  refine Leads.eq (Leads.of_eq (tnSub a b) ?_)
  have con : ∀ {x : Bool} {p : Prop}, x = true → x = false → p := fun x y => by rw [x] at y; cases y
  rcases Out_br h with ⟨q, h⟩ | ⟨q, h⟩
  · have q2 := q
    simp only [Bool.and_eq_true] at q2
    have hv := recV_i64 2 q2.1 q2.2
    obtain ⟨_, _, a3, a4, _⟩ := (rightN_iff a).1 q2.1
    obtain ⟨_, _, b3, b4, _⟩ := (rightN_iff b).1 q2.2
    rw [show IntKind.i64.wrap (amtN a - amtN b) = amtN a - amtN b from wrapI hv]
    refine Leads.brG (fun _ => Leads.chk q2 fun _ => ?_) (fun z => con q z)
    rcases Out_br h with ⟨k, h⟩ | ⟨k, h⟩
    · have h := Out_leaf h
      refine Leads.br (fun da => Leads.chk ⟨by omega, by omega, hv⟩ fun _ => Leads.br (fun _ => Leads.one ?_) (fun z => con k z)) (fun da => Leads.chk ⟨by omega, by omega, hv⟩ fun _ => Leads.br (fun _ => Leads.one ?_) (fun z => con k z))
      · have hd : recD 2 a b = true := by show (a.2.2.1 || b.2.2.1) = true; rw [show a.2.2.1 = true from da]; rfl
        rw [h, show recN 2 a b = (cutV (recV 2 a b) (recS 2 a b), cutS (recV 2 a b) (recS 2 a b), true, ()) by unfold recN; rw [hd]]; rfl
      · have hd : recD 2 a b = b.2.2.1 := by show (a.2.2.1 || b.2.2.1) = _; rw [show a.2.2.1 = false from da]; rfl
        rw [h, show recN 2 a b = (cutV (recV 2 a b) (recS 2 a b), cutS (recV 2 a b) (recS 2 a b), b.2.2.1, ()) by unfold recN; rw [hd]]; rfl
    · have h := Out_leaf h
      exact Leads.br (fun da => Leads.chk ⟨by omega, by omega, hv⟩ fun _ => Leads.br (fun z => con z k) (fun _ => Leads.one (by rw [h]; rfl))) (fun da => Leads.chk ⟨by omega, by omega, hv⟩ fun _ => Leads.br (fun z => con z k) (fun _ => Leads.one (by rw [h]; rfl)))
  · have h := Out_leaf h
    exact Leads.brG (fun z => con z q) (fun _ => Leads.one (by rw [h]; rfl))
def EnSub : Es := (19, SnSub) :: EnAdd
theorem oknSub : SatE P (En (EnSub)) := SatE.cons (satnSub) oknAdd
/-! ### legation/number.Mul -/
def LnMul : Ls := []
def SnMul := mkS [(true, nmS), (true, nmS)] fun ⟨(a : RowE nmS), (b : RowE nmS), _⟩ => .br (rightN a && rightN b) (.br (recO 3 a b) (.leaf (.val (.tup [.agg (rowD nmS (recN 3 a b)), .d (.int .i64 0)]))) (.leaf (.val (.tup [.agg (rowD nmS n0), .d (.int .i64 5)])))) (.leaf (.val (.tup [.agg (rowD nmS n0), .d (.int .i64 2)])))
theorem tnMul (a : RowE nmS) (b : RowE nmS) : evF T (En (EnSub)) (Ln (LnMul)) Tryd.f18 [.agg (rowD nmS a), .agg (rowD nmS b)] =
    br (!(rightN (a.fst, a.snd.fst, a.snd.snd.fst, ()) && rightN (b.fst, b.snd.fst, b.snd.snd.fst, ()))) (some (SV.val (AV.tup [AV.agg [D.int IntKind.i64 (CE.dflt (Sh.int IntKind.i64)), D.int IntKind.i64 (CE.dflt (Sh.int IntKind.i64)), D.bool (CE.dflt Sh.bool)], AV.d (D.int IntKind.i64 (2 : Int))]))) (br a.snd.snd.fst (chk ((0 : Int) ≤ IntKind.i64.wrap (a.snd.fst + b.snd.fst) ∧ IntKind.i64.wrap (a.snd.fst + b.snd.fst) ≤ (100 : Int) ∧ i64 (IntKind.i64.wrap (a.fst * b.fst))) (br (cutOK (IntKind.i64.wrap (a.fst * b.fst)) (IntKind.i64.wrap (a.snd.fst + b.snd.fst))) (some (SV.val (AV.tup [AV.agg [D.int IntKind.i64 (cutV (IntKind.i64.wrap (a.fst * b.fst)) (IntKind.i64.wrap (a.snd.fst + b.snd.fst))), D.int IntKind.i64 (cutS (IntKind.i64.wrap (a.fst * b.fst)) (IntKind.i64.wrap (a.snd.fst + b.snd.fst))), D.bool true], AV.d (D.int IntKind.i64 (0 : Int))]))) (some (SV.val (AV.tup [AV.agg [D.int IntKind.i64 n0.fst, D.int IntKind.i64 n0.snd.fst, D.bool n0.snd.snd.fst], AV.d (D.int IntKind.i64 (5 : Int))]))))) (chk ((0 : Int) ≤ IntKind.i64.wrap (a.snd.fst + b.snd.fst) ∧ IntKind.i64.wrap (a.snd.fst + b.snd.fst) ≤ (100 : Int) ∧ i64 (IntKind.i64.wrap (a.fst * b.fst))) (br (cutOK (IntKind.i64.wrap (a.fst * b.fst)) (IntKind.i64.wrap (a.snd.fst + b.snd.fst))) (some (SV.val (AV.tup [AV.agg [D.int IntKind.i64 (cutV (IntKind.i64.wrap (a.fst * b.fst)) (IntKind.i64.wrap (a.snd.fst + b.snd.fst))), D.int IntKind.i64 (cutS (IntKind.i64.wrap (a.fst * b.fst)) (IntKind.i64.wrap (a.snd.fst + b.snd.fst))), D.bool b.snd.snd.fst], AV.d (D.int IntKind.i64 (0 : Int))]))) (some (SV.val (AV.tup [AV.agg [D.int IntKind.i64 n0.fst, D.int IntKind.i64 n0.snd.fst, D.bool n0.snd.snd.fst], AV.d (D.int IntKind.i64 (5 : Int))])))))) := by kernel_rfl
theorem satnMul : Sat P 18 (SnMul) := by
  refine sat_mk (LT := Ln (LnMul)) hC oknSub mixed Tryd.func18 (by kernel_rfl) (c := bodyOf Tryd.f18) (by kernel_rfl) (by kernel_rfl) ?_ (loops0 (by kernel_rfl))
  rintro ⟨(a : RowE nmS), (b : RowE nmS), _⟩ sv h
  refine Leads.eq (Leads.of_eq (tnMul a b) ?_)
  have con : ∀ {x : Bool} {p : Prop}, x = true → x = false → p := fun x y => by rw [x] at y; cases y
  rcases Out_br h with ⟨q, h⟩ | ⟨q, h⟩
  · have q2 := q
    simp only [Bool.and_eq_true] at q2
    have hv := recV_i64 3 q2.1 q2.2
    obtain ⟨_, _, a3, a4, _⟩ := (rightN_iff a).1 q2.1
    obtain ⟨_, _, b3, b4, _⟩ := (rightN_iff b).1 q2.2
    rw [wrap64 (x := a.2.1 + b.2.1) (by omega) (by omega), show IntKind.i64.wrap (a.1 * b.1) = a.1 * b.1 from wrapI hv]
    refine Leads.brG (fun _ => ?_) (fun z => con q z)
    rcases Out_br h with ⟨k, h⟩ | ⟨k, h⟩
    · have h := Out_leaf h
      refine Leads.br (fun da => Leads.chk ⟨by omega, by omega, hv⟩ fun _ => Leads.br (fun _ => Leads.one ?_) (fun z => con k z)) (fun da => Leads.chk ⟨by omega, by omega, hv⟩ fun _ => Leads.br (fun _ => Leads.one ?_) (fun z => con k z))
      · have hd : recD 3 a b = true := by show (a.2.2.1 || b.2.2.1) = true; rw [show a.2.2.1 = true from da]; rfl
        rw [h, show recN 3 a b = (cutV (recV 3 a b) (recS 3 a b), cutS (recV 3 a b) (recS 3 a b), true, ()) by unfold recN; rw [hd]]; rfl
      · have hd : recD 3 a b = b.2.2.1 := by show (a.2.2.1 || b.2.2.1) = _; rw [show a.2.2.1 = false from da]; rfl
        rw [h, show recN 3 a b = (cutV (recV 3 a b) (recS 3 a b), cutS (recV 3 a b) (recS 3 a b), b.2.2.1, ()) by unfold recN; rw [hd]]; rfl
    · have h := Out_leaf h
      exact Leads.br (fun da => Leads.chk ⟨by omega, by omega, hv⟩ fun _ => Leads.br (fun z => con z k) (fun _ => Leads.one (by rw [h]; rfl))) (fun da => Leads.chk ⟨by omega, by omega, hv⟩ fun _ => Leads.br (fun z => con z k) (fun _ => Leads.one (by rw [h]; rfl)))
  · have h := Out_leaf h
    exact Leads.brG (fun z => con z q) (fun _ => Leads.one (by rw [h]; rfl))
def EnMul : Es := (18, SnMul) :: EnSub
theorem oknMul : SatE P (En (EnMul)) := SatE.cons (satnMul) oknSub
/-! ### legation/number.Div -/
def LnDiv : Ls := []
def SnDiv := mkS [(true, nmS), (true, nmS)] fun ⟨(a : RowE nmS), (b : RowE nmS), _⟩ => .br (rightN a && rightN b) (.br (recO 4 a b) (.leaf (.val (.tup [.agg (rowD nmS (recN 4 a b)), .d (.int .i64 0)]))) (.leaf (.val (.tup [.agg (rowD nmS n0), .d (.int .i64 5)])))) (.leaf (.val (.tup [.agg (rowD nmS n0), .d (.int .i64 2)])))
theorem tnDiv (a : RowE nmS) (b : RowE nmS) : evF T (En (EnMul)) (Ln (LnDiv)) Tryd.f35 [.agg (rowD nmS a), .agg (rowD nmS b)] =
    br (!(rightN (a.fst, a.snd.fst, a.snd.snd.fst, ()) && rightN (b.fst, b.snd.fst, b.snd.snd.fst, ()))) (some (SV.val (AV.tup [AV.agg [D.int IntKind.i64 (CE.dflt (Sh.int IntKind.i64)), D.int IntKind.i64 (CE.dflt (Sh.int IntKind.i64)), D.bool (CE.dflt Sh.bool)], AV.d (D.int IntKind.i64 (2 : Int))]))) (br (b.fst == (0 : Int)) (some (SV.val (AV.tup [AV.agg [D.int IntKind.i64 (CE.dflt (Sh.int IntKind.i64)), D.int IntKind.i64 (CE.dflt (Sh.int IntKind.i64)), D.bool (CE.dflt Sh.bool)], AV.d (D.int IntKind.i64 (5 : Int))]))) (chk ((0 : Int) ≤ IntKind.i64.wrap ((8 : Int) - a.snd.fst) ∧ IntKind.i64.wrap ((8 : Int) - a.snd.fst) ≤ (8 : Int)) (chk ((0 : Int) ≤ IntKind.i64.wrap ((4 : Int) - b.snd.fst) ∧ IntKind.i64.wrap ((4 : Int) - b.snd.fst) ≤ (8 : Int)) (chk (¬IntKind.i64.wrap (b.fst * tenN (IntKind.i64.wrap ((4 : Int) - b.snd.fst))) = (0 : Int)) (chk ((0 : Int) ≤ (4 : Int) ∧ (4 : Int) ≤ (100 : Int) ∧ i64 (IntKind.i64.wrap ((IntKind.i64.wrap (a.fst * tenN (IntKind.i64.wrap ((8 : Int) - a.snd.fst)))).tdiv (IntKind.i64.wrap (b.fst * tenN (IntKind.i64.wrap ((4 : Int) - b.snd.fst))))))) (br (cutOK (IntKind.i64.wrap ((IntKind.i64.wrap (a.fst * tenN (IntKind.i64.wrap ((8 : Int) - a.snd.fst)))).tdiv (IntKind.i64.wrap (b.fst * tenN (IntKind.i64.wrap ((4 : Int) - b.snd.fst)))))) (4 : Int)) (some (SV.val (AV.tup [AV.agg [D.int IntKind.i64 (cutV (IntKind.i64.wrap ((IntKind.i64.wrap (a.fst * tenN (IntKind.i64.wrap ((8 : Int) - a.snd.fst)))).tdiv (IntKind.i64.wrap (b.fst * tenN (IntKind.i64.wrap ((4 : Int) - b.snd.fst)))))) (4 : Int)), D.int IntKind.i64 (cutS (IntKind.i64.wrap ((IntKind.i64.wrap (a.fst * tenN (IntKind.i64.wrap ((8 : Int) - a.snd.fst)))).tdiv (IntKind.i64.wrap (b.fst * tenN (IntKind.i64.wrap ((4 : Int) - b.snd.fst)))))) (4 : Int)), D.bool true], AV.d (D.int IntKind.i64 (0 : Int))]))) (some (SV.val (AV.tup [AV.agg [D.int IntKind.i64 n0.fst, D.int IntKind.i64 n0.snd.fst, D.bool n0.snd.snd.fst], AV.d (D.int IntKind.i64 (5 : Int))]))))))))) := by kernel_rfl
theorem satnDiv : Sat P 35 (SnDiv) := by
  refine sat_mk (LT := Ln (LnDiv)) hC oknMul mixed Tryd.func35 (by kernel_rfl) (c := bodyOf Tryd.f35) (by kernel_rfl) (by kernel_rfl) ?_ (loops0 (by kernel_rfl))
  rintro ⟨(a : RowE nmS), (b : RowE nmS), _⟩ sv h
  refine Leads.eq (Leads.of_eq (tnDiv a b) ?_)
  have con : ∀ {x : Bool} {p : Prop}, x = true → x = false → p := fun x y => by rw [x] at y; cases y
  rcases Out_br h with ⟨q, h⟩ | ⟨q, h⟩
  · have q2 := q
    simp only [Bool.and_eq_true] at q2
    have hv := recV_i64 4 q2.1 q2.2
    have l1 := amt_le q2.1
    have l2 := amt_le q2.2
    have z1 := amt_zero q2.2
    obtain ⟨_, _, a3, a4, _⟩ := (rightN_iff a).1 q2.1
    obtain ⟨_, _, b3, b4, _⟩ := (rightN_iff b).1 q2.2
    rw [wrap64 (x := 8 - a.2.1) (by omega) (by omega), wrap64 (x := 4 - b.2.1) (by omega) (by omega), show a.1 * tenN (8 - a.2.1) = amtN a * 10000 from amt8 q2.1, show b.1 * tenN (4 - b.2.1) = amtN b from rfl, wrap64 (x := amtN a * 10000) (by omega) (by omega), wrap64 (x := amtN b) (by omega) (by omega), show IntKind.i64.wrap ((amtN a * 10000).tdiv (amtN b)) = (amtN a * 10000).tdiv (amtN b) from wrapI hv]
    have hk : recO 4 a b = (!decide (b.1 = 0) && cutOK ((amtN a * 10000).tdiv (amtN b)) 4) := rfl
    refine Leads.brG (fun _ => Leads.brE (fun z => ?_) (fun z => Leads.chk ⟨by omega, by omega⟩ fun _ => Leads.chk ⟨by omega, by omega⟩ fun _ => Leads.chk (fun e => z (z1.1 e)) fun _ => Leads.chk ⟨by decide, by decide, hv⟩ fun _ => ?_)) (fun z => con q z)
    · have z : b.1 = 0 := z
      rw [hk, decide_eq_true z] at h
      have h := Out_leaf (Out_ff h)
      exact Leads.one (by rw [h]; rfl)
    · have z : ¬ b.1 = 0 := z
      rw [hk, decide_eq_false z, Bool.not_false, Bool.true_and] at h
      rcases Out_br h with ⟨k, h⟩ | ⟨k, h⟩
      · have h := Out_leaf h
        exact Leads.br (fun _ => Leads.one (by rw [h]; rfl)) (fun z => con k z)
      · have h := Out_leaf h
        exact Leads.br (fun z => con z k) (fun _ => Leads.one (by rw [h]; rfl))
  · have h := Out_leaf h
    exact Leads.brG (fun z => con z q) (fun _ => Leads.one (by rw [h]; rfl))
def EnDiv : Es := (35, SnDiv) :: EnMul
theorem oknDiv : SatE P (En (EnDiv)) := SatE.cons (satnDiv) oknMul
end Go.Proofs.YtfafmpiajlgojaaDoor.T2
