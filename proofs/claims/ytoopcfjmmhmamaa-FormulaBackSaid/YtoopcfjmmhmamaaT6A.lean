/- Part of a proof of the seat's statements: no statement by itself. -/
import Derived.Test.YtoopcfjmmhmamaaQ6E
import Derived.Test.YtoopcfjmmhmamaaSpL
set_option maxRecDepth 100000
open Go.Proofs.Ytoopcfjmmhmamaa.Lg Go Go.Proofs.Ytoopcfjmmhmamaa.Sp
open Go.Proofs
namespace Go.Proofs.Ytoopcfjmmhmamaa.T6


/-! ### (*legation/formula.parser).is -/
def Lp_is : Ls := []
def Sp_is := mkO [true, false, false] [.box [.v (.sl tkS), .v (.int .i64), .a ptS, .v .bool], .v false [.int .i64], .v false [.str]] fun ⟨(p : KCs [.v (.sl tkS), .v (.int .i64), .a ptS, .v .bool]), ⟨(kind : Int), _⟩, ⟨(text : List UInt8), _⟩, _⟩ => .chk (szP p) (.leaf (.val (.d (.bool (isP p kind text))), [.box true (KCs.svs psK (p))]))
theorem tp_is (p : KCs [.v (.sl tkS), .v (.int .i64), .a ptS, .v .bool]) (kind : Int) (text : List UInt8) : evFO T (En (Er1_Prefix)) (Ln (Lp_is)) Try.f49 [.box true (KCs.svs [.v (.sl tkS), .v (.int .i64), .a ptS, .v .bool] p), .val (.d (.int .i64 kind)), .val (.d (.str  text))] =
    br (decide (p.snd.fst < (↑(List.length p.fst) : Int))) (chk ((0 : Int) ≤ p.snd.fst ∧ p.snd.fst < (↑(List.length p.fst) : Int)) (br ((getR tkS p.fst p.snd.fst).fst == kind) (chk ((0 : Int) ≤ p.snd.fst ∧ p.snd.fst < (↑(List.length p.fst) : Int)) (some (SV.val (AV.d (D.bool ((getR tkS p.fst p.snd.fst).snd.fst == text))), [SV.box true [SV.val (AV.d (D.sl tkS p.fst)), SV.val (AV.d (D.int IntKind.i64 p.snd.fst)), SV.app ptS p.snd.snd.fst, SV.val (AV.d (D.bool p.snd.snd.snd.fst))]]))) (some (SV.val (AV.d (D.bool false)), [SV.box true [SV.val (AV.d (D.sl tkS p.fst)), SV.val (AV.d (D.int IntKind.i64 p.snd.fst)), SV.app ptS p.snd.snd.fst, SV.val (AV.d (D.bool p.snd.snd.snd.fst))]])))) (some (SV.val (AV.d (D.bool false)), [SV.box true [SV.val (AV.d (D.sl tkS p.fst)), SV.val (AV.d (D.int IntKind.i64 p.snd.fst)), SV.app ptS p.snd.snd.fst, SV.val (AV.d (D.bool p.snd.snd.snd.fst))]])) := by kernel_rfl
theorem satp_is : SatO P 49 (Sp_is) := by
  refine sat_mkO (LT := Ln (Lp_is)) hC okr1_Prefix mixed Try.func49 (by kernel_rfl) (c := bodyOf Try.f49) (by kernel_rfl) (by kernel_rfl) ?_ (loops0 (by kernel_rfl))
  rintro ⟨(p : KCs [.v (.sl tkS), .v (.int .i64), .a ptS, .v .bool]), ⟨(kind : Int), _⟩, ⟨(text : List UInt8), _⟩, _⟩ sv h
  refine Leads.eq (Leads.of_eq (tp_is p kind text) ?_)
  obtain ⟨⟨h0, h1, h2, h3⟩, h⟩ := h
  have h := Out_leaf h
  have hc : ∀ b, isP p kind text = b → (SV.val (.d (.bool b)), [SV.box true (KCs.svs psK p)]) = sv := fun b e => by rw [← e]; exact h.symm
  refine Leads.brD (fun q => Leads.chk ⟨h0, q⟩ fun _ => Leads.brE (fun w => Leads.chk ⟨h0, q⟩ fun _ => Leads.one (hc _ (isP_t q w rfl))) fun w => Leads.one (hc _ (isP_k w))) fun q => Leads.one (hc _ (isP_0 q))
def Ep_is : Es := (49, .o Sp_is) :: Er1_Prefix
theorem okp_is : SatE P (En (Ep_is)) := SatE.consO (satp_is) okr1_Prefix
/-! ### (*legation/formula.parser).takes -/
def Lp_takes : Ls := []
def Sp_takes := mkO [true, false] [.box [.v (.sl tkS), .v (.int .i64), .a ptS, .v .bool], .v false [.str]] fun ⟨(p : KCs [.v (.sl tkS), .v (.int .i64), .a ptS, .v .bool]), ⟨(text : List UInt8), _⟩, _⟩ => .chk (szP p) (.leaf (.val (.d (.bool (isP p 5 text))), [.box true (KCs.svs psK (takeP p text))]))
theorem tp_takes (p : KCs [.v (.sl tkS), .v (.int .i64), .a ptS, .v .bool]) (text : List UInt8) : evFO T (En (Ep_is)) (Ln (Lp_takes)) Try.f35 [.box true (KCs.svs [.v (.sl tkS), .v (.int .i64), .a ptS, .v .bool] p), .val (.d (.str  text))] =
    chk (szP (p.fst, p.snd.fst, p.snd.snd.fst, p.snd.snd.snd.fst, ())) (br (!isP (p.fst, p.snd.fst, p.snd.snd.fst, p.snd.snd.snd.fst, ()) (5 : Int) text) (some (SV.val (AV.d (D.bool false)), [SV.box true [SV.val (AV.d (D.sl tkS p.fst)), SV.val (AV.d (D.int IntKind.i64 p.snd.fst)), SV.app ptS p.snd.snd.fst, SV.val (AV.d (D.bool p.snd.snd.snd.fst))]])) (some (SV.val (AV.d (D.bool true)), [SV.box true [SV.val (AV.d (D.sl tkS p.fst)), SV.val (AV.d (D.int IntKind.i64 (IntKind.i64.wrap (p.snd.fst + (1 : Int))))), SV.app ptS p.snd.snd.fst, SV.val (AV.d (D.bool p.snd.snd.snd.fst))]]))) := by kernel_rfl
theorem satp_takes : SatO P 35 (Sp_takes) := by
  refine sat_mkO (LT := Ln (Lp_takes)) hC okp_is mixed Try.func35 (by kernel_rfl) (c := bodyOf Try.f35) (by kernel_rfl) (by kernel_rfl) ?_ (loops0 (by kernel_rfl))
  rintro ⟨(p : KCs [.v (.sl tkS), .v (.int .i64), .a ptS, .v .bool]), ⟨(text : List UInt8), _⟩, _⟩ sv h
  refine Leads.eq (Leads.of_eq (tp_takes p text) ?_)
  obtain ⟨hs, h⟩ := h
  have h := Out_leaf h
  subst h
  obtain ⟨h0, h1, h2, h3⟩ := id hs
  refine Leads.chk hs fun _ => Leads.brG (fun w => Leads.one ?_) (fun w => Leads.one ?_)
  · have w : isP p 5 text = true := w
    have := isP_lt w
    rw [w, takeP_t w, wrap64 (by omega) (by omega)]; rfl
  · have w : isP p 5 text = false := w
    rw [w, takeP_f w]; rfl
def Ep_takes : Es := (35, .o Sp_takes) :: Ep_is
theorem okp_takes : SatE P (En (Ep_takes)) := SatE.consO (satp_takes) okp_is
/-! ### (*legation/formula.parser).must -/
def Lp_must : Ls := []
def Sp_must := mkO [true, false] [.box [.v (.sl tkS), .v (.int .i64), .a ptS, .v .bool], .v false [.str]] fun ⟨(p : KCs [.v (.sl tkS), .v (.int .i64), .a ptS, .v .bool]), ⟨(text : List UInt8), _⟩, _⟩ => .chk (szP p) (.leaf (.val (.tup []), [.box true (KCs.svs psK (mustP p text))]))
theorem tp_must (p : KCs [.v (.sl tkS), .v (.int .i64), .a ptS, .v .bool]) (text : List UInt8) : evFO T (En (Ep_takes)) (Ln (Lp_must)) Try.f60 [.box true (KCs.svs [.v (.sl tkS), .v (.int .i64), .a ptS, .v .bool] p), .val (.d (.str  text))] =
    br p.snd.snd.snd.fst (some (SV.val (AV.tup []), [SV.box true (setAt ((0 : Nat) + (3 : Nat)) [SV.val (AV.d (D.bool true))] [SV.val (AV.d (D.sl tkS p.fst)), SV.val (AV.d (D.int IntKind.i64 p.snd.fst)), SV.app ptS p.snd.snd.fst, SV.val (AV.d (D.bool p.snd.snd.snd.fst))])])) (chk (szP (p.fst, p.snd.fst, p.snd.snd.fst, p.snd.snd.snd.fst, ())) (some (SV.val (AV.tup []), [SV.box true (setAt ((0 : Nat) + (3 : Nat)) [SV.val (AV.d (D.bool !isP (p.fst, p.snd.fst, p.snd.snd.fst, p.snd.snd.snd.fst, ()) (5 : Int) text))] [SV.val (AV.d (D.sl tkS (takeP (p.fst, p.snd.fst, p.snd.snd.fst, p.snd.snd.snd.fst, ()) text).fst)), SV.val (AV.d (D.int IntKind.i64 (takeP (p.fst, p.snd.fst, p.snd.snd.fst, p.snd.snd.snd.fst, ()) text).snd.fst)), SV.app ptS (takeP (p.fst, p.snd.fst, p.snd.snd.fst, p.snd.snd.snd.fst, ()) text).snd.snd.fst, SV.val (AV.d (D.bool (takeP (p.fst, p.snd.fst, p.snd.snd.fst, p.snd.snd.snd.fst, ()) text).snd.snd.snd.fst))])]))) := by kernel_rfl
theorem satp_must : SatO P 60 (Sp_must) := by
  refine sat_mkO (LT := Ln (Lp_must)) hC okp_takes mixed Try.func60 (by kernel_rfl) (c := bodyOf Try.f60) (by kernel_rfl) (by kernel_rfl) ?_ (loops0 (by kernel_rfl))
  rintro ⟨(p : KCs [.v (.sl tkS), .v (.int .i64), .a ptS, .v .bool]), ⟨(text : List UInt8), _⟩, _⟩ sv h
  refine Leads.eq (Leads.of_eq (tp_must p text) ?_)
  obtain ⟨hs, h⟩ := h
  have h := Out_leaf h
  subst h
  refine Leads.br (fun w => Leads.one ?_) (fun w => Leads.chk hs fun _ => Leads.one ?_)
  · rw [mustP_b w]; rfl
  · cases v : isP p 5 text
    · rw [mustP_f w v, takeP_f v]; rfl
    · rw [mustP_t w v, takeP_t v]; exact congrArg (fun z => (SV.val (.tup []), [SV.box true (KCs.svs psK z)])) (adv_b w)
def Ep_must : Es := (60, .o Sp_must) :: Ep_takes
theorem okp_must : SatE P (En (Ep_must)) := SatE.consO (satp_must) okp_takes
/-! ### (*legation/formula.parser).add -/
def Lp_add : Ls := []
def Sp_add := mkO [true, false] [.box [.v (.sl tkS), .v (.int .i64), .a ptS, .v .bool], .v true ptS] fun ⟨(p : KCs [.v (.sl tkS), .v (.int .i64), .a ptS, .v .bool]), (x : RowE ptS), _⟩ => .chk (p.2.2.1.length < 1000000000000) (.leaf (.val (.tup []), [.box true (KCs.svs psK (addP p x))]))
theorem tp_add (p : KCs [.v (.sl tkS), .v (.int .i64), .a ptS, .v .bool]) (x : RowE ptS) : evFO T (En (Ep_must)) (Ln (Lp_add)) Try.f37 [.box true (KCs.svs [.v (.sl tkS), .v (.int .i64), .a ptS, .v .bool] p), .val (.agg (rowD ptS x))] =
    chk (((↑(List.length p.snd.snd.fst) : Int) + (↑[(x.fst, x.snd.fst, x.snd.snd.fst, x.snd.snd.snd.fst, x.snd.snd.snd.snd.fst, x.snd.snd.snd.snd.snd.fst, x.snd.snd.snd.snd.snd.snd.fst, ())].length : Int)) * (↑(88 : Nat) : Int) < lim) (some (SV.val (AV.tup []), [SV.box true (setAt ((0 : Nat) + (2 : Nat)) [SV.app ptS (p.snd.snd.fst ++ [(x.fst, x.snd.fst, x.snd.snd.fst, x.snd.snd.snd.fst, x.snd.snd.snd.snd.fst, x.snd.snd.snd.snd.snd.fst, x.snd.snd.snd.snd.snd.snd.fst, ())])] [SV.val (AV.d (D.sl tkS p.fst)), SV.val (AV.d (D.int IntKind.i64 p.snd.fst)), SV.val (AV.d (D.sl ptS p.snd.snd.fst)), SV.val (AV.d (D.bool p.snd.snd.snd.fst))])])) := by kernel_rfl
theorem satp_add : SatO P 37 (Sp_add) := by
  refine sat_mkO (LT := Ln (Lp_add)) hC okp_must mixed Try.func37 (by kernel_rfl) (c := bodyOf Try.f37) (by kernel_rfl) (by kernel_rfl) ?_ (loops0 (by kernel_rfl))
  rintro ⟨(p : KCs [.v (.sl tkS), .v (.int .i64), .a ptS, .v .bool]), (x : RowE ptS), _⟩ sv h
  refine Leads.eq (Leads.of_eq (tp_add p x) ?_)
  obtain ⟨hs, h⟩ := h
  have h := Out_leaf h
  subst h
  exact Leads.chk (by simp only [List.length_cons, List.length_nil, lim]; omega) fun _ => Leads.one rfl
def Ep_add : Es := (37, .o Sp_add) :: Ep_must
theorem okp_add : SatE P (En (Ep_add)) := SatE.consO (satp_add) okp_must
def signL27 : List B := [[], [], [], [], [33], [45], [38, 38], [124, 124], [61], [33, 61], [60], [62], [60, 61], [62, 61], [43], [45], [42], [47], [83, 84, 82], [76, 65, 78, 71], [68, 65, 84, 65, 84, 89, 80, 69], [73, 83, 73, 82, 73], [73, 83, 76, 73, 84, 69, 82, 65, 76], [73, 83, 66, 76, 65, 78, 75], [83, 65, 77, 69, 84, 69, 82, 77], [73, 70], [67, 79, 65, 76, 69, 83, 67, 69]]
/-! ### legation/formula.sign -/
def Lsign : Ls := []
def Ssign := mkS [(false, [.int .i64])] fun ⟨⟨(kind : Int), _⟩, _⟩ => .chk (0 ≤ kind ∧ kind < 27) (.leaf (.val (.d (.str (signT kind)))))
theorem tsign (kind : Int) : evF T (En (Ep_add)) (Ln (Lsign)) Try.f36 [.d (.int .i64 kind)] =
    chk ((0 : Int) ≤ kind ∧ kind < (↑(27 : Nat) : Int)) (chk ((0 : Nat) + kind.toNat * (1 : Nat) < [D.str (CE.dflt Sh.str), D.str (CE.dflt Sh.str), D.str (CE.dflt Sh.str), D.str (CE.dflt Sh.str), D.str [(33 : UInt8)], D.str [(45 : UInt8)], D.str [(38 : UInt8), (38 : UInt8)], D.str [(124 : UInt8), (124 : UInt8)], D.str [(61 : UInt8)], D.str [(33 : UInt8), (61 : UInt8)], D.str [(60 : UInt8)], D.str [(62 : UInt8)], D.str [(60 : UInt8), (61 : UInt8)], D.str [(62 : UInt8), (61 : UInt8)], D.str [(43 : UInt8)], D.str [(45 : UInt8)], D.str [(42 : UInt8)], D.str [(47 : UInt8)], D.str [(83 : UInt8), (84 : UInt8), (82 : UInt8)], D.str [(76 : UInt8), (65 : UInt8), (78 : UInt8), (71 : UInt8)], D.str [(68 : UInt8), (65 : UInt8), (84 : UInt8), (65 : UInt8), (84 : UInt8), (89 : UInt8), (80 : UInt8), (69 : UInt8)], D.str [(73 : UInt8), (83 : UInt8), (73 : UInt8), (82 : UInt8), (73 : UInt8)], D.str [(73 : UInt8), (83 : UInt8), (76 : UInt8), (73 : UInt8), (84 : UInt8), (69 : UInt8), (82 : UInt8), (65 : UInt8), (76 : UInt8)], D.str [(73 : UInt8), (83 : UInt8), (66 : UInt8), (76 : UInt8), (65 : UInt8), (78 : UInt8), (75 : UInt8)], D.str [(83 : UInt8), (65 : UInt8), (77 : UInt8), (69 : UInt8), (84 : UInt8), (69 : UInt8), (82 : UInt8), (77 : UInt8)], D.str [(73 : UInt8), (70 : UInt8)], D.str [(67 : UInt8), (79 : UInt8), (65 : UInt8), (76 : UInt8), (69 : UInt8), (83 : UInt8), (67 : UInt8), (69 : UInt8)]].length) (some (SV.val (AV.d (D.str ([CE.dflt Sh.str, CE.dflt Sh.str, CE.dflt Sh.str, CE.dflt Sh.str, [(33 : UInt8)], [(45 : UInt8)], [(38 : UInt8), (38 : UInt8)], [(124 : UInt8), (124 : UInt8)], [(61 : UInt8)], [(33 : UInt8), (61 : UInt8)], [(60 : UInt8)], [(62 : UInt8)], [(60 : UInt8), (61 : UInt8)], [(62 : UInt8), (61 : UInt8)], [(43 : UInt8)], [(45 : UInt8)], [(42 : UInt8)], [(47 : UInt8)], [(83 : UInt8), (84 : UInt8), (82 : UInt8)], [(76 : UInt8), (65 : UInt8), (78 : UInt8), (71 : UInt8)], [(68 : UInt8), (65 : UInt8), (84 : UInt8), (65 : UInt8), (84 : UInt8), (89 : UInt8), (80 : UInt8), (69 : UInt8)], [(73 : UInt8), (83 : UInt8), (73 : UInt8), (82 : UInt8), (73 : UInt8)], [(73 : UInt8), (83 : UInt8), (76 : UInt8), (73 : UInt8), (84 : UInt8), (69 : UInt8), (82 : UInt8), (65 : UInt8), (76 : UInt8)], [(73 : UInt8), (83 : UInt8), (66 : UInt8), (76 : UInt8), (65 : UInt8), (78 : UInt8), (75 : UInt8)], [(83 : UInt8), (65 : UInt8), (77 : UInt8), (69 : UInt8), (84 : UInt8), (69 : UInt8), (82 : UInt8), (77 : UInt8)], [(73 : UInt8), (70 : UInt8)], [(67 : UInt8), (79 : UInt8), (65 : UInt8), (76 : UInt8), (69 : UInt8), (83 : UInt8), (67 : UInt8), (69 : UInt8)]].getD ((0 : Nat) + kind.toNat * (1 : Nat)) [])))))) := by kernel_rfl
theorem satsign : Sat P 36 (Ssign) := by
  refine sat_mk (LT := Ln (Lsign)) hC okp_add mixed Try.func36 (by kernel_rfl) (c := bodyOf Try.f36) (by kernel_rfl) (by kernel_rfl) ?_ (loops0 (by kernel_rfl))
  rintro ⟨⟨(kind : Int), _⟩, _⟩ sv h
  refine Leads.eq (Leads.of_eq (tsign kind) ?_)
  obtain ⟨⟨h0, h1⟩, h⟩ := h
  have h := Out_leaf h
  subst h
  obtain ⟨k, rfl⟩ := Int.eq_ofNat_of_zero_le h0
  refine Leads.chk ⟨h0, h1⟩ fun _ => Leads.chk (by simp only [List.length_cons, List.length_nil, Int.toNat_natCast]; omega) fun _ => Leads.one ?_
  refine congrArg (fun z => SV.val (.d (.str z))) ?_
  have hk : k < 27 := by omega
  have key : ∀ k : Fin 27, signL27.getD (0 + ((k.1 : Nat) : Int).toNat * 1) [] = signT ((k.1 : Nat) : Int) := by decide +kernel
  exact key ⟨k, hk⟩
def Esign : Es := (36, Ssign) :: Ep_add
theorem oksign : SatE P (En (Esign)) := SatE.cons (satsign) okp_add
/-! ### legation/formula.signs -/
def Lsigns : Ls := []
def Ssigns := mkS [(false, [.int .i64])] fun ⟨⟨(level : Int), _⟩, _⟩ => .leaf (.app [.int .i64] (rowI (signL level)))
theorem tsigns (level : Int) : evF T (En (Esign)) (Ln (Lsigns)) Try.f34 [.d (.int .i64 level)] =
    br (level == (0 : Int)) (some (SV.app [Sh.int IntKind.i64] [((7 : Int), ())])) (br (level == (1 : Int)) (some (SV.app [Sh.int IntKind.i64] [((6 : Int), ())])) (br (level == (2 : Int)) (some (SV.app [Sh.int IntKind.i64] [((8 : Int), ()), ((9 : Int), ()), ((10 : Int), ()), ((11 : Int), ()), ((12 : Int), ()), ((13 : Int), ())])) (br (level == (3 : Int)) (some (SV.app [Sh.int IntKind.i64] [((14 : Int), ()), ((15 : Int), ())])) (some (SV.app [Sh.int IntKind.i64] [((16 : Int), ()), ((17 : Int), ())]))))) := by kernel_rfl
theorem satsigns : Sat P 34 (Ssigns) := by
  refine sat_mk (LT := Ln (Lsigns)) hC oksign mixed Try.func34 (by kernel_rfl) (c := bodyOf Try.f34) (by kernel_rfl) (by kernel_rfl) ?_ (loops0 (by kernel_rfl))
  rintro ⟨⟨(level : Int), _⟩, _⟩ sv h
  refine Leads.eq (Leads.of_eq (tsigns level) ?_)
  have h := Out_leaf h
  repeat' (first | refine Leads.brD (fun _ => ?_) (fun _ => ?_) | refine Leads.brE (fun _ => ?_) (fun _ => ?_) | refine Leads.brN (fun _ => ?_) (fun _ => ?_) | refine Leads.brM (fun _ => ?_) (fun _ => ?_) | refine Leads.brG (fun _ => ?_) (fun _ => ?_) | refine Leads.br (fun _ => ?_) (fun _ => ?_) | refine Leads.chk ?_ (fun _ => ?_) | refine Leads.one ?_ | refine Leads.brP (fun _ => ?_) (fun _ => ?_))
  all_goals (rw [h]; simp only [signL, *, if_true, if_false]; rfl)
def Esigns : Es := (34, Ssigns) :: Esign
theorem oksigns : SatE P (En (Esigns)) := SatE.cons (satsigns) oksign
/-! ### legation/formula.Needs -/
def LNeeds : Ls := []
def SNeeds := mkS [(true, ptS)] fun ⟨(p : RowE ptS), _⟩ => .leaf (.val (.d (.int .i64 (needsS p))))
theorem tNeeds (p : RowE ptS) : evF T (En (Esigns)) (Ln (LNeeds)) Try.f24 [.agg (rowD ptS p)] =
    br (decide (p.fst ≥ (1 : Int))) (br (decide (p.fst ≤ (3 : Int))) (some (SV.val (AV.d (D.int IntKind.i64 (0 : Int))))) (br (p.fst == (4 : Int)) (some (SV.val (AV.d (D.int IntKind.i64 (1 : Int))))) (br (p.fst == (5 : Int)) (some (SV.val (AV.d (D.int IntKind.i64 (1 : Int))))) (br (decide (p.fst ≥ (18 : Int))) (br (decide (p.fst ≤ (23 : Int))) (some (SV.val (AV.d (D.int IntKind.i64 (1 : Int))))) (br (decide (p.fst ≥ (6 : Int))) (br (decide (p.fst ≤ (17 : Int))) (some (SV.val (AV.d (D.int IntKind.i64 (2 : Int))))) (br (p.fst == (24 : Int)) (some (SV.val (AV.d (D.int IntKind.i64 (2 : Int))))) (br (p.fst == (25 : Int)) (some (SV.val (AV.d (D.int IntKind.i64 (3 : Int))))) (br (p.fst == (26 : Int)) (br (decide (p.snd.snd.snd.snd.snd.snd.fst ≥ (1 : Int))) (br (decide (p.snd.snd.snd.snd.snd.snd.fst ≤ (16 : Int))) (some (SV.val (AV.d (D.int IntKind.i64 p.snd.snd.snd.snd.snd.snd.fst)))) (some (SV.val (AV.d (D.int IntKind.i64 (-1 : Int)))))) (some (SV.val (AV.d (D.int IntKind.i64 (-1 : Int)))))) (some (SV.val (AV.d (D.int IntKind.i64 (-1 : Int))))))))) (br (p.fst == (24 : Int)) (some (SV.val (AV.d (D.int IntKind.i64 (2 : Int))))) (br (p.fst == (25 : Int)) (some (SV.val (AV.d (D.int IntKind.i64 (3 : Int))))) (br (p.fst == (26 : Int)) (br (decide (p.snd.snd.snd.snd.snd.snd.fst ≥ (1 : Int))) (br (decide (p.snd.snd.snd.snd.snd.snd.fst ≤ (16 : Int))) (some (SV.val (AV.d (D.int IntKind.i64 p.snd.snd.snd.snd.snd.snd.fst)))) (some (SV.val (AV.d (D.int IntKind.i64 (-1 : Int)))))) (some (SV.val (AV.d (D.int IntKind.i64 (-1 : Int)))))) (some (SV.val (AV.d (D.int IntKind.i64 (-1 : Int)))))))))) (br (decide (p.fst ≥ (6 : Int))) (br (decide (p.fst ≤ (17 : Int))) (some (SV.val (AV.d (D.int IntKind.i64 (2 : Int))))) (br (p.fst == (24 : Int)) (some (SV.val (AV.d (D.int IntKind.i64 (2 : Int))))) (br (p.fst == (25 : Int)) (some (SV.val (AV.d (D.int IntKind.i64 (3 : Int))))) (br (p.fst == (26 : Int)) (br (decide (p.snd.snd.snd.snd.snd.snd.fst ≥ (1 : Int))) (br (decide (p.snd.snd.snd.snd.snd.snd.fst ≤ (16 : Int))) (some (SV.val (AV.d (D.int IntKind.i64 p.snd.snd.snd.snd.snd.snd.fst)))) (some (SV.val (AV.d (D.int IntKind.i64 (-1 : Int)))))) (some (SV.val (AV.d (D.int IntKind.i64 (-1 : Int)))))) (some (SV.val (AV.d (D.int IntKind.i64 (-1 : Int))))))))) (br (p.fst == (24 : Int)) (some (SV.val (AV.d (D.int IntKind.i64 (2 : Int))))) (br (p.fst == (25 : Int)) (some (SV.val (AV.d (D.int IntKind.i64 (3 : Int))))) (br (p.fst == (26 : Int)) (br (decide (p.snd.snd.snd.snd.snd.snd.fst ≥ (1 : Int))) (br (decide (p.snd.snd.snd.snd.snd.snd.fst ≤ (16 : Int))) (some (SV.val (AV.d (D.int IntKind.i64 p.snd.snd.snd.snd.snd.snd.fst)))) (some (SV.val (AV.d (D.int IntKind.i64 (-1 : Int)))))) (some (SV.val (AV.d (D.int IntKind.i64 (-1 : Int)))))) (some (SV.val (AV.d (D.int IntKind.i64 (-1 : Int)))))))))))))
  (br (p.fst == (4 : Int)) (some (SV.val (AV.d (D.int IntKind.i64 (1 : Int))))) (br (p.fst == (5 : Int)) (some (SV.val (AV.d (D.int IntKind.i64 (1 : Int))))) (br (decide (p.fst ≥ (18 : Int))) (br (decide (p.fst ≤ (23 : Int))) (some (SV.val (AV.d (D.int IntKind.i64 (1 : Int))))) (br (decide (p.fst ≥ (6 : Int))) (br (decide (p.fst ≤ (17 : Int))) (some (SV.val (AV.d (D.int IntKind.i64 (2 : Int))))) (br (p.fst == (24 : Int)) (some (SV.val (AV.d (D.int IntKind.i64 (2 : Int))))) (br (p.fst == (25 : Int)) (some (SV.val (AV.d (D.int IntKind.i64 (3 : Int))))) (br (p.fst == (26 : Int)) (br (decide (p.snd.snd.snd.snd.snd.snd.fst ≥ (1 : Int))) (br (decide (p.snd.snd.snd.snd.snd.snd.fst ≤ (16 : Int))) (some (SV.val (AV.d (D.int IntKind.i64 p.snd.snd.snd.snd.snd.snd.fst)))) (some (SV.val (AV.d (D.int IntKind.i64 (-1 : Int)))))) (some (SV.val (AV.d (D.int IntKind.i64 (-1 : Int)))))) (some (SV.val (AV.d (D.int IntKind.i64 (-1 : Int))))))))) (br (p.fst == (24 : Int)) (some (SV.val (AV.d (D.int IntKind.i64 (2 : Int))))) (br (p.fst == (25 : Int)) (some (SV.val (AV.d (D.int IntKind.i64 (3 : Int))))) (br (p.fst == (26 : Int)) (br (decide (p.snd.snd.snd.snd.snd.snd.fst ≥ (1 : Int))) (br (decide (p.snd.snd.snd.snd.snd.snd.fst ≤ (16 : Int))) (some (SV.val (AV.d (D.int IntKind.i64 p.snd.snd.snd.snd.snd.snd.fst)))) (some (SV.val (AV.d (D.int IntKind.i64 (-1 : Int)))))) (some (SV.val (AV.d (D.int IntKind.i64 (-1 : Int)))))) (some (SV.val (AV.d (D.int IntKind.i64 (-1 : Int)))))))))) (br (decide (p.fst ≥ (6 : Int))) (br (decide (p.fst ≤ (17 : Int))) (some (SV.val (AV.d (D.int IntKind.i64 (2 : Int))))) (br (p.fst == (24 : Int)) (some (SV.val (AV.d (D.int IntKind.i64 (2 : Int))))) (br (p.fst == (25 : Int)) (some (SV.val (AV.d (D.int IntKind.i64 (3 : Int))))) (br (p.fst == (26 : Int)) (br (decide (p.snd.snd.snd.snd.snd.snd.fst ≥ (1 : Int))) (br (decide (p.snd.snd.snd.snd.snd.snd.fst ≤ (16 : Int))) (some (SV.val (AV.d (D.int IntKind.i64 p.snd.snd.snd.snd.snd.snd.fst)))) (some (SV.val (AV.d (D.int IntKind.i64 (-1 : Int)))))) (some (SV.val (AV.d (D.int IntKind.i64 (-1 : Int)))))) (some (SV.val (AV.d (D.int IntKind.i64 (-1 : Int))))))))) (br (p.fst == (24 : Int)) (some (SV.val (AV.d (D.int IntKind.i64 (2 : Int))))) (br (p.fst == (25 : Int)) (some (SV.val (AV.d (D.int IntKind.i64 (3 : Int))))) (br (p.fst == (26 : Int)) (br (decide (p.snd.snd.snd.snd.snd.snd.fst ≥ (1 : Int))) (br (decide (p.snd.snd.snd.snd.snd.snd.fst ≤ (16 : Int))) (some (SV.val (AV.d (D.int IntKind.i64 p.snd.snd.snd.snd.snd.snd.fst)))) (some (SV.val (AV.d (D.int IntKind.i64 (-1 : Int)))))) (some (SV.val (AV.d (D.int IntKind.i64 (-1 : Int)))))) (some (SV.val (AV.d (D.int IntKind.i64 (-1 : Int)))))))))))) := by kernel_rfl
theorem satNeeds : Sat P 24 (SNeeds) := by
  refine sat_mk (LT := Ln (LNeeds)) hC oksigns mixed Try.func24 (by kernel_rfl) (c := bodyOf Try.f24) (by kernel_rfl) (by kernel_rfl) ?_ (loops0 (by kernel_rfl))
  rintro ⟨(p : RowE ptS), _⟩ sv h
  refine Leads.eq (Leads.of_eq (tNeeds p) ?_)
  have h := Out_leaf h
  subst h
  obtain ⟨(k : Int), a, b, c, d, e, (n : Int), _⟩ := p
  repeat' (first | refine Leads.brD (fun _ => ?_) (fun _ => ?_) | refine Leads.brE (fun _ => ?_) (fun _ => ?_) | refine Leads.brN (fun _ => ?_) (fun _ => ?_) | refine Leads.brM (fun _ => ?_) (fun _ => ?_) | refine Leads.brG (fun _ => ?_) (fun _ => ?_) | refine Leads.br (fun _ => ?_) (fun _ => ?_) | refine Leads.chk ?_ (fun _ => ?_) | refine Leads.one ?_ | refine Leads.brP (fun _ => ?_) (fun _ => ?_))
  all_goals (dsimp only [CE, KC.T] at *; simp only [needsS])
  all_goals first | (rw [if_pos (by omega)]; done) | (rw [if_neg (by omega), if_pos (by omega)]; done) | (rw [if_neg (by omega), if_neg (by omega), if_pos (by omega)]; done) | (rw [if_neg (by omega), if_neg (by omega), if_neg (by omega), if_pos (by omega)]; done) | (rw [if_neg (by omega), if_neg (by omega), if_neg (by omega), if_neg (by omega), if_pos (by omega)]; done) | (rw [if_neg (by omega), if_neg (by omega), if_neg (by omega), if_neg (by omega), if_neg (by omega)]; done) | (exfalso; omega)
def ENeeds : Es := (24, SNeeds) :: Esigns
theorem okNeeds : SatE P (En (ENeeds)) := SatE.cons (satNeeds) oksigns
end Go.Proofs.Ytoopcfjmmhmamaa.T6
