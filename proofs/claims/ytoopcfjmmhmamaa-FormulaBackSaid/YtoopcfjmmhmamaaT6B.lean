/- Part of a proof of the seat's statements: no statement by itself. -/
import Derived.Test.YtoopcfjmmhmamaaT6A
set_option maxRecDepth 100000
open Go.Proofs.Ytoopcfjmmhmamaa.Lg Go Go.Proofs.Ytoopcfjmmhmamaa.Sp
open Go.Proofs
namespace Go.Proofs.Ytoopcfjmmhmamaa.T6


def SpL (N : Nat) := mkO [true, false] [.box psK, .v false [.int .i64]] fun ⟨(p : KCs psK), ⟨(n : Int), _⟩, _⟩ => .chk (szP p ∧ 0 ≤ n ∧ n ≤ 5 ∧ (pf N n p).isSome = true) (.leaf (.val (.tup []), [.box true (KCs.svs psK (pfD N n p))]))
def SpS (N : Nat) := mkO [true] [.box psK] fun ⟨(p : KCs psK), _⟩ => .chk (szP p ∧ (pf N 6 p).isSome = true) (.leaf (.val (.tup []), [.box true (KCs.svs psK (pfD N 6 p))]))
def ER (N : Nat) : Es := (22, .o (SpL N)) :: (33, .o (SpS N)) :: ENeeds
/-! ### (*legation/formula.parser).call -/
def lkp_call_0 (N : Nat) : St [.box [.v (.sl tkS), .v (.int .i64), .a ptS, .v .bool], .v false [.int .i64]] → Prop := fun ⟨(p : KCs [.v (.sl tkS), .v (.int .i64), .a ptS, .v .bool]), ⟨(n : Int), _⟩, _⟩ => szP p ∧ 0 ≤ n ∧ n ≤ p.2.1 + 1 ∧ (argsP (pf N 0) n p).isSome = true
def lgp_call_0 (N : Nat) : St [.box [.v (.sl tkS), .v (.int .i64), .a ptS, .v .bool], .v false [.int .i64]] → Tr (Ex × List SV) := fun ⟨(p : KCs [.v (.sl tkS), .v (.int .i64), .a ptS, .v .bool]), ⟨(n : Int), _⟩, _⟩ => .leaf (.exit 0, [.box true (KCs.svs [.v (.sl tkS), .v (.int .i64), .a ptS, .v .bool] ((argsD N n p).2)), .val (.d (.int .i64 ((argsD N n p).1)))])
def lmp_call_0 (N : Nat) : St [.box [.v (.sl tkS), .v (.int .i64), .a ptS, .v .bool], .v false [.int .i64]] → Nat := fun ⟨(p : KCs [.v (.sl tkS), .v (.int .i64), .a ptS, .v .bool]), ⟨(n : Int), _⟩, _⟩ => leftP p + (if n = 0 then 2 else 1)
def lsp_call_0 (N : Nat) : LoopS := mkR [0, 4] [0, 4] [0] [.box [.v (.sl tkS), .v (.int .i64), .a ptS, .v .bool], .v false [.int .i64]] (fun r => .chk (lkp_call_0 N r) (lgp_call_0 N r))
def Lp_call (N : Nat) : Ls := [(2, lsp_call_0 N)]
def Sp_call (N : Nat) := mkO [true, false] [.box [.v (.sl tkS), .v (.int .i64), .a ptS, .v .bool], .v false [.int .i64]] fun ⟨(p : KCs [.v (.sl tkS), .v (.int .i64), .a ptS, .v .bool]), ⟨(kind : Int), _⟩, _⟩ => .chk (szP p ∧ (callP (pf N 0) kind p).isSome = true) (.leaf (.val (.tup []), [.box true (KCs.svs psK (callD N kind p))]))
theorem ltp_call_0 (N : Nat) (p : KCs [.v (.sl tkS), .v (.int .i64), .a ptS, .v .bool]) (n : Int) : evRound T (En (ER N)) (Ln (Lp_call N)) (loopAt 0 (loops (bodyOf Try.f70))) (lsp_call_0 N) [.box true (KCs.svs [.v (.sl tkS), .v (.int .i64), .a ptS, .v .bool] p), .val (.d (.int .i64 n))] =
    br (!p.snd.snd.snd.fst) (br (n == (0 : Int)) (chk (szP p ∧ (0 : Int) ≤ (0 : Int) ∧ (0 : Int) ≤ (5 : Int) ∧ (pf N (0 : Int) p).isSome = true) (some (Rnd.again [SV.box true [SV.val (AV.d (D.sl tkS (pfD N (0 : Int) p).fst)), SV.val (AV.d (D.int IntKind.i64 (pfD N (0 : Int) p).snd.fst)), SV.app ptS (pfD N (0 : Int) p).snd.snd.fst, SV.val (AV.d (D.bool (pfD N (0 : Int) p).snd.snd.snd.fst))], SV.val (AV.d (D.int IntKind.i64 (IntKind.i64.wrap (n + (1 : Int)))))]))) (chk (szP p) (br (isP p (5 : Int) [(44 : UInt8)]) (chk (szP (takeP p [(44 : UInt8)]) ∧ (0 : Int) ≤ (0 : Int) ∧ (0 : Int) ≤ (5 : Int) ∧ (pf N (0 : Int) (takeP p [(44 : UInt8)])).isSome = true) (some (Rnd.again [SV.box true [SV.val (AV.d (D.sl tkS (pfD N (0 : Int) (takeP p [(44 : UInt8)])).fst)), SV.val (AV.d (D.int IntKind.i64 (pfD N (0 : Int) (takeP p [(44 : UInt8)])).snd.fst)), SV.app ptS (pfD N (0 : Int) (takeP p [(44 : UInt8)])).snd.snd.fst, SV.val (AV.d (D.bool (pfD N (0 : Int) (takeP p [(44 : UInt8)])).snd.snd.snd.fst))], SV.val (AV.d (D.int IntKind.i64 (IntKind.i64.wrap (n + (1 : Int)))))]))) (some (Rnd.out (Ex.exit (0 : Nat)) [SV.box true [SV.val (AV.d (D.sl tkS (takeP p [(44 : UInt8)]).fst)), SV.val (AV.d (D.int IntKind.i64 (takeP p [(44 : UInt8)]).snd.fst)), SV.app ptS (takeP p [(44 : UInt8)]).snd.snd.fst, SV.val (AV.d (D.bool (takeP p [(44 : UInt8)]).snd.snd.snd.fst))], SV.val (AV.d (D.int IntKind.i64 n))]))))) (some (Rnd.out (Ex.exit (0 : Nat)) [SV.box true [SV.val (AV.d (D.sl tkS p.fst)), SV.val (AV.d (D.int IntKind.i64 p.snd.fst)), SV.app ptS p.snd.snd.fst, SV.val (AV.d (D.bool p.snd.snd.snd.fst))], SV.val (AV.d (D.int IntKind.i64 n))])) := by kernel_rfl
theorem lokp_call_0 (N : Nat) : LoopOK T (En (ER N)) (Ln (Lp_call N)) (loopAt 0 (loops (bodyOf Try.f70))) := by
  refine loop_ok (live := [0, 4]) (outs := [0, 4]) (rets := [0]) (ks := [.box [.v (.sl tkS), .v (.int .i64), .a ptS, .v .bool], .v false [.int .i64]]) (G := lgp_call_0 N) (lkp_call_0 N) (lmp_call_0 N) (by kernel_rfl) ?_
  rintro ⟨(p : KCs [.v (.sl tkS), .v (.int .i64), .a ptS, .v .bool]), ⟨(n : Int), _⟩, _⟩ x hok hx
  refine Leads.of_eq (ltp_call_0 N p n) ?_
  obtain ⟨hs, hn, hn2, hi⟩ := hok
  obtain rfl := Out_leaf hx
  have hp := szP_in hs
  have st := argsP_step (pf_stp N 0) hn hp
  have h1 := hs.2.1
  have h4 := hs.2.2.2
  refine Leads.brG (fun hb => Leads.one (Goes.out ?_)) (fun hb => ?_)
  · rw [if_pos hb] at st
    have e : argsD N n p = (n, p) := by simp [argsD, st]
    rw [e]; rfl
  · rw [if_neg (by simp [hb])] at st
    refine Leads.brE (fun q => ?_) (fun q => Leads.chk hs fun _ => Leads.br (fun w => ?_) (fun w => Leads.one (Goes.out ?_)))
    · subst q
      rw [if_pos rfl] at st
      rw [st] at hi
      obtain ⟨q, hq, hi⟩ := bind_is hi
      obtain ⟨r, hr⟩ := is_some hi
      have hst := pf_stp N 0 _ _ hp hq
      refine Leads.chk ⟨hs, by decide, by decide, isSome_e hq⟩ fun _ => Leads.one ?_
      rw [pfD_e hq, wrap64 (by omega) (by omega)]
      refine Goes.again (ks := [.box [.v (.sl tkS), .v (.int .i64), .a ptS, .v .bool], .v false [.int .i64]]) (q, (0 + 1, ()), ()) rfl ?_ ?_ ?_
      · exact ⟨szP_stp hs hst (by omega), by decide, by have := hst.2.2.1; show (0 : Int) + 1 ≤ q.2.1 + 1; omega, hi⟩
      · obtain ⟨g1, g2, g3, g4, _⟩ := hst
        show leftP q + (if (0 : Int) + 1 = 0 then 2 else 1) < leftP p + (if (0 : Int) = 0 then 2 else 1)
        rw [if_neg (by decide), if_pos rfl]
        simp only [leftP, g1]; omega
      · have e1 : argsD N 0 p = r := by simp only [argsD, st, hq, Option.bind_some, hr, Option.getD_some]
        have e2 : argsD N (0 + 1) q = r := by simp only [argsD, hr, Option.getD_some]
        show _ = _
        rw [e1, e2]
    · rw [if_neg q, if_pos w] at st
      rw [st] at hi
      obtain ⟨q', hq, hi⟩ := bind_is hi
      obtain ⟨r, hr⟩ := is_some hi
      have wl := isP_lt w
      have ha := stp_adv hp wl
      have hst := pf_stp N 0 _ _ (stp_in ha) hq
      have hst2 := stp_trans ha hst
      rw [takeP_t w]
      refine Leads.chk ⟨szP_stp hs ha (by omega), by decide, by decide, isSome_e hq⟩ fun _ => Leads.one ?_
      rw [pfD_e hq, wrap64 (by omega) (by omega)]
      refine Goes.again (ks := [.box [.v (.sl tkS), .v (.int .i64), .a ptS, .v .bool], .v false [.int .i64]]) (q', (n + 1, ()), ()) rfl ?_ ?_ ?_
      · refine ⟨szP_stp hs hst2 (by omega), (by omega : 0 ≤ n + 1), ?_, hi⟩
        have := hst.2.1
        simp only [adv] at this
        show n + 1 ≤ q'.2.1 + 1
        omega
      · have := left_lt hp hst wl (r := q') rfl rfl
        show leftP q' + (if n + 1 = 0 then 2 else 1) < leftP p + (if n = 0 then 2 else 1)
        rw [if_neg (by omega), if_neg q]; omega
      · have e1 : argsD N n p = r := by simp only [argsD, st, hq, Option.bind_some, hr, Option.getD_some]
        have e2 : argsD N (n + 1) q' = r := by simp only [argsD, hr, Option.getD_some]
        show _ = _
        rw [e1, e2]
    · have w : isP p 5 [44] = false := w
      rw [if_neg q, if_neg (by simp [w])] at st
      have e : argsD N n p = (n, p) := by simp [argsD, st]
      rw [e, takeP_f w]; rfl
theorem tp_call (N : Nat) (p : KCs [.v (.sl tkS), .v (.int .i64), .a ptS, .v .bool]) (kind : Int) : evFO T (En (ER N)) (Ln (Lp_call N)) Try.f70 [.box true (KCs.svs [.v (.sl tkS), .v (.int .i64), .a ptS, .v .bool] p), .val (.d (.int .i64 kind))] =
    chk (szP p)
  (chk (lkp_call_0 N (mustP p [(40 : UInt8)], ((0 : Int), ()), ()))
    (chk (szP (argsD N (0 : Int) (mustP p [(40 : UInt8)])).snd)
      (br (kind == (26 : Int))
        (br (mustP (argsD N (0 : Int) (mustP p [(40 : UInt8)])).snd [(41 : UInt8)]).snd.snd.snd.fst (chk (List.length (mustP (argsD N (0 : Int) (mustP p [(40 : UInt8)])).snd [(41 : UInt8)]).snd.snd.fst < (1000000000000 : Nat)) (some (SV.val (AV.tup []), [SV.box true [SV.val (AV.d (D.sl tkS (addP ((mustP (argsD N (0 : Int) (mustP p [(40 : UInt8)])).snd [(41 : UInt8)]).fst, (mustP (argsD N (0 : Int) (mustP p [(40 : UInt8)])).snd [(41 : UInt8)]).snd.fst, (mustP (argsD N (0 : Int) (mustP p [(40 : UInt8)])).snd [(41 : UInt8)]).snd.snd.fst, true, ()) (kind, CE.dflt (Sh.int IntKind.i64), CE.dflt Sh.str, CE.dflt Sh.str, CE.dflt Sh.str, CE.dflt Sh.str, (argsD N (0 : Int) (mustP p [(40 : UInt8)])).fst, ())).fst)), SV.val (AV.d (D.int IntKind.i64 (addP ((mustP (argsD N (0 : Int) (mustP p [(40 : UInt8)])).snd [(41 : UInt8)]).fst, (mustP (argsD N (0 : Int) (mustP p [(40 : UInt8)])).snd [(41 : UInt8)]).snd.fst, (mustP (argsD N (0 : Int) (mustP p [(40 : UInt8)])).snd [(41 : UInt8)]).snd.snd.fst, true, ()) (kind, CE.dflt (Sh.int IntKind.i64), CE.dflt Sh.str, CE.dflt Sh.str, CE.dflt Sh.str, CE.dflt Sh.str, (argsD N (0 : Int) (mustP p [(40 : UInt8)])).fst, ())).snd.fst)), SV.app ptS (addP ((mustP (argsD N (0 : Int) (mustP p [(40 : UInt8)])).snd [(41 : UInt8)]).fst, (mustP (argsD N (0 : Int) (mustP p [(40 : UInt8)])).snd [(41 : UInt8)]).snd.fst, (mustP (argsD N (0 : Int) (mustP p [(40 : UInt8)])).snd [(41 : UInt8)]).snd.snd.fst, true, ()) (kind, CE.dflt (Sh.int IntKind.i64), CE.dflt Sh.str, CE.dflt Sh.str, CE.dflt Sh.str, CE.dflt Sh.str, (argsD N (0 : Int) (mustP p [(40 : UInt8)])).fst, ())).snd.snd.fst, SV.val (AV.d (D.bool (addP ((mustP (argsD N (0 : Int) (mustP p [(40 : UInt8)])).snd [(41 : UInt8)]).fst, (mustP (argsD N (0 : Int) (mustP p [(40 : UInt8)])).snd [(41 : UInt8)]).snd.fst, (mustP (argsD N (0 : Int) (mustP p [(40 : UInt8)])).snd [(41 : UInt8)]).snd.snd.fst, true, ()) (kind, CE.dflt (Sh.int IntKind.i64), CE.dflt Sh.str, CE.dflt Sh.str, CE.dflt Sh.str, CE.dflt Sh.str, (argsD N (0 : Int) (mustP p [(40 : UInt8)])).fst, ())).snd.snd.snd.fst))]])))
          (chk (List.length (mustP (argsD N (0 : Int) (mustP p [(40 : UInt8)])).snd [(41 : UInt8)]).snd.snd.fst < (1000000000000 : Nat)) (some (SV.val (AV.tup []), [SV.box true [SV.val (AV.d (D.sl tkS (addP ((mustP (argsD N (0 : Int) (mustP p [(40 : UInt8)])).snd [(41 : UInt8)]).fst, (mustP (argsD N (0 : Int) (mustP p [(40 : UInt8)])).snd [(41 : UInt8)]).snd.fst, (mustP (argsD N (0 : Int) (mustP p [(40 : UInt8)])).snd [(41 : UInt8)]).snd.snd.fst, needsS (kind, CE.dflt (Sh.int IntKind.i64), CE.dflt Sh.str, CE.dflt Sh.str, CE.dflt Sh.str, CE.dflt Sh.str, (argsD N (0 : Int) (mustP p [(40 : UInt8)])).fst, ()) != (argsD N (0 : Int) (mustP p [(40 : UInt8)])).fst, ()) (kind, CE.dflt (Sh.int IntKind.i64), CE.dflt Sh.str, CE.dflt Sh.str, CE.dflt Sh.str, CE.dflt Sh.str, (argsD N (0 : Int) (mustP p [(40 : UInt8)])).fst, ())).fst)), SV.val (AV.d (D.int IntKind.i64 (addP ((mustP (argsD N (0 : Int) (mustP p [(40 : UInt8)])).snd [(41 : UInt8)]).fst, (mustP (argsD N (0 : Int) (mustP p [(40 : UInt8)])).snd [(41 : UInt8)]).snd.fst, (mustP (argsD N (0 : Int) (mustP p [(40 : UInt8)])).snd [(41 : UInt8)]).snd.snd.fst, needsS (kind, CE.dflt (Sh.int IntKind.i64), CE.dflt Sh.str, CE.dflt Sh.str, CE.dflt Sh.str, CE.dflt Sh.str, (argsD N (0 : Int) (mustP p [(40 : UInt8)])).fst, ()) != (argsD N (0 : Int) (mustP p [(40 : UInt8)])).fst, ()) (kind, CE.dflt (Sh.int IntKind.i64), CE.dflt Sh.str, CE.dflt Sh.str, CE.dflt Sh.str, CE.dflt Sh.str, (argsD N (0 : Int) (mustP p [(40 : UInt8)])).fst, ())).snd.fst)), SV.app ptS (addP ((mustP (argsD N (0 : Int) (mustP p [(40 : UInt8)])).snd [(41 : UInt8)]).fst, (mustP (argsD N (0 : Int) (mustP p [(40 : UInt8)])).snd [(41 : UInt8)]).snd.fst, (mustP (argsD N (0 : Int) (mustP p [(40 : UInt8)])).snd [(41 : UInt8)]).snd.snd.fst, needsS (kind, CE.dflt (Sh.int IntKind.i64), CE.dflt Sh.str, CE.dflt Sh.str, CE.dflt Sh.str, CE.dflt Sh.str, (argsD N (0 : Int) (mustP p [(40 : UInt8)])).fst, ()) != (argsD N (0 : Int) (mustP p [(40 : UInt8)])).fst, ()) (kind, CE.dflt (Sh.int IntKind.i64), CE.dflt Sh.str, CE.dflt Sh.str, CE.dflt Sh.str, CE.dflt Sh.str, (argsD N (0 : Int) (mustP p [(40 : UInt8)])).fst, ())).snd.snd.fst, SV.val (AV.d (D.bool (addP ((mustP (argsD N (0 : Int) (mustP p [(40 : UInt8)])).snd [(41 : UInt8)]).fst, (mustP (argsD N (0 : Int) (mustP p [(40 : UInt8)])).snd [(41 : UInt8)]).snd.fst, (mustP (argsD N (0 : Int) (mustP p [(40 : UInt8)])).snd [(41 : UInt8)]).snd.snd.fst, needsS (kind, CE.dflt (Sh.int IntKind.i64), CE.dflt Sh.str, CE.dflt Sh.str, CE.dflt Sh.str, CE.dflt Sh.str, (argsD N (0 : Int) (mustP p [(40 : UInt8)])).fst, ()) != (argsD N (0 : Int) (mustP p [(40 : UInt8)])).fst, ()) (kind, CE.dflt (Sh.int IntKind.i64), CE.dflt Sh.str, CE.dflt Sh.str, CE.dflt Sh.str, CE.dflt Sh.str, (argsD N (0 : Int) (mustP p [(40 : UInt8)])).fst, ())).snd.snd.snd.fst))]]))))
        (br (mustP (argsD N (0 : Int) (mustP p [(40 : UInt8)])).snd [(41 : UInt8)]).snd.snd.snd.fst (chk (List.length (mustP (argsD N (0 : Int) (mustP p [(40 : UInt8)])).snd [(41 : UInt8)]).snd.snd.fst < (1000000000000 : Nat)) (some (SV.val (AV.tup []), [SV.box true [SV.val (AV.d (D.sl tkS (addP ((mustP (argsD N (0 : Int) (mustP p [(40 : UInt8)])).snd [(41 : UInt8)]).fst, (mustP (argsD N (0 : Int) (mustP p [(40 : UInt8)])).snd [(41 : UInt8)]).snd.fst, (mustP (argsD N (0 : Int) (mustP p [(40 : UInt8)])).snd [(41 : UInt8)]).snd.snd.fst, true, ()) (kind, CE.dflt (Sh.int IntKind.i64), CE.dflt Sh.str, CE.dflt Sh.str, CE.dflt Sh.str, CE.dflt Sh.str, CE.dflt (Sh.int IntKind.i64), ())).fst)), SV.val (AV.d (D.int IntKind.i64 (addP ((mustP (argsD N (0 : Int) (mustP p [(40 : UInt8)])).snd [(41 : UInt8)]).fst, (mustP (argsD N (0 : Int) (mustP p [(40 : UInt8)])).snd [(41 : UInt8)]).snd.fst, (mustP (argsD N (0 : Int) (mustP p [(40 : UInt8)])).snd [(41 : UInt8)]).snd.snd.fst, true, ()) (kind, CE.dflt (Sh.int IntKind.i64), CE.dflt Sh.str, CE.dflt Sh.str, CE.dflt Sh.str, CE.dflt Sh.str, CE.dflt (Sh.int IntKind.i64), ())).snd.fst)), SV.app ptS (addP ((mustP (argsD N (0 : Int) (mustP p [(40 : UInt8)])).snd [(41 : UInt8)]).fst, (mustP (argsD N (0 : Int) (mustP p [(40 : UInt8)])).snd [(41 : UInt8)]).snd.fst, (mustP (argsD N (0 : Int) (mustP p [(40 : UInt8)])).snd [(41 : UInt8)]).snd.snd.fst, true, ()) (kind, CE.dflt (Sh.int IntKind.i64), CE.dflt Sh.str, CE.dflt Sh.str, CE.dflt Sh.str, CE.dflt Sh.str, CE.dflt (Sh.int IntKind.i64), ())).snd.snd.fst, SV.val (AV.d (D.bool (addP ((mustP (argsD N (0 : Int) (mustP p [(40 : UInt8)])).snd [(41 : UInt8)]).fst, (mustP (argsD N (0 : Int) (mustP p [(40 : UInt8)])).snd [(41 : UInt8)]).snd.fst, (mustP (argsD N (0 : Int) (mustP p [(40 : UInt8)])).snd [(41 : UInt8)]).snd.snd.fst, true, ()) (kind, CE.dflt (Sh.int IntKind.i64), CE.dflt Sh.str, CE.dflt Sh.str, CE.dflt Sh.str, CE.dflt Sh.str, CE.dflt (Sh.int IntKind.i64), ())).snd.snd.snd.fst))]])))
          (chk (List.length (mustP (argsD N (0 : Int) (mustP p [(40 : UInt8)])).snd [(41 : UInt8)]).snd.snd.fst < (1000000000000 : Nat)) (some (SV.val (AV.tup []), [SV.box true [SV.val (AV.d (D.sl tkS (addP ((mustP (argsD N (0 : Int) (mustP p [(40 : UInt8)])).snd [(41 : UInt8)]).fst, (mustP (argsD N (0 : Int) (mustP p [(40 : UInt8)])).snd [(41 : UInt8)]).snd.fst, (mustP (argsD N (0 : Int) (mustP p [(40 : UInt8)])).snd [(41 : UInt8)]).snd.snd.fst, needsS (kind, CE.dflt (Sh.int IntKind.i64), CE.dflt Sh.str, CE.dflt Sh.str, CE.dflt Sh.str, CE.dflt Sh.str, CE.dflt (Sh.int IntKind.i64), ()) != (argsD N (0 : Int) (mustP p [(40 : UInt8)])).fst, ()) (kind, CE.dflt (Sh.int IntKind.i64), CE.dflt Sh.str, CE.dflt Sh.str, CE.dflt Sh.str, CE.dflt Sh.str, CE.dflt (Sh.int IntKind.i64), ())).fst)), SV.val (AV.d (D.int IntKind.i64 (addP ((mustP (argsD N (0 : Int) (mustP p [(40 : UInt8)])).snd [(41 : UInt8)]).fst, (mustP (argsD N (0 : Int) (mustP p [(40 : UInt8)])).snd [(41 : UInt8)]).snd.fst, (mustP (argsD N (0 : Int) (mustP p [(40 : UInt8)])).snd [(41 : UInt8)]).snd.snd.fst, needsS (kind, CE.dflt (Sh.int IntKind.i64), CE.dflt Sh.str, CE.dflt Sh.str, CE.dflt Sh.str, CE.dflt Sh.str, CE.dflt (Sh.int IntKind.i64), ()) != (argsD N (0 : Int) (mustP p [(40 : UInt8)])).fst, ()) (kind, CE.dflt (Sh.int IntKind.i64), CE.dflt Sh.str, CE.dflt Sh.str, CE.dflt Sh.str, CE.dflt Sh.str, CE.dflt (Sh.int IntKind.i64), ())).snd.fst)), SV.app ptS (addP ((mustP (argsD N (0 : Int) (mustP p [(40 : UInt8)])).snd [(41 : UInt8)]).fst, (mustP (argsD N (0 : Int) (mustP p [(40 : UInt8)])).snd [(41 : UInt8)]).snd.fst, (mustP (argsD N (0 : Int) (mustP p [(40 : UInt8)])).snd [(41 : UInt8)]).snd.snd.fst, needsS (kind, CE.dflt (Sh.int IntKind.i64), CE.dflt Sh.str, CE.dflt Sh.str, CE.dflt Sh.str, CE.dflt Sh.str, CE.dflt (Sh.int IntKind.i64), ()) != (argsD N (0 : Int) (mustP p [(40 : UInt8)])).fst, ()) (kind, CE.dflt (Sh.int IntKind.i64), CE.dflt Sh.str, CE.dflt Sh.str, CE.dflt Sh.str, CE.dflt Sh.str, CE.dflt (Sh.int IntKind.i64), ())).snd.snd.fst, SV.val (AV.d (D.bool (addP ((mustP (argsD N (0 : Int) (mustP p [(40 : UInt8)])).snd [(41 : UInt8)]).fst, (mustP (argsD N (0 : Int) (mustP p [(40 : UInt8)])).snd [(41 : UInt8)]).snd.fst, (mustP (argsD N (0 : Int) (mustP p [(40 : UInt8)])).snd [(41 : UInt8)]).snd.snd.fst, needsS (kind, CE.dflt (Sh.int IntKind.i64), CE.dflt Sh.str, CE.dflt Sh.str, CE.dflt Sh.str, CE.dflt Sh.str, CE.dflt (Sh.int IntKind.i64), ()) != (argsD N (0 : Int) (mustP p [(40 : UInt8)])).fst, ()) (kind, CE.dflt (Sh.int IntKind.i64), CE.dflt Sh.str, CE.dflt Sh.str, CE.dflt Sh.str, CE.dflt Sh.str, CE.dflt (Sh.int IntKind.i64), ())).snd.snd.snd.fst))]]))))))) := by kernel_rfl
theorem satp_call (N : Nat) (okN : SatE P (En (ER N))) : SatO P 70 (Sp_call N) := by
  refine sat_mkO (LT := Ln (Lp_call N)) hC okN mixed Try.func70 (by kernel_rfl) (c := bodyOf Try.f70) (by kernel_rfl) (by kernel_rfl) ?_ (loops1 (by kernel_rfl) (lokp_call_0 N))
  rintro ⟨(p : KCs [.v (.sl tkS), .v (.int .i64), .a ptS, .v .bool]), ⟨(kind : Int), _⟩, _⟩ sv h
  refine Leads.eq (Leads.of_eq (tp_call N p kind) ?_)
  obtain ⟨⟨hs, hi⟩, h⟩ := h
  have h := Out_leaf h
  subst h
  have hp := szP_in hs
  have hm := stp_must [40] hp
  obtain ⟨r, hr⟩ := map_is hi
  have ha := argsF_stp (pf_stp N 0) _ _ _ _ (stp_in hm) hr
  have eD : argsD N 0 (mustP p [40]) = r := by simp [argsD, hr]
  have eC : callD N kind p = addP (badIf (decide (needsS (callX kind r.1) ≠ r.1)) (mustP r.2 [41])) (callX kind r.1) := by simp [callD, callP, hr]
  have s1 := szP_stp hs hm (by omega)
  have s2 := szP_stp s1 ha (by omega)
  have s3 := szP_stp s2 (stp_must [41] (szP_in s2)) (by omega)
  rw [eD, eC]
  refine Leads.chk hs fun _ => Leads.chk ⟨s1, by decide, by have := s1.1; omega, isSome_e hr⟩ fun _ => Leads.chk s2 fun _ => Leads.brE (fun q => ?_) (fun q => ?_)
  · subst q
    rw [callX_26]
    refine Leads.br (fun b => Leads.chk (szP_lt s3) fun _ => Leads.one ?_) (fun b => Leads.chk (szP_lt s3) fun _ => Leads.one ?_)
    · rw [badIf_t _ b]; rfl
    · rw [badIf_f _ b, ne_dec]; rfl
  · rw [callX_n _ q]
    refine Leads.br (fun b => Leads.chk (szP_lt s3) fun _ => Leads.one ?_) (fun b => Leads.chk (szP_lt s3) fun _ => Leads.one ?_)
    · rw [badIf_t _ b]; rfl
    · rw [badIf_f _ b, ne_dec]; rfl
def Ep_call (N : Nat) : Es := (70, .o (Sp_call N)) :: ER N
theorem okp_call (N : Nat) (okN : SatE P (En (ER N))) : SatE P (En (Ep_call N)) := SatE.consO (satp_call N okN) okN
/-! ### (*legation/formula.parser).word -/
def lsp_word_0 (N : Nat) : LoopS := mkU 10
def Lp_word (N : Nat) : Ls := [(13, lsp_word_0 N)]
def Sp_word (N : Nat) := mkO [true, false] [.box [.v (.sl tkS), .v (.int .i64), .a ptS, .v .bool], .v false [.str]] fun ⟨(p : KCs [.v (.sl tkS), .v (.int .i64), .a ptS, .v .bool]), ⟨(s : List UInt8), _⟩, _⟩ => .chk (szP p ∧ (wordP (pf N 0) s p).isSome = true) (.leaf (.val (.tup []), [.box true (KCs.svs psK (wordD N s p))]))
theorem tp_word (N : Nat) (p : KCs [.v (.sl tkS), .v (.int .i64), .a ptS, .v .bool]) (s : List UInt8) : evFO T (En (Ep_call N)) (Ln (Lp_word N)) Try.f61 [.box true (KCs.svs [.v (.sl tkS), .v (.int .i64), .a ptS, .v .bool] p), .val (.d (.str  s))] =
    br (s == [(84 : UInt8), (82 : UInt8), (85 : UInt8), (69 : UInt8)]) (chk (List.length p.snd.snd.fst < (1000000000000 : Nat)) (some (SV.val (AV.tup []), [SV.box true [SV.val (AV.d (D.sl tkS (addP p ((1 : Int), (2 : Int), [(116 : UInt8), (114 : UInt8), (117 : UInt8), (101 : UInt8)], [(104 : UInt8), (116 : UInt8), (116 : UInt8), (112 : UInt8), (58 : UInt8), (47 : UInt8), (47 : UInt8), (119 : UInt8), (119 : UInt8), (119 : UInt8), (46 : UInt8), (119 : UInt8), (51 : UInt8), (46 : UInt8), (111 : UInt8), (114 : UInt8), (103 : UInt8), (47 : UInt8), (50 : UInt8), (48 : UInt8), (48 : UInt8), (49 : UInt8), (47 : UInt8), (88 : UInt8), (77 : UInt8), (76 : UInt8), (83 : UInt8), (99 : UInt8), (104 : UInt8), (101 : UInt8), (109 : UInt8), (97 : UInt8), (35 : UInt8), (98 : UInt8), (111 : UInt8), (111 : UInt8), (108 : UInt8), (101 : UInt8), (97 : UInt8), (110 : UInt8)], CE.dflt Sh.str, CE.dflt Sh.str, CE.dflt (Sh.int IntKind.i64), ())).fst)), SV.val (AV.d (D.int IntKind.i64 (addP p ((1 : Int), (2 : Int), [(116 : UInt8), (114 : UInt8), (117 : UInt8), (101 : UInt8)], [(104 : UInt8), (116 : UInt8), (116 : UInt8), (112 : UInt8), (58 : UInt8), (47 : UInt8), (47 : UInt8), (119 : UInt8), (119 : UInt8), (119 : UInt8), (46 : UInt8), (119 : UInt8), (51 : UInt8), (46 : UInt8), (111 : UInt8), (114 : UInt8), (103 : UInt8), (47 : UInt8), (50 : UInt8), (48 : UInt8), (48 : UInt8), (49 : UInt8), (47 : UInt8), (88 : UInt8), (77 : UInt8), (76 : UInt8), (83 : UInt8), (99 : UInt8), (104 : UInt8), (101 : UInt8), (109 : UInt8), (97 : UInt8), (35 : UInt8), (98 : UInt8), (111 : UInt8), (111 : UInt8), (108 : UInt8), (101 : UInt8), (97 : UInt8), (110 : UInt8)], CE.dflt Sh.str, CE.dflt Sh.str, CE.dflt (Sh.int IntKind.i64), ())).snd.fst)), SV.app ptS (addP p ((1 : Int), (2 : Int), [(116 : UInt8), (114 : UInt8), (117 : UInt8), (101 : UInt8)], [(104 : UInt8), (116 : UInt8), (116 : UInt8), (112 : UInt8), (58 : UInt8), (47 : UInt8), (47 : UInt8), (119 : UInt8), (119 : UInt8), (119 : UInt8), (46 : UInt8), (119 : UInt8), (51 : UInt8), (46 : UInt8), (111 : UInt8), (114 : UInt8), (103 : UInt8), (47 : UInt8), (50 : UInt8), (48 : UInt8), (48 : UInt8), (49 : UInt8), (47 : UInt8), (88 : UInt8), (77 : UInt8), (76 : UInt8), (83 : UInt8), (99 : UInt8), (104 : UInt8), (101 : UInt8), (109 : UInt8), (97 : UInt8), (35 : UInt8), (98 : UInt8), (111 : UInt8), (111 : UInt8), (108 : UInt8), (101 : UInt8), (97 : UInt8), (110 : UInt8)], CE.dflt Sh.str, CE.dflt Sh.str, CE.dflt (Sh.int IntKind.i64), ())).snd.snd.fst, SV.val (AV.d (D.bool (addP p ((1 : Int), (2 : Int), [(116 : UInt8), (114 : UInt8), (117 : UInt8), (101 : UInt8)], [(104 : UInt8), (116 : UInt8), (116 : UInt8), (112 : UInt8), (58 : UInt8), (47 : UInt8), (47 : UInt8), (119 : UInt8), (119 : UInt8), (119 : UInt8), (46 : UInt8), (119 : UInt8), (51 : UInt8), (46 : UInt8), (111 : UInt8), (114 : UInt8), (103 : UInt8), (47 : UInt8), (50 : UInt8), (48 : UInt8), (48 : UInt8), (49 : UInt8), (47 : UInt8), (88 : UInt8), (77 : UInt8), (76 : UInt8), (83 : UInt8), (99 : UInt8), (104 : UInt8), (101 : UInt8), (109 : UInt8), (97 : UInt8), (35 : UInt8), (98 : UInt8), (111 : UInt8), (111 : UInt8), (108 : UInt8), (101 : UInt8), (97 : UInt8), (110 : UInt8)], CE.dflt Sh.str, CE.dflt Sh.str, CE.dflt (Sh.int IntKind.i64), ())).snd.snd.snd.fst))]])))
  (br (s == [(70 : UInt8), (65 : UInt8), (76 : UInt8), (83 : UInt8), (69 : UInt8)]) (chk (List.length p.snd.snd.fst < (1000000000000 : Nat)) (some (SV.val (AV.tup []), [SV.box true [SV.val (AV.d (D.sl tkS (addP p ((1 : Int), (2 : Int), [(102 : UInt8), (97 : UInt8), (108 : UInt8), (115 : UInt8), (101 : UInt8)], [(104 : UInt8), (116 : UInt8), (116 : UInt8), (112 : UInt8), (58 : UInt8), (47 : UInt8), (47 : UInt8), (119 : UInt8), (119 : UInt8), (119 : UInt8), (46 : UInt8), (119 : UInt8), (51 : UInt8), (46 : UInt8), (111 : UInt8), (114 : UInt8), (103 : UInt8), (47 : UInt8), (50 : UInt8), (48 : UInt8), (48 : UInt8), (49 : UInt8), (47 : UInt8), (88 : UInt8), (77 : UInt8), (76 : UInt8), (83 : UInt8), (99 : UInt8), (104 : UInt8), (101 : UInt8), (109 : UInt8), (97 : UInt8), (35 : UInt8), (98 : UInt8), (111 : UInt8), (111 : UInt8), (108 : UInt8), (101 : UInt8), (97 : UInt8), (110 : UInt8)], CE.dflt Sh.str, CE.dflt Sh.str, CE.dflt (Sh.int IntKind.i64), ())).fst)), SV.val (AV.d (D.int IntKind.i64 (addP p ((1 : Int), (2 : Int), [(102 : UInt8), (97 : UInt8), (108 : UInt8), (115 : UInt8), (101 : UInt8)], [(104 : UInt8), (116 : UInt8), (116 : UInt8), (112 : UInt8), (58 : UInt8), (47 : UInt8), (47 : UInt8), (119 : UInt8), (119 : UInt8), (119 : UInt8), (46 : UInt8), (119 : UInt8), (51 : UInt8), (46 : UInt8), (111 : UInt8), (114 : UInt8), (103 : UInt8), (47 : UInt8), (50 : UInt8), (48 : UInt8), (48 : UInt8), (49 : UInt8), (47 : UInt8), (88 : UInt8), (77 : UInt8), (76 : UInt8), (83 : UInt8), (99 : UInt8), (104 : UInt8), (101 : UInt8), (109 : UInt8), (97 : UInt8), (35 : UInt8), (98 : UInt8), (111 : UInt8), (111 : UInt8), (108 : UInt8), (101 : UInt8), (97 : UInt8), (110 : UInt8)], CE.dflt Sh.str, CE.dflt Sh.str, CE.dflt (Sh.int IntKind.i64), ())).snd.fst)), SV.app ptS (addP p ((1 : Int), (2 : Int), [(102 : UInt8), (97 : UInt8), (108 : UInt8), (115 : UInt8), (101 : UInt8)], [(104 : UInt8), (116 : UInt8), (116 : UInt8), (112 : UInt8), (58 : UInt8), (47 : UInt8), (47 : UInt8), (119 : UInt8), (119 : UInt8), (119 : UInt8), (46 : UInt8), (119 : UInt8), (51 : UInt8), (46 : UInt8), (111 : UInt8), (114 : UInt8), (103 : UInt8), (47 : UInt8), (50 : UInt8), (48 : UInt8), (48 : UInt8), (49 : UInt8), (47 : UInt8), (88 : UInt8), (77 : UInt8), (76 : UInt8), (83 : UInt8), (99 : UInt8), (104 : UInt8), (101 : UInt8), (109 : UInt8), (97 : UInt8), (35 : UInt8), (98 : UInt8), (111 : UInt8), (111 : UInt8), (108 : UInt8), (101 : UInt8), (97 : UInt8), (110 : UInt8)], CE.dflt Sh.str, CE.dflt Sh.str, CE.dflt (Sh.int IntKind.i64), ())).snd.snd.fst, SV.val (AV.d (D.bool (addP p ((1 : Int), (2 : Int), [(102 : UInt8), (97 : UInt8), (108 : UInt8), (115 : UInt8), (101 : UInt8)], [(104 : UInt8), (116 : UInt8), (116 : UInt8), (112 : UInt8), (58 : UInt8), (47 : UInt8), (47 : UInt8), (119 : UInt8), (119 : UInt8), (119 : UInt8), (46 : UInt8), (119 : UInt8), (51 : UInt8), (46 : UInt8), (111 : UInt8), (114 : UInt8), (103 : UInt8), (47 : UInt8), (50 : UInt8), (48 : UInt8), (48 : UInt8), (49 : UInt8), (47 : UInt8), (88 : UInt8), (77 : UInt8), (76 : UInt8), (83 : UInt8), (99 : UInt8), (104 : UInt8), (101 : UInt8), (109 : UInt8), (97 : UInt8), (35 : UInt8), (98 : UInt8), (111 : UInt8), (111 : UInt8), (108 : UInt8), (101 : UInt8), (97 : UInt8), (110 : UInt8)], CE.dflt Sh.str, CE.dflt Sh.str, CE.dflt (Sh.int IntKind.i64), ())).snd.snd.snd.fst))]])))
    (br (s == [(66 : UInt8), (79 : UInt8), (85 : UInt8), (78 : UInt8), (68 : UInt8)])
      (chk (szP p)
        (br (decide ((mustP p [(40 : UInt8)]).snd.fst < (↑(List.length (mustP p [(40 : UInt8)]).fst) : Int)))
          (chk ((0 : Int) ≤ (mustP p [(40 : UInt8)]).snd.fst ∧ (mustP p [(40 : UInt8)]).snd.fst < (↑(List.length (mustP p [(40 : UInt8)]).fst) : Int))
            (br ((getR tkS (mustP p [(40 : UInt8)]).fst (mustP p [(40 : UInt8)]).snd.fst).fst == (2 : Int))
              (chk ((0 : Int) ≤ (mustP p [(40 : UInt8)]).snd.fst ∧ (mustP p [(40 : UInt8)]).snd.fst < (↑(List.length (mustP p [(40 : UInt8)]).fst) : Int))
                (chk (List.length (mustP p [(40 : UInt8)]).snd.snd.fst < (1000000000000 : Nat))
                  (chk (szP ((addP (mustP p [(40 : UInt8)]) ((3 : Int), CE.dflt (Sh.int IntKind.i64), CE.dflt Sh.str, CE.dflt Sh.str, CE.dflt Sh.str, (getR tkS (mustP p [(40 : UInt8)]).fst (mustP p [(40 : UInt8)]).snd.fst).snd.fst, CE.dflt (Sh.int IntKind.i64), ())).fst, IntKind.i64.wrap ((addP (mustP p [(40 : UInt8)]) ((3 : Int), CE.dflt (Sh.int IntKind.i64), CE.dflt Sh.str, CE.dflt Sh.str, CE.dflt Sh.str, (getR tkS (mustP p [(40 : UInt8)]).fst (mustP p [(40 : UInt8)]).snd.fst).snd.fst, CE.dflt (Sh.int IntKind.i64), ())).snd.fst + (1 : Int)), (addP (mustP p [(40 : UInt8)]) ((3 : Int), CE.dflt (Sh.int IntKind.i64), CE.dflt Sh.str, CE.dflt Sh.str, CE.dflt Sh.str, (getR tkS (mustP p [(40 : UInt8)]).fst (mustP p [(40 : UInt8)]).snd.fst).snd.fst, CE.dflt (Sh.int IntKind.i64), ())).snd.snd))
                    (some
                      (SV.val (AV.tup []),
                        [SV.box true
                            [SV.val (AV.d (D.sl tkS (mustP ((addP (mustP p [(40 : UInt8)]) ((3 : Int), CE.dflt (Sh.int IntKind.i64), CE.dflt Sh.str, CE.dflt Sh.str, CE.dflt Sh.str, (getR tkS (mustP p [(40 : UInt8)]).fst (mustP p [(40 : UInt8)]).snd.fst).snd.fst, CE.dflt (Sh.int IntKind.i64), ())).fst, IntKind.i64.wrap ((addP (mustP p [(40 : UInt8)]) ((3 : Int), CE.dflt (Sh.int IntKind.i64), CE.dflt Sh.str, CE.dflt Sh.str, CE.dflt Sh.str, (getR tkS (mustP p [(40 : UInt8)]).fst (mustP p [(40 : UInt8)]).snd.fst).snd.fst, CE.dflt (Sh.int IntKind.i64), ())).snd.fst + (1 : Int)), (addP (mustP p [(40 : UInt8)]) ((3 : Int), CE.dflt (Sh.int IntKind.i64), CE.dflt Sh.str, CE.dflt Sh.str, CE.dflt Sh.str, (getR tkS (mustP p [(40 : UInt8)]).fst (mustP p [(40 : UInt8)]).snd.fst).snd.fst, CE.dflt (Sh.int IntKind.i64), ())).snd.snd) [(41 : UInt8)]).fst)), SV.val (AV.d (D.int IntKind.i64 (mustP ((addP (mustP p [(40 : UInt8)]) ((3 : Int), CE.dflt (Sh.int IntKind.i64), CE.dflt Sh.str, CE.dflt Sh.str, CE.dflt Sh.str, (getR tkS (mustP p [(40 : UInt8)]).fst (mustP p [(40 : UInt8)]).snd.fst).snd.fst, CE.dflt (Sh.int IntKind.i64), ())).fst, IntKind.i64.wrap ((addP (mustP p [(40 : UInt8)]) ((3 : Int), CE.dflt (Sh.int IntKind.i64), CE.dflt Sh.str, CE.dflt Sh.str, CE.dflt Sh.str, (getR tkS (mustP p [(40 : UInt8)]).fst (mustP p [(40 : UInt8)]).snd.fst).snd.fst, CE.dflt (Sh.int IntKind.i64), ())).snd.fst + (1 : Int)), (addP (mustP p [(40 : UInt8)]) ((3 : Int), CE.dflt (Sh.int IntKind.i64), CE.dflt Sh.str, CE.dflt Sh.str, CE.dflt Sh.str, (getR tkS (mustP p [(40 : UInt8)]).fst (mustP p [(40 : UInt8)]).snd.fst).snd.fst, CE.dflt (Sh.int IntKind.i64), ())).snd.snd) [(41 : UInt8)]).snd.fst)), SV.app ptS (mustP ((addP (mustP p [(40 : UInt8)]) ((3 : Int), CE.dflt (Sh.int IntKind.i64), CE.dflt Sh.str, CE.dflt Sh.str, CE.dflt Sh.str, (getR tkS (mustP p [(40 : UInt8)]).fst (mustP p [(40 : UInt8)]).snd.fst).snd.fst, CE.dflt (Sh.int IntKind.i64), ())).fst, IntKind.i64.wrap ((addP (mustP p [(40 : UInt8)]) ((3 : Int), CE.dflt (Sh.int IntKind.i64), CE.dflt Sh.str, CE.dflt Sh.str, CE.dflt Sh.str, (getR tkS (mustP p [(40 : UInt8)]).fst (mustP p [(40 : UInt8)]).snd.fst).snd.fst, CE.dflt (Sh.int IntKind.i64), ())).snd.fst + (1 : Int)), (addP (mustP p [(40 : UInt8)]) ((3 : Int), CE.dflt (Sh.int IntKind.i64), CE.dflt Sh.str, CE.dflt Sh.str, CE.dflt Sh.str, (getR tkS (mustP p [(40 : UInt8)]).fst (mustP p [(40 : UInt8)]).snd.fst).snd.fst, CE.dflt (Sh.int IntKind.i64), ())).snd.snd) [(41 : UInt8)]).snd.snd.fst,
                              SV.val (AV.d (D.bool (mustP ((addP (mustP p [(40 : UInt8)]) ((3 : Int), CE.dflt (Sh.int IntKind.i64), CE.dflt Sh.str, CE.dflt Sh.str, CE.dflt Sh.str, (getR tkS (mustP p [(40 : UInt8)]).fst (mustP p [(40 : UInt8)]).snd.fst).snd.fst, CE.dflt (Sh.int IntKind.i64), ())).fst, IntKind.i64.wrap ((addP (mustP p [(40 : UInt8)]) ((3 : Int), CE.dflt (Sh.int IntKind.i64), CE.dflt Sh.str, CE.dflt Sh.str, CE.dflt Sh.str, (getR tkS (mustP p [(40 : UInt8)]).fst (mustP p [(40 : UInt8)]).snd.fst).snd.fst, CE.dflt (Sh.int IntKind.i64), ())).snd.fst + (1 : Int)), (addP (mustP p [(40 : UInt8)]) ((3 : Int), CE.dflt (Sh.int IntKind.i64), CE.dflt Sh.str, CE.dflt Sh.str, CE.dflt Sh.str, (getR tkS (mustP p [(40 : UInt8)]).fst (mustP p [(40 : UInt8)]).snd.fst).snd.fst, CE.dflt (Sh.int IntKind.i64), ())).snd.snd) [(41 : UInt8)]).snd.snd.snd.fst))]])))))
              (chk (szP ((mustP p [(40 : UInt8)]).fst, (mustP p [(40 : UInt8)]).snd.fst, (mustP p [(40 : UInt8)]).snd.snd.fst, true, ())) (some (SV.val (AV.tup []), [SV.box true [SV.val (AV.d (D.sl tkS (mustP ((mustP p [(40 : UInt8)]).fst, (mustP p [(40 : UInt8)]).snd.fst, (mustP p [(40 : UInt8)]).snd.snd.fst, true, ()) [(41 : UInt8)]).fst)), SV.val (AV.d (D.int IntKind.i64 (mustP ((mustP p [(40 : UInt8)]).fst, (mustP p [(40 : UInt8)]).snd.fst, (mustP p [(40 : UInt8)]).snd.snd.fst, true, ()) [(41 : UInt8)]).snd.fst)), SV.app ptS (mustP ((mustP p [(40 : UInt8)]).fst, (mustP p [(40 : UInt8)]).snd.fst, (mustP p [(40 : UInt8)]).snd.snd.fst, true, ()) [(41 : UInt8)]).snd.snd.fst, SV.val (AV.d (D.bool (mustP ((mustP p [(40 : UInt8)]).fst, (mustP p [(40 : UInt8)]).snd.fst, (mustP p [(40 : UInt8)]).snd.snd.fst, true, ()) [(41 : UInt8)]).snd.snd.snd.fst))]])))))
          (chk (szP ((mustP p [(40 : UInt8)]).fst, (mustP p [(40 : UInt8)]).snd.fst, (mustP p [(40 : UInt8)]).snd.snd.fst, true, ())) (some (SV.val (AV.tup []), [SV.box true [SV.val (AV.d (D.sl tkS (mustP ((mustP p [(40 : UInt8)]).fst, (mustP p [(40 : UInt8)]).snd.fst, (mustP p [(40 : UInt8)]).snd.snd.fst, true, ()) [(41 : UInt8)]).fst)), SV.val (AV.d (D.int IntKind.i64 (mustP ((mustP p [(40 : UInt8)]).fst, (mustP p [(40 : UInt8)]).snd.fst, (mustP p [(40 : UInt8)]).snd.snd.fst, true, ()) [(41 : UInt8)]).snd.fst)), SV.app ptS (mustP ((mustP p [(40 : UInt8)]).fst, (mustP p [(40 : UInt8)]).snd.fst, (mustP p [(40 : UInt8)]).snd.snd.fst, true, ()) [(41 : UInt8)]).snd.snd.fst, SV.val (AV.d (D.bool (mustP ((mustP p [(40 : UInt8)]).fst, (mustP p [(40 : UInt8)]).snd.fst, (mustP p [(40 : UInt8)]).snd.snd.fst, true, ()) [(41 : UInt8)]).snd.snd.snd.fst))]])))))
      (chk ((0 : Int) ≤ (18 : Int) ∧ (18 : Int) < (27 : Int))
        (br (signT (18 : Int) == s) (chk (szP p ∧ (callP (pf N (0 : Int)) (18 : Int) p).isSome = true) (some (SV.val (AV.tup []), [SV.box true [SV.val (AV.d (D.sl tkS (callD N (18 : Int) p).fst)), SV.val (AV.d (D.int IntKind.i64 (callD N (18 : Int) p).snd.fst)), SV.app ptS (callD N (18 : Int) p).snd.snd.fst, SV.val (AV.d (D.bool (callD N (18 : Int) p).snd.snd.snd.fst))]])))
          (chk ((0 : Int) ≤ (19 : Int) ∧ (19 : Int) < (27 : Int))
            (br (signT (19 : Int) == s) (chk (szP p ∧ (callP (pf N (0 : Int)) (19 : Int) p).isSome = true) (some (SV.val (AV.tup []), [SV.box true [SV.val (AV.d (D.sl tkS (callD N (19 : Int) p).fst)), SV.val (AV.d (D.int IntKind.i64 (callD N (19 : Int) p).snd.fst)), SV.app ptS (callD N (19 : Int) p).snd.snd.fst, SV.val (AV.d (D.bool (callD N (19 : Int) p).snd.snd.snd.fst))]])))
              (chk ((0 : Int) ≤ (20 : Int) ∧ (20 : Int) < (27 : Int))
                (br (signT (20 : Int) == s) (chk (szP p ∧ (callP (pf N (0 : Int)) (20 : Int) p).isSome = true) (some (SV.val (AV.tup []), [SV.box true [SV.val (AV.d (D.sl tkS (callD N (20 : Int) p).fst)), SV.val (AV.d (D.int IntKind.i64 (callD N (20 : Int) p).snd.fst)), SV.app ptS (callD N (20 : Int) p).snd.snd.fst, SV.val (AV.d (D.bool (callD N (20 : Int) p).snd.snd.snd.fst))]])))
                  (chk ((0 : Int) ≤ (21 : Int) ∧ (21 : Int) < (27 : Int))
                    (br (signT (21 : Int) == s) (chk (szP p ∧ (callP (pf N (0 : Int)) (21 : Int) p).isSome = true) (some (SV.val (AV.tup []), [SV.box true [SV.val (AV.d (D.sl tkS (callD N (21 : Int) p).fst)), SV.val (AV.d (D.int IntKind.i64 (callD N (21 : Int) p).snd.fst)), SV.app ptS (callD N (21 : Int) p).snd.snd.fst, SV.val (AV.d (D.bool (callD N (21 : Int) p).snd.snd.snd.fst))]])))
                      (chk ((0 : Int) ≤ (22 : Int) ∧ (22 : Int) < (27 : Int)) (br (signT (22 : Int) == s) (chk (szP p ∧ (callP (pf N (0 : Int)) (22 : Int) p).isSome = true) (some (SV.val (AV.tup []), [SV.box true [SV.val (AV.d (D.sl tkS (callD N (22 : Int) p).fst)), SV.val (AV.d (D.int IntKind.i64 (callD N (22 : Int) p).snd.fst)), SV.app ptS (callD N (22 : Int) p).snd.snd.fst, SV.val (AV.d (D.bool (callD N (22 : Int) p).snd.snd.snd.fst))]]))) (chk ((0 : Int) ≤ (23 : Int) ∧ (23 : Int) < (27 : Int)) (br (signT (23 : Int) == s) (chk (szP p ∧ (callP (pf N (0 : Int)) (23 : Int) p).isSome = true) (some (SV.val (AV.tup []), [SV.box true [SV.val (AV.d (D.sl tkS (callD N (23 : Int) p).fst)), SV.val (AV.d (D.int IntKind.i64 (callD N (23 : Int) p).snd.fst)), SV.app ptS (callD N (23 : Int) p).snd.snd.fst, SV.val (AV.d (D.bool (callD N (23 : Int) p).snd.snd.snd.fst))]]))) (chk ((0 : Int) ≤ (24 : Int) ∧ (24 : Int) < (27 : Int)) (br (signT (24 : Int) == s) (chk (szP p ∧ (callP (pf N (0 : Int)) (24 : Int) p).isSome = true) (some (SV.val (AV.tup []), [SV.box true [SV.val (AV.d (D.sl tkS (callD N (24 : Int) p).fst)), SV.val (AV.d (D.int IntKind.i64 (callD N (24 : Int) p).snd.fst)), SV.app ptS (callD N (24 : Int) p).snd.snd.fst, SV.val (AV.d (D.bool (callD N (24 : Int) p).snd.snd.snd.fst))]]))) (chk ((0 : Int) ≤ (25 : Int) ∧ (25 : Int) < (27 : Int)) (br (signT (25 : Int) == s) (chk (szP p ∧ (callP (pf N (0 : Int)) (25 : Int) p).isSome = true) (some (SV.val (AV.tup []), [SV.box true [SV.val (AV.d (D.sl tkS (callD N (25 : Int) p).fst)), SV.val (AV.d (D.int IntKind.i64 (callD N (25 : Int) p).snd.fst)), SV.app ptS (callD N (25 : Int) p).snd.snd.fst, SV.val (AV.d (D.bool (callD N (25 : Int) p).snd.snd.snd.fst))]]))) (chk ((0 : Int) ≤ (26 : Int) ∧ (26 : Int) < (27 : Int)) (br (signT (26 : Int) == s) (chk (szP p ∧ (callP (pf N (0 : Int)) (26 : Int) p).isSome = true) (some (SV.val (AV.tup []), [SV.box true [SV.val (AV.d (D.sl tkS (callD N (26 : Int) p).fst)), SV.val (AV.d (D.int IntKind.i64 (callD N (26 : Int) p).snd.fst)), SV.app ptS (callD N (26 : Int) p).snd.snd.fst, SV.val (AV.d (D.bool (callD N (26 : Int) p).snd.snd.snd.fst))]]))) (some (SV.val (AV.tup []), [SV.box true (setAt ((0 : Nat) + (3 : Nat)) (List.map (fun c => SV.val (AV.d c)) [D.bool true]) [SV.val (AV.d (D.sl tkS p.fst)), SV.val (AV.d (D.int IntKind.i64 p.snd.fst)), SV.app ptS p.snd.snd.fst, SV.val (AV.d (D.bool p.snd.snd.snd.fst))])])))))))))))))))))))))) := by kernel_rfl
theorem satp_word (N : Nat) (okN : SatE P (En (ER N))) : SatO P 61 (Sp_word N) := by
  refine sat_mkO (LT := Ln (Lp_word N)) hC (okp_call N okN) mixed Try.func61 (by kernel_rfl) (c := bodyOf Try.f61) (by kernel_rfl) (by kernel_rfl) ?_ (loops1 (by kernel_rfl) (loopU (n := 10) (c := loopAt 0 (loops (bodyOf Try.f61))) (by kernel_rfl)))
  rintro ⟨(p : KCs [.v (.sl tkS), .v (.int .i64), .a ptS, .v .bool]), ⟨(s : List UInt8), _⟩, _⟩ sv h
  refine Leads.eq (Leads.of_eq (tp_word N p s) ?_)
  obtain ⟨⟨hs, hi⟩, h⟩ := h
  have h := Out_leaf h
  subst h
  have hp := szP_in hs
  have hm := stp_must [40] hp
  have s1 := szP_stp hs hm (by omega)
  refine Leads.brE (fun q => ?_) fun q1 => Leads.brE (fun q => ?_) fun q2 => Leads.brE (fun q => ?_) fun q3 => ?_
  · subst q
    exact Leads.chk (szP_lt hs) fun _ => Leads.one rfl
  · subst q
    exact Leads.chk (szP_lt hs) fun _ => Leads.one rfl
  · subst q
    have e : wordD N [66, 79, 85, 78, 68] p = boundP p := rfl
    rw [e]
    have f0 := s1.1
    have f1 := s1.2.1
    have f4 := s1.2.2.2
    refine Leads.chk hs fun _ => Leads.brD (fun a => Leads.chk ⟨s1.1, a⟩ fun _ => Leads.brE (fun w => Leads.chk ⟨s1.1, a⟩ fun _ => Leads.chk (szP_lt s1) fun _ => ?_) (fun w => Leads.chk (szP_stp s1 (stp_fail (szP_in s1)) (by omega)) fun _ => Leads.one ?_)) (fun w => Leads.chk (szP_stp s1 (stp_fail (szP_in s1)) (by omega)) fun _ => Leads.one ?_)
    · have w : (tokI (mustP p [40])).1 = 2 := w
      have eb : boundP p = mustP (adv (addP (mustP p [40]) (3, 0, [], [], [], (tokI (mustP p [40])).2.1, 0, ()))) [41] := by simp only [boundP, if_pos (And.intro a w)]
      have hw : IntKind.i64.wrap ((mustP p [40]).2.1 + 1) = (mustP p [40]).2.1 + 1 := wrap64 (by omega) (by omega)
      refine Leads.chk (show szP ((mustP p [40]).1, IntKind.i64.wrap ((mustP p [40]).2.1 + 1), (mustP p [40]).2.2.1 ++ [(3, 0, [], [], [], (tokI (mustP p [40])).2.1, 0, ())], (mustP p [40]).2.2.2.1, ()) from ?_) fun _ => Leads.one ?_
      · rw [hw]
        have sa := stp_add (3, 0, [], [], [], (tokI (mustP p [40])).2.1, 0, ()) (szP_in s1)
        exact szP_stp s1 (stp_trans sa (stp_adv (stp_in sa) a)) (by omega)
      · rw [eb]
        show (SV.val (.tup []), [SV.box true (KCs.svs psK (mustP ((mustP p [40]).1, IntKind.i64.wrap ((mustP p [40]).2.1 + 1), (mustP p [40]).2.2.1 ++ [(3, 0, [], [], [], (tokI (mustP p [40])).2.1, 0, ())], (mustP p [40]).2.2.2.1, ()) [41]))]) = _
        rw [hw]; rfl
    · have w : ¬ (tokI (mustP p [40])).1 = 2 := w
      have eb : boundP p = mustP (failP (mustP p [40])) [41] := by simp only [boundP, if_neg (fun z : _ ∧ _ => w z.2)]
      rw [eb]; rfl
    · have eb : boundP p = mustP (failP (mustP p [40])) [41] := by simp only [boundP, if_neg (fun z : _ ∧ _ => w z.1)]
      rw [eb]; rfl
  · have hw : wordP (pf N 0) s p = if wordK s = 0 then some (failP p) else callP (pf N 0) (wordK s) p := by simp only [wordP, if_neg q1, if_neg q2, if_neg q3]
    have hk := wordK_L s
    rw [wordL_cons] at hk
    refine Leads.chk (by decide) fun _ => Leads.brE (fun q => ?_) (fun q => ?_)
    · rw [if_pos q] at hk
      rw [hk, if_neg (by decide)] at hw
      refine Leads.chk ⟨hs, by rw [← hw]; exact hi⟩ fun _ => Leads.one ?_
      have e : wordD N s p = callD N 18 p := by simp only [wordD, callD, hw]
      rw [e]; rfl
    rw [if_neg q, wordL_cons] at hk
    refine Leads.chk (by decide) fun _ => Leads.brE (fun q => ?_) (fun q => ?_)
    · rw [if_pos q] at hk
      rw [hk, if_neg (by decide)] at hw
      refine Leads.chk ⟨hs, by rw [← hw]; exact hi⟩ fun _ => Leads.one ?_
      have e : wordD N s p = callD N 19 p := by simp only [wordD, callD, hw]
      rw [e]; rfl
    rw [if_neg q, wordL_cons] at hk
    refine Leads.chk (by decide) fun _ => Leads.brE (fun q => ?_) (fun q => ?_)
    · rw [if_pos q] at hk
      rw [hk, if_neg (by decide)] at hw
      refine Leads.chk ⟨hs, by rw [← hw]; exact hi⟩ fun _ => Leads.one ?_
      have e : wordD N s p = callD N 20 p := by simp only [wordD, callD, hw]
      rw [e]; rfl
    rw [if_neg q, wordL_cons] at hk
    refine Leads.chk (by decide) fun _ => Leads.brE (fun q => ?_) (fun q => ?_)
    · rw [if_pos q] at hk
      rw [hk, if_neg (by decide)] at hw
      refine Leads.chk ⟨hs, by rw [← hw]; exact hi⟩ fun _ => Leads.one ?_
      have e : wordD N s p = callD N 21 p := by simp only [wordD, callD, hw]
      rw [e]; rfl
    rw [if_neg q, wordL_cons] at hk
    refine Leads.chk (by decide) fun _ => Leads.brE (fun q => ?_) (fun q => ?_)
    · rw [if_pos q] at hk
      rw [hk, if_neg (by decide)] at hw
      refine Leads.chk ⟨hs, by rw [← hw]; exact hi⟩ fun _ => Leads.one ?_
      have e : wordD N s p = callD N 22 p := by simp only [wordD, callD, hw]
      rw [e]; rfl
    rw [if_neg q, wordL_cons] at hk
    refine Leads.chk (by decide) fun _ => Leads.brE (fun q => ?_) (fun q => ?_)
    · rw [if_pos q] at hk
      rw [hk, if_neg (by decide)] at hw
      refine Leads.chk ⟨hs, by rw [← hw]; exact hi⟩ fun _ => Leads.one ?_
      have e : wordD N s p = callD N 23 p := by simp only [wordD, callD, hw]
      rw [e]; rfl
    rw [if_neg q, wordL_cons] at hk
    refine Leads.chk (by decide) fun _ => Leads.brE (fun q => ?_) (fun q => ?_)
    · rw [if_pos q] at hk
      rw [hk, if_neg (by decide)] at hw
      refine Leads.chk ⟨hs, by rw [← hw]; exact hi⟩ fun _ => Leads.one ?_
      have e : wordD N s p = callD N 24 p := by simp only [wordD, callD, hw]
      rw [e]; rfl
    rw [if_neg q, wordL_cons] at hk
    refine Leads.chk (by decide) fun _ => Leads.brE (fun q => ?_) (fun q => ?_)
    · rw [if_pos q] at hk
      rw [hk, if_neg (by decide)] at hw
      refine Leads.chk ⟨hs, by rw [← hw]; exact hi⟩ fun _ => Leads.one ?_
      have e : wordD N s p = callD N 25 p := by simp only [wordD, callD, hw]
      rw [e]; rfl
    rw [if_neg q, wordL_cons] at hk
    refine Leads.chk (by decide) fun _ => Leads.brE (fun q => ?_) (fun q => ?_)
    · rw [if_pos q] at hk
      rw [hk, if_neg (by decide)] at hw
      refine Leads.chk ⟨hs, by rw [← hw]; exact hi⟩ fun _ => Leads.one ?_
      have e : wordD N s p = callD N 26 p := by simp only [wordD, callD, hw]
      rw [e]; rfl
    rw [if_neg q] at hk
    have hk : wordK s = 0 := hk
    rw [if_pos hk] at hw
    have e : wordD N s p = failP p := by simp [wordD, hw]
    rw [e]
    exact Leads.one rfl
def Ep_word (N : Nat) : Es := (61, .o (Sp_word N)) :: Ep_call N
theorem okp_word (N : Nat) (okN : SatE P (En (ER N))) : SatE P (En (Ep_word N)) := SatE.consO (satp_word N okN) (okp_call N okN)
/-! ### (*legation/formula.parser).simple -/
def Lp_simple (N : Nat) : Ls := []
def Sp_simple (N : Nat) := mkO [true] [.box [.v (.sl tkS), .v (.int .i64), .a ptS, .v .bool]] fun ⟨(p : KCs [.v (.sl tkS), .v (.int .i64), .a ptS, .v .bool]), _⟩ => .chk (szP p ∧ (simpleP (pf N 0) p).isSome = true) (.leaf (.val (.tup []), [.box true (KCs.svs psK (simpleD N p))]))
theorem tp_simple (N : Nat) (p : KCs [.v (.sl tkS), .v (.int .i64), .a ptS, .v .bool]) : evFO T (En (Ep_word N)) (Ln (Lp_simple N)) Try.f48 [.box true (KCs.svs [.v (.sl tkS), .v (.int .i64), .a ptS, .v .bool] p)] =
    br p.snd.snd.snd.fst (some (SV.val (AV.tup []), [SV.box true (setAt ((0 : Nat) + (3 : Nat)) (List.map (fun c => SV.val (AV.d c)) [D.bool true]) [SV.val (AV.d (D.sl tkS p.fst)), SV.val (AV.d (D.int IntKind.i64 p.snd.fst)), SV.app ptS p.snd.snd.fst, SV.val (AV.d (D.bool p.snd.snd.snd.fst))])]))
  (br (p.snd.fst == (↑(List.length p.fst) : Int)) (some (SV.val (AV.tup []), [SV.box true (setAt ((0 : Nat) + (3 : Nat)) (List.map (fun c => SV.val (AV.d c)) [D.bool true]) [SV.val (AV.d (D.sl tkS p.fst)), SV.val (AV.d (D.int IntKind.i64 p.snd.fst)), SV.app ptS p.snd.snd.fst, SV.val (AV.d (D.bool p.snd.snd.snd.fst))])]))
    (chk ((0 : Int) ≤ p.snd.fst ∧ p.snd.fst < (↑(List.length p.fst) : Int))
      (br ((getR tkS p.fst p.snd.fst).fst == (5 : Int))
        (br ((getR tkS p.fst p.snd.fst).snd.fst == [(40 : UInt8)]) (chk (szP (p.fst, IntKind.i64.wrap (p.snd.fst + (1 : Int)), p.snd.snd) ∧ (0 : Int) ≤ (0 : Int) ∧ (0 : Int) ≤ (5 : Int) ∧ (pf N (0 : Int) (p.fst, IntKind.i64.wrap (p.snd.fst + (1 : Int)), p.snd.snd)).isSome = true) (chk (szP (pfD N (0 : Int) (p.fst, IntKind.i64.wrap (p.snd.fst + (1 : Int)), p.snd.snd))) (some (SV.val (AV.tup []), [SV.box true [SV.val (AV.d (D.sl tkS (mustP (pfD N (0 : Int) (p.fst, IntKind.i64.wrap (p.snd.fst + (1 : Int)), p.snd.snd)) [(41 : UInt8)]).fst)), SV.val (AV.d (D.int IntKind.i64 (mustP (pfD N (0 : Int) (p.fst, IntKind.i64.wrap (p.snd.fst + (1 : Int)), p.snd.snd)) [(41 : UInt8)]).snd.fst)), SV.app ptS (mustP (pfD N (0 : Int) (p.fst, IntKind.i64.wrap (p.snd.fst + (1 : Int)), p.snd.snd)) [(41 : UInt8)]).snd.snd.fst, SV.val (AV.d (D.bool (mustP (pfD N (0 : Int) (p.fst, IntKind.i64.wrap (p.snd.fst + (1 : Int)), p.snd.snd)) [(41 : UInt8)]).snd.snd.snd.fst))]]))))
          (br ((getR tkS p.fst p.snd.fst).fst == (2 : Int)) (chk (List.length p.snd.snd.fst < (1000000000000 : Nat)) (some (SV.val (AV.tup []), [SV.box true [SV.val (AV.d (D.sl tkS (addP (p.fst, IntKind.i64.wrap (p.snd.fst + (1 : Int)), p.snd.snd) ((2 : Int), CE.dflt (Sh.int IntKind.i64), CE.dflt Sh.str, CE.dflt Sh.str, CE.dflt Sh.str, (getR tkS p.fst p.snd.fst).snd.fst, CE.dflt (Sh.int IntKind.i64), ())).fst)), SV.val (AV.d (D.int IntKind.i64 (addP (p.fst, IntKind.i64.wrap (p.snd.fst + (1 : Int)), p.snd.snd) ((2 : Int), CE.dflt (Sh.int IntKind.i64), CE.dflt Sh.str, CE.dflt Sh.str, CE.dflt Sh.str, (getR tkS p.fst p.snd.fst).snd.fst, CE.dflt (Sh.int IntKind.i64), ())).snd.fst)), SV.app ptS (addP (p.fst, IntKind.i64.wrap (p.snd.fst + (1 : Int)), p.snd.snd) ((2 : Int), CE.dflt (Sh.int IntKind.i64), CE.dflt Sh.str, CE.dflt Sh.str, CE.dflt Sh.str, (getR tkS p.fst p.snd.fst).snd.fst, CE.dflt (Sh.int IntKind.i64), ())).snd.snd.fst, SV.val (AV.d (D.bool (addP (p.fst, IntKind.i64.wrap (p.snd.fst + (1 : Int)), p.snd.snd) ((2 : Int), CE.dflt (Sh.int IntKind.i64), CE.dflt Sh.str, CE.dflt Sh.str, CE.dflt Sh.str, (getR tkS p.fst p.snd.fst).snd.fst, CE.dflt (Sh.int IntKind.i64), ())).snd.snd.snd.fst))]])))
            (br ((getR tkS p.fst p.snd.fst).fst == (3 : Int)) (chk (List.length p.snd.snd.fst < (1000000000000 : Nat)) (some (SV.val (AV.tup []), [SV.box true [SV.val (AV.d (D.sl tkS (addP (p.fst, IntKind.i64.wrap (p.snd.fst + (1 : Int)), p.snd.snd) ((1 : Int), (getR tkS p.fst p.snd.fst).snd.snd.fst, (getR tkS p.fst p.snd.fst).snd.snd.snd.fst, (getR tkS p.fst p.snd.fst).snd.snd.snd.snd.fst, (getR tkS p.fst p.snd.fst).snd.snd.snd.snd.snd.fst, CE.dflt Sh.str, CE.dflt (Sh.int IntKind.i64), ())).fst)), SV.val (AV.d (D.int IntKind.i64 (addP (p.fst, IntKind.i64.wrap (p.snd.fst + (1 : Int)), p.snd.snd) ((1 : Int), (getR tkS p.fst p.snd.fst).snd.snd.fst, (getR tkS p.fst p.snd.fst).snd.snd.snd.fst, (getR tkS p.fst p.snd.fst).snd.snd.snd.snd.fst, (getR tkS p.fst p.snd.fst).snd.snd.snd.snd.snd.fst, CE.dflt Sh.str, CE.dflt (Sh.int IntKind.i64), ())).snd.fst)), SV.app ptS (addP (p.fst, IntKind.i64.wrap (p.snd.fst + (1 : Int)), p.snd.snd) ((1 : Int), (getR tkS p.fst p.snd.fst).snd.snd.fst, (getR tkS p.fst p.snd.fst).snd.snd.snd.fst, (getR tkS p.fst p.snd.fst).snd.snd.snd.snd.fst, (getR tkS p.fst p.snd.fst).snd.snd.snd.snd.snd.fst, CE.dflt Sh.str, CE.dflt (Sh.int IntKind.i64), ())).snd.snd.fst, SV.val (AV.d (D.bool (addP (p.fst, IntKind.i64.wrap (p.snd.fst + (1 : Int)), p.snd.snd) ((1 : Int), (getR tkS p.fst p.snd.fst).snd.snd.fst, (getR tkS p.fst p.snd.fst).snd.snd.snd.fst, (getR tkS p.fst p.snd.fst).snd.snd.snd.snd.fst, (getR tkS p.fst p.snd.fst).snd.snd.snd.snd.snd.fst, CE.dflt Sh.str, CE.dflt (Sh.int IntKind.i64), ())).snd.snd.snd.fst))]])))
              (br ((getR tkS p.fst p.snd.fst).fst == (4 : Int))
                (chk (List.length p.snd.snd.fst < (1000000000000 : Nat)) (some (SV.val (AV.tup []), [SV.box true [SV.val (AV.d (D.sl tkS (addP (p.fst, IntKind.i64.wrap (p.snd.fst + (1 : Int)), p.snd.snd) ((1 : Int), (2 : Int), (getR tkS p.fst p.snd.fst).snd.fst, [(104 : UInt8), (116 : UInt8), (116 : UInt8), (112 : UInt8), (58 : UInt8), (47 : UInt8), (47 : UInt8), (119 : UInt8), (119 : UInt8), (119 : UInt8), (46 : UInt8), (119 : UInt8), (51 : UInt8), (46 : UInt8), (111 : UInt8), (114 : UInt8), (103 : UInt8), (47 : UInt8), (50 : UInt8), (48 : UInt8), (48 : UInt8), (49 : UInt8), (47 : UInt8), (88 : UInt8), (77 : UInt8), (76 : UInt8), (83 : UInt8), (99 : UInt8), (104 : UInt8), (101 : UInt8), (109 : UInt8), (97 : UInt8), (35 : UInt8), (105 : UInt8), (110 : UInt8), (116 : UInt8), (101 : UInt8), (103 : UInt8), (101 : UInt8), (114 : UInt8)], CE.dflt Sh.str, CE.dflt Sh.str, CE.dflt (Sh.int IntKind.i64), ())).fst)), SV.val (AV.d (D.int IntKind.i64 (addP (p.fst, IntKind.i64.wrap (p.snd.fst + (1 : Int)), p.snd.snd) ((1 : Int), (2 : Int), (getR tkS p.fst p.snd.fst).snd.fst, [(104 : UInt8), (116 : UInt8), (116 : UInt8), (112 : UInt8), (58 : UInt8), (47 : UInt8), (47 : UInt8), (119 : UInt8), (119 : UInt8), (119 : UInt8), (46 : UInt8), (119 : UInt8), (51 : UInt8), (46 : UInt8), (111 : UInt8), (114 : UInt8), (103 : UInt8), (47 : UInt8), (50 : UInt8), (48 : UInt8), (48 : UInt8), (49 : UInt8), (47 : UInt8), (88 : UInt8), (77 : UInt8), (76 : UInt8), (83 : UInt8), (99 : UInt8), (104 : UInt8), (101 : UInt8), (109 : UInt8), (97 : UInt8), (35 : UInt8), (105 : UInt8), (110 : UInt8), (116 : UInt8), (101 : UInt8), (103 : UInt8), (101 : UInt8), (114 : UInt8)], CE.dflt Sh.str, CE.dflt Sh.str, CE.dflt (Sh.int IntKind.i64), ())).snd.fst)), SV.app ptS (addP (p.fst, IntKind.i64.wrap (p.snd.fst + (1 : Int)), p.snd.snd) ((1 : Int), (2 : Int), (getR tkS p.fst p.snd.fst).snd.fst, [(104 : UInt8), (116 : UInt8), (116 : UInt8), (112 : UInt8), (58 : UInt8), (47 : UInt8), (47 : UInt8), (119 : UInt8), (119 : UInt8), (119 : UInt8), (46 : UInt8), (119 : UInt8), (51 : UInt8), (46 : UInt8), (111 : UInt8), (114 : UInt8), (103 : UInt8), (47 : UInt8), (50 : UInt8), (48 : UInt8), (48 : UInt8), (49 : UInt8), (47 : UInt8), (88 : UInt8), (77 : UInt8), (76 : UInt8), (83 : UInt8), (99 : UInt8), (104 : UInt8), (101 : UInt8), (109 : UInt8), (97 : UInt8), (35 : UInt8), (105 : UInt8), (110 : UInt8), (116 : UInt8), (101 : UInt8), (103 : UInt8), (101 : UInt8), (114 : UInt8)], CE.dflt Sh.str, CE.dflt Sh.str, CE.dflt (Sh.int IntKind.i64), ())).snd.snd.fst, SV.val (AV.d (D.bool (addP (p.fst, IntKind.i64.wrap (p.snd.fst + (1 : Int)), p.snd.snd) ((1 : Int), (2 : Int), (getR tkS p.fst p.snd.fst).snd.fst, [(104 : UInt8), (116 : UInt8), (116 : UInt8), (112 : UInt8), (58 : UInt8), (47 : UInt8), (47 : UInt8), (119 : UInt8), (119 : UInt8), (119 : UInt8), (46 : UInt8), (119 : UInt8), (51 : UInt8), (46 : UInt8), (111 : UInt8), (114 : UInt8), (103 : UInt8), (47 : UInt8), (50 : UInt8), (48 : UInt8), (48 : UInt8), (49 : UInt8), (47 : UInt8), (88 : UInt8), (77 : UInt8), (76 : UInt8), (83 : UInt8), (99 : UInt8), (104 : UInt8), (101 : UInt8), (109 : UInt8), (97 : UInt8), (35 : UInt8), (105 : UInt8), (110 : UInt8), (116 : UInt8), (101 : UInt8), (103 : UInt8), (101 : UInt8), (114 : UInt8)], CE.dflt Sh.str, CE.dflt Sh.str, CE.dflt (Sh.int IntKind.i64), ())).snd.snd.snd.fst))]])))
                (br ((getR tkS p.fst p.snd.fst).fst == (1 : Int)) (chk (szP (p.fst, IntKind.i64.wrap (p.snd.fst + (1 : Int)), p.snd.snd) ∧ (wordP (pf N (0 : Int)) (getR tkS p.fst p.snd.fst).snd.fst (p.fst, IntKind.i64.wrap (p.snd.fst + (1 : Int)), p.snd.snd)).isSome = true) (some (SV.val (AV.tup []), [SV.box true [SV.val (AV.d (D.sl tkS (wordD N (getR tkS p.fst p.snd.fst).snd.fst (p.fst, IntKind.i64.wrap (p.snd.fst + (1 : Int)), p.snd.snd)).fst)), SV.val (AV.d (D.int IntKind.i64 (wordD N (getR tkS p.fst p.snd.fst).snd.fst (p.fst, IntKind.i64.wrap (p.snd.fst + (1 : Int)), p.snd.snd)).snd.fst)), SV.app ptS (wordD N (getR tkS p.fst p.snd.fst).snd.fst (p.fst, IntKind.i64.wrap (p.snd.fst + (1 : Int)), p.snd.snd)).snd.snd.fst, SV.val (AV.d (D.bool (wordD N (getR tkS p.fst p.snd.fst).snd.fst (p.fst, IntKind.i64.wrap (p.snd.fst + (1 : Int)), p.snd.snd)).snd.snd.snd.fst))]]))) (some (SV.val (AV.tup []), [SV.box true (setAt ((0 : Nat) + (3 : Nat)) (List.map (fun c => SV.val (AV.d c)) [D.bool true]) [SV.val (AV.d (D.sl tkS p.fst)), SV.val (AV.d (D.int IntKind.i64 (IntKind.i64.wrap (p.snd.fst + (1 : Int))))), SV.app ptS p.snd.snd.fst, SV.val (AV.d (D.bool p.snd.snd.snd.fst))])])))))))
        (br ((getR tkS p.fst p.snd.fst).fst == (2 : Int)) (chk (List.length p.snd.snd.fst < (1000000000000 : Nat)) (some (SV.val (AV.tup []), [SV.box true [SV.val (AV.d (D.sl tkS (addP (p.fst, IntKind.i64.wrap (p.snd.fst + (1 : Int)), p.snd.snd) ((2 : Int), CE.dflt (Sh.int IntKind.i64), CE.dflt Sh.str, CE.dflt Sh.str, CE.dflt Sh.str, (getR tkS p.fst p.snd.fst).snd.fst, CE.dflt (Sh.int IntKind.i64), ())).fst)), SV.val (AV.d (D.int IntKind.i64 (addP (p.fst, IntKind.i64.wrap (p.snd.fst + (1 : Int)), p.snd.snd) ((2 : Int), CE.dflt (Sh.int IntKind.i64), CE.dflt Sh.str, CE.dflt Sh.str, CE.dflt Sh.str, (getR tkS p.fst p.snd.fst).snd.fst, CE.dflt (Sh.int IntKind.i64), ())).snd.fst)), SV.app ptS (addP (p.fst, IntKind.i64.wrap (p.snd.fst + (1 : Int)), p.snd.snd) ((2 : Int), CE.dflt (Sh.int IntKind.i64), CE.dflt Sh.str, CE.dflt Sh.str, CE.dflt Sh.str, (getR tkS p.fst p.snd.fst).snd.fst, CE.dflt (Sh.int IntKind.i64), ())).snd.snd.fst, SV.val (AV.d (D.bool (addP (p.fst, IntKind.i64.wrap (p.snd.fst + (1 : Int)), p.snd.snd) ((2 : Int), CE.dflt (Sh.int IntKind.i64), CE.dflt Sh.str, CE.dflt Sh.str, CE.dflt Sh.str, (getR tkS p.fst p.snd.fst).snd.fst, CE.dflt (Sh.int IntKind.i64), ())).snd.snd.snd.fst))]])))
          (br ((getR tkS p.fst p.snd.fst).fst == (3 : Int)) (chk (List.length p.snd.snd.fst < (1000000000000 : Nat)) (some (SV.val (AV.tup []), [SV.box true [SV.val (AV.d (D.sl tkS (addP (p.fst, IntKind.i64.wrap (p.snd.fst + (1 : Int)), p.snd.snd) ((1 : Int), (getR tkS p.fst p.snd.fst).snd.snd.fst, (getR tkS p.fst p.snd.fst).snd.snd.snd.fst, (getR tkS p.fst p.snd.fst).snd.snd.snd.snd.fst, (getR tkS p.fst p.snd.fst).snd.snd.snd.snd.snd.fst, CE.dflt Sh.str, CE.dflt (Sh.int IntKind.i64), ())).fst)), SV.val (AV.d (D.int IntKind.i64 (addP (p.fst, IntKind.i64.wrap (p.snd.fst + (1 : Int)), p.snd.snd) ((1 : Int), (getR tkS p.fst p.snd.fst).snd.snd.fst, (getR tkS p.fst p.snd.fst).snd.snd.snd.fst, (getR tkS p.fst p.snd.fst).snd.snd.snd.snd.fst, (getR tkS p.fst p.snd.fst).snd.snd.snd.snd.snd.fst, CE.dflt Sh.str, CE.dflt (Sh.int IntKind.i64), ())).snd.fst)), SV.app ptS (addP (p.fst, IntKind.i64.wrap (p.snd.fst + (1 : Int)), p.snd.snd) ((1 : Int), (getR tkS p.fst p.snd.fst).snd.snd.fst, (getR tkS p.fst p.snd.fst).snd.snd.snd.fst, (getR tkS p.fst p.snd.fst).snd.snd.snd.snd.fst, (getR tkS p.fst p.snd.fst).snd.snd.snd.snd.snd.fst, CE.dflt Sh.str, CE.dflt (Sh.int IntKind.i64), ())).snd.snd.fst, SV.val (AV.d (D.bool (addP (p.fst, IntKind.i64.wrap (p.snd.fst + (1 : Int)), p.snd.snd) ((1 : Int), (getR tkS p.fst p.snd.fst).snd.snd.fst, (getR tkS p.fst p.snd.fst).snd.snd.snd.fst, (getR tkS p.fst p.snd.fst).snd.snd.snd.snd.fst, (getR tkS p.fst p.snd.fst).snd.snd.snd.snd.snd.fst, CE.dflt Sh.str, CE.dflt (Sh.int IntKind.i64), ())).snd.snd.snd.fst))]])))
            (br ((getR tkS p.fst p.snd.fst).fst == (4 : Int))
              (chk (List.length p.snd.snd.fst < (1000000000000 : Nat)) (some (SV.val (AV.tup []), [SV.box true [SV.val (AV.d (D.sl tkS (addP (p.fst, IntKind.i64.wrap (p.snd.fst + (1 : Int)), p.snd.snd) ((1 : Int), (2 : Int), (getR tkS p.fst p.snd.fst).snd.fst, [(104 : UInt8), (116 : UInt8), (116 : UInt8), (112 : UInt8), (58 : UInt8), (47 : UInt8), (47 : UInt8), (119 : UInt8), (119 : UInt8), (119 : UInt8), (46 : UInt8), (119 : UInt8), (51 : UInt8), (46 : UInt8), (111 : UInt8), (114 : UInt8), (103 : UInt8), (47 : UInt8), (50 : UInt8), (48 : UInt8), (48 : UInt8), (49 : UInt8), (47 : UInt8), (88 : UInt8), (77 : UInt8), (76 : UInt8), (83 : UInt8), (99 : UInt8), (104 : UInt8), (101 : UInt8), (109 : UInt8), (97 : UInt8), (35 : UInt8), (105 : UInt8), (110 : UInt8), (116 : UInt8), (101 : UInt8), (103 : UInt8), (101 : UInt8), (114 : UInt8)], CE.dflt Sh.str, CE.dflt Sh.str, CE.dflt (Sh.int IntKind.i64), ())).fst)), SV.val (AV.d (D.int IntKind.i64 (addP (p.fst, IntKind.i64.wrap (p.snd.fst + (1 : Int)), p.snd.snd) ((1 : Int), (2 : Int), (getR tkS p.fst p.snd.fst).snd.fst, [(104 : UInt8), (116 : UInt8), (116 : UInt8), (112 : UInt8), (58 : UInt8), (47 : UInt8), (47 : UInt8), (119 : UInt8), (119 : UInt8), (119 : UInt8), (46 : UInt8), (119 : UInt8), (51 : UInt8), (46 : UInt8), (111 : UInt8), (114 : UInt8), (103 : UInt8), (47 : UInt8), (50 : UInt8), (48 : UInt8), (48 : UInt8), (49 : UInt8), (47 : UInt8), (88 : UInt8), (77 : UInt8), (76 : UInt8), (83 : UInt8), (99 : UInt8), (104 : UInt8), (101 : UInt8), (109 : UInt8), (97 : UInt8), (35 : UInt8), (105 : UInt8), (110 : UInt8), (116 : UInt8), (101 : UInt8), (103 : UInt8), (101 : UInt8), (114 : UInt8)], CE.dflt Sh.str, CE.dflt Sh.str, CE.dflt (Sh.int IntKind.i64), ())).snd.fst)), SV.app ptS (addP (p.fst, IntKind.i64.wrap (p.snd.fst + (1 : Int)), p.snd.snd) ((1 : Int), (2 : Int), (getR tkS p.fst p.snd.fst).snd.fst, [(104 : UInt8), (116 : UInt8), (116 : UInt8), (112 : UInt8), (58 : UInt8), (47 : UInt8), (47 : UInt8), (119 : UInt8), (119 : UInt8), (119 : UInt8), (46 : UInt8), (119 : UInt8), (51 : UInt8), (46 : UInt8), (111 : UInt8), (114 : UInt8), (103 : UInt8), (47 : UInt8), (50 : UInt8), (48 : UInt8), (48 : UInt8), (49 : UInt8), (47 : UInt8), (88 : UInt8), (77 : UInt8), (76 : UInt8), (83 : UInt8), (99 : UInt8), (104 : UInt8), (101 : UInt8), (109 : UInt8), (97 : UInt8), (35 : UInt8), (105 : UInt8), (110 : UInt8), (116 : UInt8), (101 : UInt8), (103 : UInt8), (101 : UInt8), (114 : UInt8)], CE.dflt Sh.str, CE.dflt Sh.str, CE.dflt (Sh.int IntKind.i64), ())).snd.snd.fst, SV.val (AV.d (D.bool (addP (p.fst, IntKind.i64.wrap (p.snd.fst + (1 : Int)), p.snd.snd) ((1 : Int), (2 : Int), (getR tkS p.fst p.snd.fst).snd.fst, [(104 : UInt8), (116 : UInt8), (116 : UInt8), (112 : UInt8), (58 : UInt8), (47 : UInt8), (47 : UInt8), (119 : UInt8), (119 : UInt8), (119 : UInt8), (46 : UInt8), (119 : UInt8), (51 : UInt8), (46 : UInt8), (111 : UInt8), (114 : UInt8), (103 : UInt8), (47 : UInt8), (50 : UInt8), (48 : UInt8), (48 : UInt8), (49 : UInt8), (47 : UInt8), (88 : UInt8), (77 : UInt8), (76 : UInt8), (83 : UInt8), (99 : UInt8), (104 : UInt8), (101 : UInt8), (109 : UInt8), (97 : UInt8), (35 : UInt8), (105 : UInt8), (110 : UInt8), (116 : UInt8), (101 : UInt8), (103 : UInt8), (101 : UInt8), (114 : UInt8)], CE.dflt Sh.str, CE.dflt Sh.str, CE.dflt (Sh.int IntKind.i64), ())).snd.snd.snd.fst))]])))
              (br ((getR tkS p.fst p.snd.fst).fst == (1 : Int)) (chk (szP (p.fst, IntKind.i64.wrap (p.snd.fst + (1 : Int)), p.snd.snd) ∧ (wordP (pf N (0 : Int)) (getR tkS p.fst p.snd.fst).snd.fst (p.fst, IntKind.i64.wrap (p.snd.fst + (1 : Int)), p.snd.snd)).isSome = true) (some (SV.val (AV.tup []), [SV.box true [SV.val (AV.d (D.sl tkS (wordD N (getR tkS p.fst p.snd.fst).snd.fst (p.fst, IntKind.i64.wrap (p.snd.fst + (1 : Int)), p.snd.snd)).fst)), SV.val (AV.d (D.int IntKind.i64 (wordD N (getR tkS p.fst p.snd.fst).snd.fst (p.fst, IntKind.i64.wrap (p.snd.fst + (1 : Int)), p.snd.snd)).snd.fst)), SV.app ptS (wordD N (getR tkS p.fst p.snd.fst).snd.fst (p.fst, IntKind.i64.wrap (p.snd.fst + (1 : Int)), p.snd.snd)).snd.snd.fst, SV.val (AV.d (D.bool (wordD N (getR tkS p.fst p.snd.fst).snd.fst (p.fst, IntKind.i64.wrap (p.snd.fst + (1 : Int)), p.snd.snd)).snd.snd.snd.fst))]]))) (some (SV.val (AV.tup []), [SV.box true (setAt ((0 : Nat) + (3 : Nat)) (List.map (fun c => SV.val (AV.d c)) [D.bool true]) [SV.val (AV.d (D.sl tkS p.fst)), SV.val (AV.d (D.int IntKind.i64 (IntKind.i64.wrap (p.snd.fst + (1 : Int))))), SV.app ptS p.snd.snd.fst, SV.val (AV.d (D.bool p.snd.snd.snd.fst))])]))))))))) := by kernel_rfl
theorem satp_simple (N : Nat) (okN : SatE P (En (ER N))) : SatO P 48 (Sp_simple N) := by
  refine sat_mkO (LT := Ln (Lp_simple N)) hC (okp_word N okN) mixed Try.func48 (by kernel_rfl) (c := bodyOf Try.f48) (by kernel_rfl) (by kernel_rfl) ?_ (loops0 (by kernel_rfl))
  rintro ⟨(p : KCs [.v (.sl tkS), .v (.int .i64), .a ptS, .v .bool]), _⟩ sv h
  refine Leads.eq (Leads.of_eq (tp_simple N p) ?_)
  obtain ⟨⟨hs, hi⟩, h⟩ := h
  have h := Out_leaf h
  subst h
  have hp := szP_in hs
  obtain ⟨r, hr⟩ := is_some hi
  have eD : simpleD N p = r := by simp [simpleD, hr]
  refine Leads.br (fun b => Leads.one ?_) (fun b => Leads.brE (fun q => Leads.one ?_) (fun q => ?_))
  · have : r = failP p := by simp only [simpleP, if_pos (Or.inl b : _ ∨ p.2.1 = (p.1.length : Int)), Option.some.injEq] at hr; exact hr.symm
    rw [eD, this]; rfl
  · have : r = failP p := by simp only [simpleP, if_pos (Or.inr q : p.2.2.2.1 = true ∨ _), Option.some.injEq] at hr; exact hr.symm
    rw [eD, this]; rfl
  have hn : ¬ (p.2.2.2.1 = true ∨ p.2.1 = (p.1.length : Int)) := fun z => z.elim (fun z => by rw [b] at z; cases z) q
  obtain ⟨f0, f1, f2, f4⟩ := id hs
  have q : ¬ @Eq Int p.2.1 (p.1.length : Int) := q
  have lt : p.2.1 < (p.1.length : Int) := (Int.lt_or_eq_of_le f1).resolve_right q
  rw [wrap64 (by omega) (by omega)]
  have ha := stp_adv hp lt
  have sa := szP_stp hs ha (by omega)
  simp only [simpleP, if_neg hn] at hr
  refine Leads.chk ⟨f0, lt⟩ fun _ => Leads.brE (fun k5 => Leads.brE (fun tx => ?_) (fun ntx => ?_)) (fun nk5 => ?_)
  · rw [if_pos (show (tokI p).1 = 5 ∧ (tokI p).2.1 = [40] from ⟨k5, tx⟩)] at hr
    have hi : ((pf N 0 (adv p)).map fun q => mustP q [41]).isSome = true := by rw [hr]; rfl
    obtain ⟨r', hr'⟩ := map_is hi
    rw [hr'] at hr
    have e2 : pfD N 0 (adv p) = r' := pfD_e hr'
    have s2 := szP_stp sa (pf_stp N 0 _ _ (stp_in ha) hr') (by omega)
    refine Leads.chk ⟨sa, by decide, by decide, isSome_e hr'⟩ fun _ => Leads.chk (show szP (pfD N 0 (adv p)) from by rw [e2]; exact s2) fun _ => Leads.one ?_
    rw [eD]
    show (SV.val (.tup []), [SV.box true (KCs.svs psK (mustP (pfD N 0 (adv p)) [41]))]) = _
    rw [e2]
    exact congrArg (fun z => (SV.val (.tup []), [SV.box true (KCs.svs psK z)])) (Option.some.inj hr)
  all_goals
    first | (have hk : ¬ ((tokI p).1 = 5 ∧ (tokI p).2.1 = [40]) := fun z => ntx z.2) | (have hk : ¬ ((tokI p).1 = 5 ∧ (tokI p).2.1 = [40]) := fun z => nk5 z.1)
    rw [if_neg hk] at hr
    refine Leads.brE (fun k2 => Leads.chk (szP_lt hs) fun _ => Leads.one ?_) fun n2 => Leads.brE (fun k3 => Leads.chk (szP_lt hs) fun _ => Leads.one ?_) fun n3 => Leads.brE (fun k4 => Leads.chk (szP_lt hs) fun _ => Leads.one ?_) fun n4 => Leads.brE (fun k1 => ?_) fun n1 => Leads.one ?_
    · rw [if_pos (show (tokI p).1 = 2 from k2)] at hr
      rw [eD, ← Option.some.inj hr]; rfl
    · rw [if_neg (show ¬ (tokI p).1 = 2 from n2), if_pos (show (tokI p).1 = 3 from k3)] at hr
      rw [eD, ← Option.some.inj hr]; rfl
    · rw [if_neg (show ¬ (tokI p).1 = 2 from n2), if_neg (show ¬ (tokI p).1 = 3 from n3), if_pos (show (tokI p).1 = 4 from k4)] at hr
      rw [eD, ← Option.some.inj hr]; rfl
    · rw [if_neg (show ¬ (tokI p).1 = 2 from n2), if_neg (show ¬ (tokI p).1 = 3 from n3), if_neg (show ¬ (tokI p).1 = 4 from n4), if_pos (show (tokI p).1 = 1 from k1)] at hr
      refine Leads.chk ⟨sa, isSome_e hr⟩ fun _ => Leads.one ?_
      have e3 : wordD N (tokI p).2.1 (adv p) = r := by simp [wordD, hr]
      rw [eD, ← e3]; rfl
    · rw [if_neg (show ¬ (tokI p).1 = 2 from n2), if_neg (show ¬ (tokI p).1 = 3 from n3), if_neg (show ¬ (tokI p).1 = 4 from n4), if_neg (show ¬ (tokI p).1 = 1 from n1)] at hr
      rw [eD, ← Option.some.inj hr]; rfl
def Ep_simple (N : Nat) : Es := (48, .o (Sp_simple N)) :: Ep_word N
theorem okp_simple (N : Nat) (okN : SatE P (En (ER N))) : SatE P (En (Ep_simple N)) := SatE.consO (satp_simple N okN) (okp_word N okN)
/-! ### (*legation/formula.parser).signed -/
def Lp_signed (N : Nat) : Ls := []
theorem tp_signed (N : Nat) (p : KCs [.v (.sl tkS), .v (.int .i64), .a ptS, .v .bool]) : evFO T (En (Ep_simple N)) (Ln (Lp_signed N)) Try.f33 [.box true (KCs.svs [.v (.sl tkS), .v (.int .i64), .a ptS, .v .bool] p)] =
    chk (szP p) (br (isP p (5 : Int) [(33 : UInt8)]) (chk (szP (takeP p [(33 : UInt8)]) ∧ (pf N (6 : Int) (takeP p [(33 : UInt8)])).isSome = true) (chk (List.length (pfD N (6 : Int) (takeP p [(33 : UInt8)])).snd.snd.fst < (1000000000000 : Nat)) (some (SV.val (AV.tup []), [SV.box true [SV.val (AV.d (D.sl tkS (addP (pfD N (6 : Int) (takeP p [(33 : UInt8)])) ((4 : Int), CE.dflt (Sh.int IntKind.i64), CE.dflt Sh.str, CE.dflt Sh.str, CE.dflt Sh.str, CE.dflt Sh.str, CE.dflt (Sh.int IntKind.i64), ())).fst)), SV.val (AV.d (D.int IntKind.i64 (addP (pfD N (6 : Int) (takeP p [(33 : UInt8)])) ((4 : Int), CE.dflt (Sh.int IntKind.i64), CE.dflt Sh.str, CE.dflt Sh.str, CE.dflt Sh.str, CE.dflt Sh.str, CE.dflt (Sh.int IntKind.i64), ())).snd.fst)), SV.app ptS (addP (pfD N (6 : Int) (takeP p [(33 : UInt8)])) ((4 : Int), CE.dflt (Sh.int IntKind.i64), CE.dflt Sh.str, CE.dflt Sh.str, CE.dflt Sh.str, CE.dflt Sh.str, CE.dflt (Sh.int IntKind.i64), ())).snd.snd.fst, SV.val (AV.d (D.bool (addP (pfD N (6 : Int) (takeP p [(33 : UInt8)])) ((4 : Int), CE.dflt (Sh.int IntKind.i64), CE.dflt Sh.str, CE.dflt Sh.str, CE.dflt Sh.str, CE.dflt Sh.str, CE.dflt (Sh.int IntKind.i64), ())).snd.snd.snd.fst))]])))) (chk (szP (takeP p [(33 : UInt8)])) (br (isP (takeP p [(33 : UInt8)]) (5 : Int) [(45 : UInt8)]) (chk (szP (takeP (takeP p [(33 : UInt8)]) [(45 : UInt8)]) ∧ (pf N (6 : Int) (takeP (takeP p [(33 : UInt8)]) [(45 : UInt8)])).isSome = true) (chk (List.length (pfD N (6 : Int) (takeP (takeP p [(33 : UInt8)]) [(45 : UInt8)])).snd.snd.fst < (1000000000000 : Nat)) (some (SV.val (AV.tup []), [SV.box true [SV.val (AV.d (D.sl tkS (addP (pfD N (6 : Int) (takeP (takeP p [(33 : UInt8)]) [(45 : UInt8)])) ((5 : Int), CE.dflt (Sh.int IntKind.i64), CE.dflt Sh.str, CE.dflt Sh.str, CE.dflt Sh.str, CE.dflt Sh.str, CE.dflt (Sh.int IntKind.i64), ())).fst)), SV.val (AV.d (D.int IntKind.i64 (addP (pfD N (6 : Int) (takeP (takeP p [(33 : UInt8)]) [(45 : UInt8)])) ((5 : Int), CE.dflt (Sh.int IntKind.i64), CE.dflt Sh.str, CE.dflt Sh.str, CE.dflt Sh.str, CE.dflt Sh.str, CE.dflt (Sh.int IntKind.i64), ())).snd.fst)), SV.app ptS (addP (pfD N (6 : Int) (takeP (takeP p [(33 : UInt8)]) [(45 : UInt8)])) ((5 : Int), CE.dflt (Sh.int IntKind.i64), CE.dflt Sh.str, CE.dflt Sh.str, CE.dflt Sh.str, CE.dflt Sh.str, CE.dflt (Sh.int IntKind.i64), ())).snd.snd.fst, SV.val (AV.d (D.bool (addP (pfD N (6 : Int) (takeP (takeP p [(33 : UInt8)]) [(45 : UInt8)])) ((5 : Int), CE.dflt (Sh.int IntKind.i64), CE.dflt Sh.str, CE.dflt Sh.str, CE.dflt Sh.str, CE.dflt Sh.str, CE.dflt (Sh.int IntKind.i64), ())).snd.snd.snd.fst))]])))) (chk (szP (takeP (takeP p [(33 : UInt8)]) [(45 : UInt8)]) ∧ (simpleP (pf N (0 : Int)) (takeP (takeP p [(33 : UInt8)]) [(45 : UInt8)])).isSome = true) (some (SV.val (AV.tup []), [SV.box true [SV.val (AV.d (D.sl tkS (simpleD N (takeP (takeP p [(33 : UInt8)]) [(45 : UInt8)])).fst)), SV.val (AV.d (D.int IntKind.i64 (simpleD N (takeP (takeP p [(33 : UInt8)]) [(45 : UInt8)])).snd.fst)), SV.app ptS (simpleD N (takeP (takeP p [(33 : UInt8)]) [(45 : UInt8)])).snd.snd.fst, SV.val (AV.d (D.bool (simpleD N (takeP (takeP p [(33 : UInt8)]) [(45 : UInt8)])).snd.snd.snd.fst))]])))))) := by kernel_rfl
theorem satp_signed (N : Nat) (okN : SatE P (En (ER N))) : SatO P 33 (SpS (N + 1)) := by
  refine sat_mkO (LT := Ln (Lp_signed N)) hC (okp_simple N okN) mixed Try.func33 (by kernel_rfl) (c := bodyOf Try.f33) (by kernel_rfl) (by kernel_rfl) ?_ (loops0 (by kernel_rfl))
  rintro ⟨(p : KCs [.v (.sl tkS), .v (.int .i64), .a ptS, .v .bool]), _⟩ sv h
  refine Leads.eq (Leads.of_eq (tp_signed N p) ?_)
  obtain ⟨⟨hs, hi⟩, h⟩ := h
  have h := Out_leaf h
  subst h
  have hp := szP_in hs
  obtain ⟨r, hr⟩ := is_some hi
  have eD : pfD (N + 1) 6 p = r := pfD_e hr
  simp only [pf, if_true] at hr
  refine Leads.chk hs fun _ => Leads.br (fun w => ?_) (fun w => ?_)
  · have w : isP p 5 [33] = true := w
    rw [if_pos w] at hr
    have hr' : ((pf N 6 (adv p)).map fun q => addP q (kindP 4)).isSome = true := isSome_e hr
    obtain ⟨r', hr'⟩ := map_is hr'
    rw [hr'] at hr
    have ha := stp_adv hp (isP_lt w)
    have h2 := pf_stp N 6 _ _ (stp_in ha) hr'
    rw [takeP_t w]
    have e2 : pfD N 6 (adv p) = r' := pfD_e hr'
    refine Leads.chk ⟨szP_stp hs ha (by omega), isSome_e hr'⟩ fun _ => Leads.chk (show (pfD N 6 (adv p)).2.2.1.length < _ from by rw [e2]; exact szP_lt (szP_stp hs (stp_trans ha h2) (by omega))) fun _ => Leads.one ?_
    rw [eD, e2, ← Option.some.inj hr]; rfl
  · have w : isP p 5 [33] = false := w
    rw [if_neg (by simp [w])] at hr
    rw [takeP_f w]
    refine Leads.chk hs fun _ => Leads.br (fun w => ?_) (fun w => ?_)
    · have w : isP p 5 [45] = true := w
      rw [if_pos w] at hr
      have hr' : ((pf N 6 (adv p)).map fun q => addP q (kindP 5)).isSome = true := isSome_e hr
      obtain ⟨r', hr'⟩ := map_is hr'
      rw [hr'] at hr
      have ha := stp_adv hp (isP_lt w)
      have h2 := pf_stp N 6 _ _ (stp_in ha) hr'
      rw [takeP_t w]
      have e2 : pfD N 6 (adv p) = r' := pfD_e hr'
      refine Leads.chk ⟨szP_stp hs ha (by omega), isSome_e hr'⟩ fun _ => Leads.chk (show (pfD N 6 (adv p)).2.2.1.length < _ from by rw [e2]; exact szP_lt (szP_stp hs (stp_trans ha h2) (by omega))) fun _ => Leads.one ?_
      rw [eD, e2, ← Option.some.inj hr]; rfl
    · have w : isP p 5 [45] = false := w
      rw [if_neg (by simp [w])] at hr
      rw [takeP_f w]
      refine Leads.chk ⟨hs, isSome_e hr⟩ fun _ => Leads.one ?_
      have e2 : simpleD N p = r := by simp [simpleD, hr]
      rw [e2, eD]; rfl
/-! ### (*legation/formula.parser).level -/
def lkp_level_0 (N : Nat) : St [.box [.v (.sl tkS), .v (.int .i64), .a ptS, .v .bool], .v false [.int .i64]] → Prop := fun ⟨(p : KCs [.v (.sl tkS), .v (.int .i64), .a ptS, .v .bool]), ⟨(n : Int), _⟩, _⟩ => szP p ∧ 0 ≤ n ∧ n ≤ 4 ∧ (chainP (pf N (n + 1)) n p).isSome = true
def lgp_level_0 (N : Nat) : St [.box [.v (.sl tkS), .v (.int .i64), .a ptS, .v .bool], .v false [.int .i64]] → Tr (Ex × List SV) := fun ⟨(p : KCs [.v (.sl tkS), .v (.int .i64), .a ptS, .v .bool]), ⟨(n : Int), _⟩, _⟩ => .leaf (.exit 0, [.box true (KCs.svs [.v (.sl tkS), .v (.int .i64), .a ptS, .v .bool] (chainD N n p))])
def lmp_level_0 (N : Nat) : St [.box [.v (.sl tkS), .v (.int .i64), .a ptS, .v .bool], .v false [.int .i64]] → Nat := fun ⟨(p : KCs [.v (.sl tkS), .v (.int .i64), .a ptS, .v .bool]), ⟨(n : Int), _⟩, _⟩ => leftP p
def lsp_level_0 (N : Nat) : LoopS := mkR [0, 1] [0] [0] [.box [.v (.sl tkS), .v (.int .i64), .a ptS, .v .bool], .v false [.int .i64]] (fun r => .chk (lkp_level_0 N r) (lgp_level_0 N r))
def lkp_level_1 (N : Nat) : St [.box [.v (.sl tkS), .v (.int .i64), .a ptS, .v .bool], .v false [.int .i64], .a [.int .i64], .v false [.int .i64], .v false [.int .i64]] → Prop := fun ⟨(p : KCs [.v (.sl tkS), .v (.int .i64), .a ptS, .v .bool]), ⟨(n : Int), _⟩, (x20 : List (RowE [.int .i64])), ⟨(x21 : Int), _⟩, ⟨(x22 : Int), _⟩, _⟩ => szP p ∧ 0 ≤ n ∧ n ≤ 4 ∧ x20 = rowI (signL n) ∧ x21 = (x20.length : Int) ∧ 0 ≤ x22 ∧ x22 ≤ x21 ∧ (findK p ((signL n).drop x22.toNat) ≠ 0 → (pf N (n + 1) (adv p)).isSome = true)
def lgp_level_1 (N : Nat) : St [.box [.v (.sl tkS), .v (.int .i64), .a ptS, .v .bool], .v false [.int .i64], .a [.int .i64], .v false [.int .i64], .v false [.int .i64]] → Tr (Ex × List SV) := fun ⟨(p : KCs [.v (.sl tkS), .v (.int .i64), .a ptS, .v .bool]), ⟨(n : Int), _⟩, (x20 : List (RowE [.int .i64])), ⟨(x21 : Int), _⟩, ⟨(x22 : Int), _⟩, _⟩ => .brP (findK p ((signL n).drop x22.toNat) = 0) (.leaf (.exit 2, [.box true (KCs.svs [.v (.sl tkS), .v (.int .i64), .a ptS, .v .bool] (p)), .val (.d (.int .i64 (n)))])) (.brP (n = 2) (.leaf (.exit 0, [.box true (KCs.svs [.v (.sl tkS), .v (.int .i64), .a ptS, .v .bool] (addP (pfD N (n + 1) (adv p)) (kindP (findK p ((signL n).drop x22.toNat))))), .val (.d (.int .i64 (n)))])) (.leaf (.exit 1, [.box true (KCs.svs [.v (.sl tkS), .v (.int .i64), .a ptS, .v .bool] (addP (pfD N (n + 1) (adv p)) (kindP (findK p ((signL n).drop x22.toNat))))), .val (.d (.int .i64 (n)))])))
def lmp_level_1 (N : Nat) : St [.box [.v (.sl tkS), .v (.int .i64), .a ptS, .v .bool], .v false [.int .i64], .a [.int .i64], .v false [.int .i64], .v false [.int .i64]] → Nat := fun ⟨(p : KCs [.v (.sl tkS), .v (.int .i64), .a ptS, .v .bool]), ⟨(n : Int), _⟩, (x20 : List (RowE [.int .i64])), ⟨(x21 : Int), _⟩, ⟨(x22 : Int), _⟩, _⟩ => (signL n).length - x22.toNat
def lsp_level_1 (N : Nat) : LoopS := mkR [0, 1, 20, 21, 22] [0, 1] [] [.box [.v (.sl tkS), .v (.int .i64), .a ptS, .v .bool], .v false [.int .i64], .a [.int .i64], .v false [.int .i64], .v false [.int .i64]] (fun r => .chk (lkp_level_1 N r) (lgp_level_1 N r))
def Lp_level (N : Nat) : Ls := [(3, lsp_level_0 N), (5, lsp_level_1 N)]
theorem ltp_level_0 (N : Nat) (p : KCs [.v (.sl tkS), .v (.int .i64), .a ptS, .v .bool]) (n : Int) : evRound T (En (Ep_simple N)) (Ln (Lp_level N)) (loopAt 0 (loops (bodyOf Try.f22))) (lsp_level_0 N) [.box true (KCs.svs [.v (.sl tkS), .v (.int .i64), .a ptS, .v .bool] p), .val (.d (.int .i64 n))] =
    br (!p.snd.snd.snd.fst) (chk (lkp_level_1 N (p, (n, ()), rowI (signL n), ((↑(rowI (signL n)).length : Int), ()), ((0 : Int), ()), ())) (brP (findK p (List.drop (Int.toNat (0 : Int)) (signL n)) = (0 : Int)) (some (Rnd.out (Ex.exit (0 : Nat)) [SV.box true [SV.val (AV.d (D.sl tkS p.fst)), SV.val (AV.d (D.int IntKind.i64 p.snd.fst)), SV.app ptS p.snd.snd.fst, SV.val (AV.d (D.bool p.snd.snd.snd.fst))]])) (brP (n = (2 : Int)) (some (Rnd.out (Ex.exit (0 : Nat)) [SV.box true [SV.val (AV.d (D.sl tkS (addP (pfD N (n + (1 : Int)) (adv p)) (kindP (findK p (List.drop (Int.toNat (0 : Int)) (signL n))))).fst)), SV.val (AV.d (D.int IntKind.i64 (addP (pfD N (n + (1 : Int)) (adv p)) (kindP (findK p (List.drop (Int.toNat (0 : Int)) (signL n))))).snd.fst)), SV.app ptS (addP (pfD N (n + (1 : Int)) (adv p)) (kindP (findK p (List.drop (Int.toNat (0 : Int)) (signL n))))).snd.snd.fst, SV.val (AV.d (D.bool (addP (pfD N (n + (1 : Int)) (adv p)) (kindP (findK p (List.drop (Int.toNat (0 : Int)) (signL n))))).snd.snd.snd.fst))]])) (some (Rnd.again [SV.box true [SV.val (AV.d (D.sl tkS (addP (pfD N (n + (1 : Int)) (adv p)) (kindP (findK p (List.drop (Int.toNat (0 : Int)) (signL n))))).fst)), SV.val (AV.d (D.int IntKind.i64 (addP (pfD N (n + (1 : Int)) (adv p)) (kindP (findK p (List.drop (Int.toNat (0 : Int)) (signL n))))).snd.fst)), SV.app ptS (addP (pfD N (n + (1 : Int)) (adv p)) (kindP (findK p (List.drop (Int.toNat (0 : Int)) (signL n))))).snd.snd.fst, SV.val (AV.d (D.bool (addP (pfD N (n + (1 : Int)) (adv p)) (kindP (findK p (List.drop (Int.toNat (0 : Int)) (signL n))))).snd.snd.snd.fst))], SV.val (AV.d (D.int IntKind.i64 n))]))))) (some (Rnd.out (Ex.exit (0 : Nat)) [SV.box true [SV.val (AV.d (D.sl tkS p.fst)), SV.val (AV.d (D.int IntKind.i64 p.snd.fst)), SV.app ptS p.snd.snd.fst, SV.val (AV.d (D.bool p.snd.snd.snd.fst))]])) := by kernel_rfl
theorem lokp_level_0 (N : Nat) : LoopOK T (En (Ep_simple N)) (Ln (Lp_level N)) (loopAt 0 (loops (bodyOf Try.f22))) := by
  refine loop_ok (live := [0, 1]) (outs := [0]) (rets := [0]) (ks := [.box [.v (.sl tkS), .v (.int .i64), .a ptS, .v .bool], .v false [.int .i64]]) (G := lgp_level_0 N) (lkp_level_0 N) (lmp_level_0 N) (by kernel_rfl) ?_
  rintro ⟨(p : KCs [.v (.sl tkS), .v (.int .i64), .a ptS, .v .bool]), ⟨(n : Int), _⟩, _⟩ x hok hx
  refine Leads.of_eq (ltp_level_0 N p n) ?_
  obtain ⟨hs, hn, hn4, hi⟩ := hok
  obtain rfl := Out_leaf hx
  obtain ⟨r, hr⟩ := is_some hi
  have eD : chainD N n p = r := chainD_e hr
  rw [eD]
  have hp := szP_in hs
  have st := chainP_step (pf_stp N (n + 1)) n hp
  rw [hr] at st
  refine Leads.brG (fun b => Leads.one (Goes.out ?_)) (fun b => ?_)
  · rw [if_pos b] at st
    rw [Option.some.inj st]; rfl
  · rw [if_neg (by simp [b])] at st
    refine Leads.chk ?_ fun _ => ?_
    · refine ⟨hs, hn, hn4, rfl, rfl, by decide, Int.natCast_nonneg _, fun hne => ?_⟩
      simp only [Int.toNat_zero, List.drop_zero] at hne
      rw [if_neg hne] at st
      obtain ⟨q, hq, _⟩ := bind_is (isSome_e st.symm)
      exact isSome_e hq
    · simp only [Int.toNat_zero, List.drop_zero]
      refine Leads.brP (fun z => Leads.one (Goes.out ?_)) (fun z => ?_)
      · rw [if_pos z] at st
        rw [Option.some.inj st]; rfl
      · rw [if_neg z] at st
        obtain ⟨q, hq, hq2⟩ := bind_is (isSome_e st.symm)
        have lt := findK_ne z
        have ha := stp_adv hp lt
        have h2 := pf_stp N (n + 1) _ _ (stp_in ha) hq
        have h3 := stp_trans (stp_trans ha h2) (stp_add (kindP (findK p (signL n))) (stp_in h2))
        rw [pfD_e hq]
        rw [hq, Option.bind_some] at st
        refine Leads.brP (fun z2 => Leads.one (Goes.out ?_)) (fun z2 => Leads.one ?_)
        · rw [if_pos z2] at st
          rw [Option.some.inj st]; rfl
        · rw [if_neg z2] at st
          refine Goes.again (ks := [.box [.v (.sl tkS), .v (.int .i64), .a ptS, .v .bool], .v false [.int .i64]]) (addP q (kindP (findK p (signL n))), (n, ()), ()) rfl ?_ ?_ ?_
          · exact ⟨szP_stp hs h3 (by omega), hn, hn4, isSome_e st.symm⟩
          · exact left_lt hp h2 lt (r := addP q (kindP (findK p (signL n)))) rfl rfl
          · show _ = _
            rw [chainD_e st.symm]
theorem ltp_level_1 (N : Nat) (p : KCs [.v (.sl tkS), .v (.int .i64), .a ptS, .v .bool]) (n : Int) (x20 : List (RowE [.int .i64])) (x21 : Int) (x22 : Int) : evRound T (En (Ep_simple N)) (Ln (Lp_level N)) (loopAt 1 (loops (bodyOf Try.f22))) (lsp_level_1 N) [.box true (KCs.svs [.v (.sl tkS), .v (.int .i64), .a ptS, .v .bool] p), .val (.d (.int .i64 n)), .app [.int .i64] x20, .val (.d (.int .i64 x21)), .val (.d (.int .i64 x22))] =
    br (decide (x22 < x21))
  (chk ((0 : Int) ≤ x22 ∧ x22 < (↑x20.length : Int))
    (chk ((0 : Int) ≤ (getR [Sh.int IntKind.i64] x20 x22).fst ∧ (getR [Sh.int IntKind.i64] x20 x22).fst < (27 : Int))
      (chk (szP p)
        (br (isP p (5 : Int) (signT (getR [Sh.int IntKind.i64] x20 x22).fst)) (chk (szP (takeP p (signT (getR [Sh.int IntKind.i64] x20 x22).fst)) ∧ (0 : Int) ≤ IntKind.i64.wrap (n + (1 : Int)) ∧ IntKind.i64.wrap (n + (1 : Int)) ≤ (5 : Int) ∧ (pf N (IntKind.i64.wrap (n + (1 : Int))) (takeP p (signT (getR [Sh.int IntKind.i64] x20 x22).fst))).isSome = true) (chk (List.length (pfD N (IntKind.i64.wrap (n + (1 : Int))) (takeP p (signT (getR [Sh.int IntKind.i64] x20 x22).fst))).snd.snd.fst < (1000000000000 : Nat)) (br (n == (2 : Int)) (some (Rnd.out (Ex.exit (0 : Nat)) [SV.box true [SV.val (AV.d (D.sl tkS (addP (pfD N (IntKind.i64.wrap (n + (1 : Int))) (takeP p (signT (getR [Sh.int IntKind.i64] x20 x22).fst))) ((getR [Sh.int IntKind.i64] x20 x22).fst, CE.dflt (Sh.int IntKind.i64), CE.dflt Sh.str, CE.dflt Sh.str, CE.dflt Sh.str, CE.dflt Sh.str, CE.dflt (Sh.int IntKind.i64), ())).fst)), SV.val (AV.d (D.int IntKind.i64 (addP (pfD N (IntKind.i64.wrap (n + (1 : Int))) (takeP p (signT (getR [Sh.int IntKind.i64] x20 x22).fst))) ((getR [Sh.int IntKind.i64] x20 x22).fst, CE.dflt (Sh.int IntKind.i64), CE.dflt Sh.str, CE.dflt Sh.str, CE.dflt Sh.str, CE.dflt Sh.str, CE.dflt (Sh.int IntKind.i64), ())).snd.fst)), SV.app ptS (addP (pfD N (IntKind.i64.wrap (n + (1 : Int))) (takeP p (signT (getR [Sh.int IntKind.i64] x20 x22).fst))) ((getR [Sh.int IntKind.i64] x20 x22).fst, CE.dflt (Sh.int IntKind.i64), CE.dflt Sh.str, CE.dflt Sh.str, CE.dflt Sh.str, CE.dflt Sh.str, CE.dflt (Sh.int IntKind.i64), ())).snd.snd.fst, SV.val (AV.d (D.bool (addP (pfD N (IntKind.i64.wrap (n + (1 : Int))) (takeP p (signT (getR [Sh.int IntKind.i64] x20 x22).fst))) ((getR [Sh.int IntKind.i64] x20 x22).fst, CE.dflt (Sh.int IntKind.i64), CE.dflt Sh.str, CE.dflt Sh.str, CE.dflt Sh.str, CE.dflt Sh.str, CE.dflt (Sh.int IntKind.i64), ())).snd.snd.snd.fst))], SV.val (AV.d (D.int IntKind.i64 n))])) (some (Rnd.out (Ex.exit (1 : Nat)) [SV.box true [SV.val (AV.d (D.sl tkS (addP (pfD N (IntKind.i64.wrap (n + (1 : Int))) (takeP p (signT (getR [Sh.int IntKind.i64] x20 x22).fst))) ((getR [Sh.int IntKind.i64] x20 x22).fst, CE.dflt (Sh.int IntKind.i64), CE.dflt Sh.str, CE.dflt Sh.str, CE.dflt Sh.str, CE.dflt Sh.str, CE.dflt (Sh.int IntKind.i64), ())).fst)), SV.val (AV.d (D.int IntKind.i64 (addP (pfD N (IntKind.i64.wrap (n + (1 : Int))) (takeP p (signT (getR [Sh.int IntKind.i64] x20 x22).fst))) ((getR [Sh.int IntKind.i64] x20 x22).fst, CE.dflt (Sh.int IntKind.i64), CE.dflt Sh.str, CE.dflt Sh.str, CE.dflt Sh.str, CE.dflt Sh.str, CE.dflt (Sh.int IntKind.i64), ())).snd.fst)), SV.app ptS (addP (pfD N (IntKind.i64.wrap (n + (1 : Int))) (takeP p (signT (getR [Sh.int IntKind.i64] x20 x22).fst))) ((getR [Sh.int IntKind.i64] x20 x22).fst, CE.dflt (Sh.int IntKind.i64), CE.dflt Sh.str, CE.dflt Sh.str, CE.dflt Sh.str, CE.dflt Sh.str, CE.dflt (Sh.int IntKind.i64), ())).snd.snd.fst, SV.val (AV.d (D.bool (addP (pfD N (IntKind.i64.wrap (n + (1 : Int))) (takeP p (signT (getR [Sh.int IntKind.i64] x20 x22).fst))) ((getR [Sh.int IntKind.i64] x20 x22).fst, CE.dflt (Sh.int IntKind.i64), CE.dflt Sh.str, CE.dflt Sh.str, CE.dflt Sh.str, CE.dflt Sh.str, CE.dflt (Sh.int IntKind.i64), ())).snd.snd.snd.fst))], SV.val (AV.d (D.int IntKind.i64 n))])))))
          (some (Rnd.again [SV.box true [SV.val (AV.d (D.sl tkS (takeP p (signT (getR [Sh.int IntKind.i64] x20 x22).fst)).fst)), SV.val (AV.d (D.int IntKind.i64 (takeP p (signT (getR [Sh.int IntKind.i64] x20 x22).fst)).snd.fst)), SV.app ptS (takeP p (signT (getR [Sh.int IntKind.i64] x20 x22).fst)).snd.snd.fst, SV.val (AV.d (D.bool (takeP p (signT (getR [Sh.int IntKind.i64] x20 x22).fst)).snd.snd.snd.fst))], SV.val (AV.d (D.int IntKind.i64 n)), SV.app [Sh.int IntKind.i64] x20, SV.val (AV.d (D.int IntKind.i64 x21)), SV.val (AV.d (D.int IntKind.i64 (IntKind.i64.wrap (x22 + (1 : Int)))))]))))))
  (some (Rnd.out (Ex.exit (2 : Nat)) [SV.box true [SV.val (AV.d (D.sl tkS p.fst)), SV.val (AV.d (D.int IntKind.i64 p.snd.fst)), SV.app ptS p.snd.snd.fst, SV.val (AV.d (D.bool p.snd.snd.snd.fst))], SV.val (AV.d (D.int IntKind.i64 n))])) := by kernel_rfl
theorem lokp_level_1 (N : Nat) : LoopOK T (En (Ep_simple N)) (Ln (Lp_level N)) (loopAt 1 (loops (bodyOf Try.f22))) := by
  refine loop_ok (live := [0, 1, 20, 21, 22]) (outs := [0, 1]) (rets := []) (ks := [.box [.v (.sl tkS), .v (.int .i64), .a ptS, .v .bool], .v false [.int .i64], .a [.int .i64], .v false [.int .i64], .v false [.int .i64]]) (G := lgp_level_1 N) (lkp_level_1 N) (lmp_level_1 N) (by kernel_rfl) ?_
  rintro ⟨(p : KCs [.v (.sl tkS), .v (.int .i64), .a ptS, .v .bool]), ⟨(n : Int), _⟩, (x20 : List (RowE [.int .i64])), ⟨(x21 : Int), _⟩, ⟨(x22 : Int), _⟩, _⟩ x hok hx
  refine Leads.of_eq (ltp_level_1 N p n x20 x21 x22) ?_
  obtain ⟨hs, hn, hn4, e20, e21, hi0, hi1, hf⟩ := hok
  have e20 : x20 = rowI (signL n) := e20
  subst e20
  have e21 : x21 = ((rowI (signL n)).length : Int) := e21
  subst e21
  obtain ⟨i, rfl⟩ := Int.eq_ofNat_of_zero_le hi0
  have hp := szP_in hs
  simp only [lgp_level_1, Int.toNat_natCast] at hf hx
  refine Leads.brD (fun lt => Leads.chk ⟨hi0, lt⟩ fun _ => ?_) (fun ge => Leads.one (Goes.out ?_))
  · have lt : i < (signL n).length := by rw [rowI_len] at lt; omega
    obtain ⟨k, hd, hg, hk6, hk17⟩ := sign_at lt
    rw [hd] at hf hx
    rw [hg]
    refine Leads.chk ⟨by show 0 ≤ k; omega, by show k < 27; omega⟩ fun _ => Leads.chk hs fun _ => Leads.br (fun w => ?_) (fun w => Leads.one ?_)
    · have w : isP p 5 (signT k) = true := w
      have nz := findK_ne0 (l := (signL n).drop (i + 1)) hk6 w
      have hf := hf nz
      have hx := Out_neg nz hx
      rw [findK_cons, if_pos w] at hx
      obtain ⟨q, hq⟩ := is_some hf
      have ha := stp_adv hp (isP_lt w)
      have h2 := pf_stp N (n + 1) _ _ (stp_in ha) hq
      rw [takeP_t w, wrap64 (by omega) (by omega)]
      refine Leads.chk ⟨szP_stp hs ha (by omega), by omega, by omega, hf⟩ fun _ => Leads.chk (by rw [pfD_e hq]; exact szP_lt (szP_stp hs (stp_trans ha h2) (by omega))) fun _ => Leads.brE (fun z => Leads.one (Goes.out ?_)) (fun z => Leads.one (Goes.out ?_))
      · have z : n = 2 := z
        rw [Out_leaf (Out_pos z hx)]; rfl
      · have z : ¬ n = 2 := z
        rw [Out_leaf (Out_neg z hx)]; rfl
    · have w : isP p 5 (signT k) = false := w
      rw [findK_cons, if_neg (by simp [w])] at hf hx
      rw [takeP_f w, wrap64 (by omega) (by have := hs.2.2.2; have hl : (signL n).length ≤ 6 := signL_len n; omega)]
      refine Goes.again (ks := [.box [.v (.sl tkS), .v (.int .i64), .a ptS, .v .bool], .v false [.int .i64], .a [.int .i64], .v false [.int .i64], .v false [.int .i64]]) (p, (n, ()), rowI (signL n), (((rowI (signL n)).length : Int), ()), (((i : Int) + 1), ()), ()) rfl ?_ ?_ ?_
      · refine ⟨hs, hn, hn4, rfl, rfl, (by omega : (0 : Int) ≤ (i : Int) + 1), ?_, ?_⟩
        · show (i : Int) + 1 ≤ ((rowI (signL n)).length : Int)
          rw [rowI_len]; omega
        · simp only [toNat_add1]; exact hf
      · show (signL n).length - ((i : Int) + 1).toNat < (signL n).length - (i : Int).toNat
        simp only [toNat_add1, Int.toNat_natCast]; omega
      · simp only [lgp_level_1, toNat_add1]; exact hx
  · have ge : ¬ i < (signL n).length := by rw [rowI_len] at ge; omega
    rw [List.drop_of_length_le (by omega), findK_nil] at hx
    rw [Out_leaf (Out_pos rfl hx)]; rfl
theorem tp_level (N : Nat) (p : KCs [.v (.sl tkS), .v (.int .i64), .a ptS, .v .bool]) (n : Int) : evFO T (En (Ep_simple N)) (Ln (Lp_level N)) Try.f22 [.box true (KCs.svs [.v (.sl tkS), .v (.int .i64), .a ptS, .v .bool] p), .val (.d (.int .i64 n))] =
    br (n == (5 : Int)) (chk (szP p ∧ (pf N (6 : Int) p).isSome = true) (some (SV.val (AV.tup []), [SV.box true [SV.val (AV.d (D.sl tkS (pfD N (6 : Int) p).fst)), SV.val (AV.d (D.int IntKind.i64 (pfD N (6 : Int) p).snd.fst)), SV.app ptS (pfD N (6 : Int) p).snd.snd.fst, SV.val (AV.d (D.bool (pfD N (6 : Int) p).snd.snd.snd.fst))]]))) (chk (szP p ∧ (0 : Int) ≤ IntKind.i64.wrap (n + (1 : Int)) ∧ IntKind.i64.wrap (n + (1 : Int)) ≤ (5 : Int) ∧ (pf N (IntKind.i64.wrap (n + (1 : Int))) p).isSome = true) (chk (lkp_level_0 N (pfD N (IntKind.i64.wrap (n + (1 : Int))) p, (n, ()), ())) (some (SV.val (AV.tup []), [SV.box true (KCs.svs [KC.v (Sh.sl tkS), KC.v (Sh.int IntKind.i64), KC.a ptS, KC.v Sh.bool] (chainD N n (pfD N (IntKind.i64.wrap (n + (1 : Int))) p)))])))) := by kernel_rfl
theorem satp_level (N : Nat) (okN : SatE P (En (ER N))) : SatO P 22 (SpL (N + 1)) := by
  refine sat_mkO (LT := Ln (Lp_level N)) hC (okp_simple N okN) mixed Try.func22 (by kernel_rfl) (c := bodyOf Try.f22) (by kernel_rfl) (by kernel_rfl) ?_ (loops2 (by kernel_rfl) (lokp_level_0 N) (lokp_level_1 N))
  rintro ⟨(p : KCs [.v (.sl tkS), .v (.int .i64), .a ptS, .v .bool]), ⟨(n : Int), _⟩, _⟩ sv h
  refine Leads.eq (Leads.of_eq (tp_level N p n) ?_)
  obtain ⟨⟨hs, hn, hn5, hi⟩, h⟩ := h
  have h := Out_leaf h
  subst h
  have hp := szP_in hs
  obtain ⟨r, hr⟩ := is_some hi
  rw [pfD_e hr]
  simp only [pf] at hr
  rw [if_neg (by omega)] at hr
  refine Leads.brE (fun q => ?_) (fun q => ?_)
  · have q : n = 5 := q
    rw [if_pos q] at hr
    refine Leads.chk ⟨hs, isSome_e hr⟩ fun _ => Leads.one ?_
    rw [pfD_e hr]; rfl
  · have q : ¬ n = 5 := q
    rw [if_neg q] at hr
    obtain ⟨r', hr', hc⟩ := bind_is (isSome_e hr)
    rw [hr', Option.bind_some] at hr
    rw [wrap64 (by omega) (by omega), pfD_e hr']
    have s2 := szP_stp hs (pf_stp N (n + 1) _ _ hp hr') (by omega)
    refine Leads.chk ⟨hs, by omega, by omega, isSome_e hr'⟩ fun _ => Leads.chk ⟨s2, hn, by omega, hc⟩ fun _ => Leads.one ?_
    rw [chainD_e hr]
end Go.Proofs.Ytoopcfjmmhmamaa.T6
