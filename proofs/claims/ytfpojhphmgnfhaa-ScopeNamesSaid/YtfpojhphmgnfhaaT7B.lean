/- Part of a proof of the seat's statements: no statement by itself. -/
import Derived.Test.YtfpojhphmgnfhaaT7A
import Derived.Test.YtfpojhphmgnfhaaSvB
set_option maxRecDepth 100000
open Go.Proofs.Ytfpojhphmgnfhaa.Lg Go Go.Proofs.Ytfpojhphmgnfhaa.Sp
open Go.Proofs
namespace Go.Proofs.Ytfpojhphmgnfhaa.T7


/-! ### legation/scope.two$1 -/
def Ls_two1 : Ls := []
def Ss_two1 := mkS [(false, [.bool]), (false, [.bool]), (false, [.bool]), (false, [.bool])] fun ⟨⟨(x : Bool), _⟩, ⟨(y : Bool), _⟩, ⟨(inA : Bool), _⟩, ⟨(inB : Bool), _⟩, _⟩ => bl (joinF7 x y inA inB)
theorem ts_two1 (x : Bool) (y : Bool) (inA : Bool) (inB : Bool) : evF T (Ep (Es_Right)) (Ln (Ls_two1)) Try.f86 [.d (.bool x), .d (.bool y), .d (.bool inA), .d (.bool inB)] =
    br x (some (SV.val (AV.d (D.bool true)))) (some (SV.val (AV.d (D.bool y)))) := by kernel_rfl
theorem sats_two1 : Sat P 86 (Ss_two1) := by
  refine sat_mk (LT := Ln (Ls_two1)) hC (SatE.ep oks_Right) mixed Try.func86 (by kernel_rfl) (c := bodyOf Try.f86) (by kernel_rfl) (by kernel_rfl) ?_ (loops0 (by kernel_rfl))
  rintro ⟨⟨(x : Bool), _⟩, ⟨(y : Bool), _⟩, ⟨(inA : Bool), _⟩, ⟨(inB : Bool), _⟩, _⟩ sv h
  refine Leads.eq (Leads.of_eq (ts_two1 x y inA inB) ?_)
  obtain rfl := Out_leaf h
  cases x <;> cases y <;> cases inA <;> cases inB <;> exact Leads.one rfl
def Es_two1 : Es := (86, (Ss_two1)) :: Es_Right
theorem oks_two1 : SatE P (En (Es_two1)) := SatE.cons (sats_two1) oks_Right
/-! ### legation/scope.two$2 -/
def Ls_two2 : Ls := []
def Ss_two2 := mkS [(false, [.bool]), (false, [.bool]), (false, [.bool]), (false, [.bool])] fun ⟨⟨(x : Bool), _⟩, ⟨(y : Bool), _⟩, ⟨(inA : Bool), _⟩, ⟨(inB : Bool), _⟩, _⟩ => bl (unionF7 x y inA inB)
theorem ts_two2 (x : Bool) (y : Bool) (inA : Bool) (inB : Bool) : evF T (Ep (Es_two1)) (Ln (Ls_two2)) Try.f87 [.d (.bool x), .d (.bool y), .d (.bool inA), .d (.bool inB)] =
    br x (some (SV.val (AV.d (D.bool y)))) (some (SV.val (AV.d (D.bool false)))) := by kernel_rfl
theorem sats_two2 : Sat P 87 (Ss_two2) := by
  refine sat_mk (LT := Ln (Ls_two2)) hC (SatE.ep oks_two1) mixed Try.func87 (by kernel_rfl) (c := bodyOf Try.f87) (by kernel_rfl) (by kernel_rfl) ?_ (loops0 (by kernel_rfl))
  rintro ⟨⟨(x : Bool), _⟩, ⟨(y : Bool), _⟩, ⟨(inA : Bool), _⟩, ⟨(inB : Bool), _⟩, _⟩ sv h
  refine Leads.eq (Leads.of_eq (ts_two2 x y inA inB) ?_)
  obtain rfl := Out_leaf h
  cases x <;> cases y <;> cases inA <;> cases inB <;> exact Leads.one rfl
def Es_two2 : Es := (87, (Ss_two2)) :: Es_two1
theorem oks_two2 : SatE P (En (Es_two2)) := SatE.cons (sats_two2) oks_two1
/-! ### legation/scope.two$3 -/
def Ls_two3 : Ls := []
def Ss_two3 := mkS [(false, [.bool]), (false, [.bool]), (false, [.bool]), (false, [.bool])] fun ⟨⟨(x : Bool), _⟩, ⟨(y : Bool), _⟩, ⟨(inA : Bool), _⟩, ⟨(inB : Bool), _⟩, _⟩ => bl (leftF7 x y inA inB)
theorem ts_two3 (x : Bool) (y : Bool) (inA : Bool) (inB : Bool) : evF T (Ep (Es_two2)) (Ln (Ls_two3)) Try.f88 [.d (.bool x), .d (.bool y), .d (.bool inA), .d (.bool inB)] =
    br inA (some (SV.val (AV.d (D.bool x)))) (some (SV.val (AV.d (D.bool false)))) := by kernel_rfl
theorem sats_two3 : Sat P 88 (Ss_two3) := by
  refine sat_mk (LT := Ln (Ls_two3)) hC (SatE.ep oks_two2) mixed Try.func88 (by kernel_rfl) (c := bodyOf Try.f88) (by kernel_rfl) (by kernel_rfl) ?_ (loops0 (by kernel_rfl))
  rintro ⟨⟨(x : Bool), _⟩, ⟨(y : Bool), _⟩, ⟨(inA : Bool), _⟩, ⟨(inB : Bool), _⟩, _⟩ sv h
  refine Leads.eq (Leads.of_eq (ts_two3 x y inA inB) ?_)
  obtain rfl := Out_leaf h
  cases x <;> cases y <;> cases inA <;> cases inB <;> exact Leads.one rfl
def Es_two3 : Es := (88, (Ss_two3)) :: Es_two2
theorem oks_two3 : SatE P (En (Es_two3)) := SatE.cons (sats_two3) oks_two2
/-! ### legation/scope.both[string] -/
def lks_both1_0 : St [.v false [.mp .str false [.bool]], .f 86, .mp .str false [.bool], .mit .str false [.bool]] → Prop := fun ⟨⟨(b : List (List UInt8 × RowE [.bool])), _⟩, _, (out : List (List UInt8 × RowE [.bool])), (it : List (List UInt8 × RowE [.bool])), _⟩ => Srt7 b ∧ Srt7 out ∧ (it.map Prod.fst).Nodup
def lgs_both1_0 : St [.v false [.mp .str false [.bool]], .f 86, .mp .str false [.bool], .mit .str false [.bool]] → MR := fun ⟨⟨(b : List (List UInt8 × RowE [.bool])), _⟩, _, (out : List (List UInt8 × RowE [.bool])), (it : List (List UInt8 × RowE [.bool])), _⟩ => .one (.exit 0, [.val (.d (.mp .str false [.bool] (b))), .val (.fn 86 []), .mp .str false [.bool] (put7 (fun _ => true) (bothA joinF7 b) it out)])
def lms_both1_0 : St [.v false [.mp .str false [.bool]], .f 86, .mp .str false [.bool], .mit .str false [.bool]] → Nat := fun ⟨⟨(b : List (List UInt8 × RowE [.bool])), _⟩, _, (out : List (List UInt8 × RowE [.bool])), (it : List (List UInt8 × RowE [.bool])), _⟩ => it.length
def lss_both1_0 : LoopS := mkM [1, 2, 7, 18] [1, 2, 7] [] [.v false [.mp .str false [.bool]], .f 86, .mp .str false [.bool], .mit .str false [.bool]] (fun r => .chk (lks_both1_0 r) (.leaf (lgs_both1_0 r)))
def lks_both1_1 : St [.v false [.mp .str false [.bool]], .f 86, .mp .str false [.bool], .mit .str false [.bool]] → Prop := fun ⟨⟨(a : List (List UInt8 × RowE [.bool])), _⟩, _, (out : List (List UInt8 × RowE [.bool])), (it : List (List UInt8 × RowE [.bool])), _⟩ => Srt7 a ∧ Srt7 out ∧ (it.map Prod.fst).Nodup
def lgs_both1_1 : St [.v false [.mp .str false [.bool]], .f 86, .mp .str false [.bool], .mit .str false [.bool]] → MR := fun ⟨⟨(a : List (List UInt8 × RowE [.bool])), _⟩, _, (out : List (List UInt8 × RowE [.bool])), (it : List (List UInt8 × RowE [.bool])), _⟩ => .one (.exit 2, [.mp .str false [.bool] (put7 (fun e => !(mh7 a e.1)) (bothB joinF7 a) it out)])
def lms_both1_1 : St [.v false [.mp .str false [.bool]], .f 86, .mp .str false [.bool], .mit .str false [.bool]] → Nat := fun ⟨⟨(a : List (List UInt8 × RowE [.bool])), _⟩, _, (out : List (List UInt8 × RowE [.bool])), (it : List (List UInt8 × RowE [.bool])), _⟩ => it.length
def lss_both1_1 : LoopS := mkM [0, 2, 7, 38] [7] [] [.v false [.mp .str false [.bool]], .f 86, .mp .str false [.bool], .mit .str false [.bool]] (fun r => .chk (lks_both1_1 r) (.leaf (lgs_both1_1 r)))
def Ls_both1 : Ls := [(3, lss_both1_0), (8, lss_both1_1)]
def Ss_both1 := mkF 2 86 (mkS [(false, [.mp .str false [.bool]]), (false, [.mp .str false [.bool]])] fun ⟨⟨(a : List (List UInt8 × RowE [.bool])), _⟩, ⟨(b : List (List UInt8 × RowE [.bool])), _⟩, _⟩ => .chk (Srt7 a ∧ Srt7 b) (.leaf (.val (.d (.mp .str false [.bool] (bothS joinF7 a b))))))
theorem lts_both1_0 {R : Type} (K : Ex → List SV → Option R) (A : List SV → Option R) (b : List (List UInt8 × RowE [.bool]))  (out : List (List UInt8 × RowE [.bool])) (it : List (List UInt8 × RowE [.bool])) : evRoundK T (Ep (Es_two3)) (Ln (Ls_both1)) (loopAt 0 (loops (bodyOf Try.f85))) (lss_both1_0) [.val (.d (.mp .str false [.bool] b)), .val (.fn 86 []), .mp .str false [.bool] out, .mit .str false [.bool] it none] K A =
    brP (it = []) (K (Ex.exit (0 : Nat)) [SV.val (AV.d (D.mp Sh.str false [Sh.bool] b)), SV.val (AV.fn (86 : Nat) []), SV.mp Sh.str false [Sh.bool] out]) (anyN it.length fun i => A [SV.val (AV.d (D.mp Sh.str false [Sh.bool] b)), SV.val (AV.fn (86 : Nat) []), SV.mp Sh.str false [Sh.bool] (mput Sh.str [Sh.bool] out (it.getD i (CE.dflt Sh.str, RowE.dflt [Sh.bool])).fst (joinF7 (it.getD i (CE.dflt Sh.str, RowE.dflt [Sh.bool])).snd.fst (mget Sh.str [Sh.bool] b (it.getD i (CE.dflt Sh.str, RowE.dflt [Sh.bool])).fst).fst true (mhas Sh.str [Sh.bool] b (it.getD i (CE.dflt Sh.str, RowE.dflt [Sh.bool])).fst), ())), SV.mit Sh.str false [Sh.bool] (it.eraseIdx i) none]) := by kernel_rfl
theorem loks_both1_0 : LoopOK T (Ep (Es_two3)) (Ln (Ls_both1)) (loopAt 0 (loops (bodyOf Try.f85))) := by
  refine loop_okM (live := [1, 2, 7, 18]) (outs := [1, 2, 7]) (rets := []) (ks := [.v false [.mp .str false [.bool]], .f 86, .mp .str false [.bool], .mit .str false [.bool]]) (G := lgs_both1_0) (lks_both1_0) (lms_both1_0) (by kernel_rfl) ?_
  rintro R K A z ⟨⟨(b : List (List UInt8 × RowE [.bool])), _⟩, _, (out : List (List UInt8 × RowE [.bool])), (it : List (List UInt8 × RowE [.bool])), _⟩ hok hA hz
  refine Leads.eq (Leads.of_eq (lts_both1_0 K A b out it) ?_)
  obtain ⟨h1, h2, h3⟩ := hok
  refine Leads.brP (fun e => Leads.is ?_) (fun e => Leads.any (List.length_pos_iff.2 e) fun i hi => ?_)
  · subst e; exact hz
  · have hx : it[i]? = some it[i] := List.getElem?_eq_getElem hi
    have hg : it.getD i (CE.dflt Sh.str, RowE.dflt [.bool]) = it[i] := by rw [List.getD_eq_getElem?_getD, hx]; rfl
    rw [hg]
    have st : put7 (fun _ => true) (bothA joinF7 b) (it.eraseIdx i) (mput Sh.str [.bool] out it[i].1 (bothA joinF7 b it[i], ())) = put7 (fun _ => true) (bothA joinF7 b) it out := put7_step (fun _ => true) (bothA joinF7 b) h3 h2 hx
    refine Leads.is (hA ((b, ()), (), mput Sh.str [.bool] out it[i].1 (bothA joinF7 b it[i], ()), it.eraseIdx i, ()) ?_ ?_ ?_)
    · exact ⟨h1, srt_mput7 h2 _ _, nodup_erase h3 i⟩
    · simp only [lms_both1_0]; rw [List.length_eraseIdx, if_pos hi]; omega
    · simp only [lgs_both1_0, MR.run] at hz ⊢
      rw [st]; exact hz
theorem lts_both1_1 {R : Type} (K : Ex → List SV → Option R) (A : List SV → Option R) (a : List (List UInt8 × RowE [.bool]))  (out : List (List UInt8 × RowE [.bool])) (it : List (List UInt8 × RowE [.bool])) : evRoundK T (Ep (Es_two3)) (Ln (Ls_both1)) (loopAt 1 (loops (bodyOf Try.f85))) (lss_both1_1) [.val (.d (.mp .str false [.bool] a)), .val (.fn 86 []), .mp .str false [.bool] out, .mit .str false [.bool] it none] K A =
    brP (it = []) (K (Ex.exit (2 : Nat)) [SV.mp Sh.str false [Sh.bool] out]) (anyN it.length fun i => br (!mhas Sh.str [Sh.bool] a (it.getD i (CE.dflt Sh.str, RowE.dflt [Sh.bool])).fst) (A [SV.val (AV.d (D.mp Sh.str false [Sh.bool] a)), SV.val (AV.fn (86 : Nat) []), SV.mp Sh.str false [Sh.bool] (mput Sh.str [Sh.bool] out (it.getD i (CE.dflt Sh.str, RowE.dflt [Sh.bool])).fst (joinF7 (mget Sh.str [Sh.bool] a (it.getD i (CE.dflt Sh.str, RowE.dflt [Sh.bool])).fst).fst (it.getD i (CE.dflt Sh.str, RowE.dflt [Sh.bool])).snd.fst false true, ())), SV.mit Sh.str false [Sh.bool] (it.eraseIdx i) none]) (A [SV.val (AV.d (D.mp Sh.str false [Sh.bool] a)), SV.val (AV.fn (86 : Nat) []), SV.mp Sh.str false [Sh.bool] out, SV.mit Sh.str false [Sh.bool] (it.eraseIdx i) none])) := by kernel_rfl
theorem loks_both1_1 : LoopOK T (Ep (Es_two3)) (Ln (Ls_both1)) (loopAt 1 (loops (bodyOf Try.f85))) := by
  refine loop_okM (live := [0, 2, 7, 38]) (outs := [7]) (rets := []) (ks := [.v false [.mp .str false [.bool]], .f 86, .mp .str false [.bool], .mit .str false [.bool]]) (G := lgs_both1_1) (lks_both1_1) (lms_both1_1) (by kernel_rfl) ?_
  rintro R K A z ⟨⟨(a : List (List UInt8 × RowE [.bool])), _⟩, _, (out : List (List UInt8 × RowE [.bool])), (it : List (List UInt8 × RowE [.bool])), _⟩ hok hA hz
  refine Leads.eq (Leads.of_eq (lts_both1_1 K A a out it) ?_)
  obtain ⟨h1, h2, h3⟩ := hok
  refine Leads.brP (fun e => Leads.is ?_) (fun e => Leads.any (List.length_pos_iff.2 e) fun i hi => ?_)
  · subst e; exact hz
  · have hx : it[i]? = some it[i] := List.getElem?_eq_getElem hi
    have hg : it.getD i (CE.dflt Sh.str, RowE.dflt [.bool]) = it[i] := by rw [List.getD_eq_getElem?_getD, hx]; rfl
    rw [hg]
    have st := put7_step (fun e => !(mh7 a e.1)) (bothB joinF7 a) h3 h2 hx
    refine Leads.br (fun w => ?_) (fun w => ?_)
    · have w : (!(mh7 a it[i].1)) = true := w
      have st : put7 (fun e => !(mh7 a e.1)) (bothB joinF7 a) (it.eraseIdx i) (mput Sh.str [.bool] out it[i].1 (bothB joinF7 a it[i], ())) = put7 (fun e => !(mh7 a e.1)) (bothB joinF7 a) it out := by rw [if_pos w] at st; exact st
      refine Leads.is (hA ((a, ()), (), mput Sh.str [.bool] out it[i].1 (bothB joinF7 a it[i], ()), it.eraseIdx i, ()) ?_ ?_ ?_)
      · exact ⟨h1, srt_mput7 h2 _ _, nodup_erase h3 i⟩
      · simp only [lms_both1_1]; rw [List.length_eraseIdx, if_pos hi]; omega
      · simp only [lgs_both1_1, MR.run] at hz ⊢
        rw [st]; exact hz
    · have w : (!(mh7 a it[i].1)) = false := w
      rw [if_neg (by rw [w]; simp)] at st
      refine Leads.is (hA ((a, ()), (), out, it.eraseIdx i, ()) ?_ ?_ ?_)
      · exact ⟨h1, h2, nodup_erase h3 i⟩
      · simp only [lms_both1_1]; rw [List.length_eraseIdx, if_pos hi]; omega
      · simp only [lgs_both1_1, MR.run] at hz ⊢
        rw [st]; exact hz
theorem ts_both1 (a : List (List UInt8 × RowE [.bool])) (b : List (List UInt8 × RowE [.bool])) : evF T (Ep (Es_two3)) (Ln (Ls_both1)) Try.f85 [.d (.mp .str false [.bool] a), .d (.mp .str false [.bool] b), .fn 86 []] =
    chk (lks_both1_0 ((b, ()), (), [], a, ())) (chk (lks_both1_1 ((a, ()), (), put7 (fun x => true) (bothA joinF7 b) a [], b, ())) (some (SV.val (AV.d (D.mp Sh.str false [Sh.bool] (put7 (fun e => !mh7 a e.fst) (bothB joinF7 a) b (put7 (fun x => true) (bothA joinF7 b) a []))))))) := by kernel_rfl
theorem sats_both1 : Sat P 85 (Ss_both1) := by
  refine sat_mkF (LT := Ln (Ls_both1)) hC (SatE.ep oks_two3) mixed Try.func85 (by kernel_rfl) (c := bodyOf Try.f85) (by kernel_rfl) (by kernel_rfl) ?_ (loops2 (by kernel_rfl) (loks_both1_0) (loks_both1_1))
  rintro ⟨⟨(a : List (List UInt8 × RowE [.bool])), _⟩, ⟨(b : List (List UInt8 × RowE [.bool])), _⟩, _⟩ sv h
  refine Leads.eq (Leads.of_eq (ts_both1 a b) ?_)
  obtain ⟨⟨ha, hb⟩, h⟩ := h
  obtain rfl := Out_leaf h
  exact Leads.chk ⟨hb, srt_nil, ha.nodup⟩ fun _ => Leads.chk ⟨ha, srt_put7 _ _ _ _ srt_nil, hb.nodup⟩ fun _ => Leads.one rfl
/-! ### legation/scope.both[string] -/
def lks_both2_0 : St [.v false [.mp .str false [.bool]], .f 87, .mp .str false [.bool], .mit .str false [.bool]] → Prop := fun ⟨⟨(b : List (List UInt8 × RowE [.bool])), _⟩, _, (out : List (List UInt8 × RowE [.bool])), (it : List (List UInt8 × RowE [.bool])), _⟩ => Srt7 b ∧ Srt7 out ∧ (it.map Prod.fst).Nodup
def lgs_both2_0 : St [.v false [.mp .str false [.bool]], .f 87, .mp .str false [.bool], .mit .str false [.bool]] → MR := fun ⟨⟨(b : List (List UInt8 × RowE [.bool])), _⟩, _, (out : List (List UInt8 × RowE [.bool])), (it : List (List UInt8 × RowE [.bool])), _⟩ => .one (.exit 0, [.val (.d (.mp .str false [.bool] (b))), .val (.fn 87 []), .mp .str false [.bool] (put7 (fun _ => true) (bothA unionF7 b) it out)])
def lms_both2_0 : St [.v false [.mp .str false [.bool]], .f 87, .mp .str false [.bool], .mit .str false [.bool]] → Nat := fun ⟨⟨(b : List (List UInt8 × RowE [.bool])), _⟩, _, (out : List (List UInt8 × RowE [.bool])), (it : List (List UInt8 × RowE [.bool])), _⟩ => it.length
def lss_both2_0 : LoopS := mkM [1, 2, 7, 18] [1, 2, 7] [] [.v false [.mp .str false [.bool]], .f 87, .mp .str false [.bool], .mit .str false [.bool]] (fun r => .chk (lks_both2_0 r) (.leaf (lgs_both2_0 r)))
def lks_both2_1 : St [.v false [.mp .str false [.bool]], .f 87, .mp .str false [.bool], .mit .str false [.bool]] → Prop := fun ⟨⟨(a : List (List UInt8 × RowE [.bool])), _⟩, _, (out : List (List UInt8 × RowE [.bool])), (it : List (List UInt8 × RowE [.bool])), _⟩ => Srt7 a ∧ Srt7 out ∧ (it.map Prod.fst).Nodup
def lgs_both2_1 : St [.v false [.mp .str false [.bool]], .f 87, .mp .str false [.bool], .mit .str false [.bool]] → MR := fun ⟨⟨(a : List (List UInt8 × RowE [.bool])), _⟩, _, (out : List (List UInt8 × RowE [.bool])), (it : List (List UInt8 × RowE [.bool])), _⟩ => .one (.exit 2, [.mp .str false [.bool] (put7 (fun e => !(mh7 a e.1)) (bothB unionF7 a) it out)])
def lms_both2_1 : St [.v false [.mp .str false [.bool]], .f 87, .mp .str false [.bool], .mit .str false [.bool]] → Nat := fun ⟨⟨(a : List (List UInt8 × RowE [.bool])), _⟩, _, (out : List (List UInt8 × RowE [.bool])), (it : List (List UInt8 × RowE [.bool])), _⟩ => it.length
def lss_both2_1 : LoopS := mkM [0, 2, 7, 38] [7] [] [.v false [.mp .str false [.bool]], .f 87, .mp .str false [.bool], .mit .str false [.bool]] (fun r => .chk (lks_both2_1 r) (.leaf (lgs_both2_1 r)))
def Ls_both2 : Ls := [(3, lss_both2_0), (8, lss_both2_1)]
def Ss_both2 := mkF 2 87 (mkS [(false, [.mp .str false [.bool]]), (false, [.mp .str false [.bool]])] fun ⟨⟨(a : List (List UInt8 × RowE [.bool])), _⟩, ⟨(b : List (List UInt8 × RowE [.bool])), _⟩, _⟩ => .chk (Srt7 a ∧ Srt7 b) (.leaf (.val (.d (.mp .str false [.bool] (bothS unionF7 a b))))))
theorem lts_both2_0 {R : Type} (K : Ex → List SV → Option R) (A : List SV → Option R) (b : List (List UInt8 × RowE [.bool]))  (out : List (List UInt8 × RowE [.bool])) (it : List (List UInt8 × RowE [.bool])) : evRoundK T (Ep (Es_two3)) (Ln (Ls_both2)) (loopAt 0 (loops (bodyOf Try.f85))) (lss_both2_0) [.val (.d (.mp .str false [.bool] b)), .val (.fn 87 []), .mp .str false [.bool] out, .mit .str false [.bool] it none] K A =
    brP (it = []) (K (Ex.exit (0 : Nat)) [SV.val (AV.d (D.mp Sh.str false [Sh.bool] b)), SV.val (AV.fn (87 : Nat) []), SV.mp Sh.str false [Sh.bool] out]) (anyN it.length fun i => A [SV.val (AV.d (D.mp Sh.str false [Sh.bool] b)), SV.val (AV.fn (87 : Nat) []), SV.mp Sh.str false [Sh.bool] (mput Sh.str [Sh.bool] out (it.getD i (CE.dflt Sh.str, RowE.dflt [Sh.bool])).fst (unionF7 (it.getD i (CE.dflt Sh.str, RowE.dflt [Sh.bool])).snd.fst (mget Sh.str [Sh.bool] b (it.getD i (CE.dflt Sh.str, RowE.dflt [Sh.bool])).fst).fst true (mhas Sh.str [Sh.bool] b (it.getD i (CE.dflt Sh.str, RowE.dflt [Sh.bool])).fst), ())), SV.mit Sh.str false [Sh.bool] (it.eraseIdx i) none]) := by kernel_rfl
theorem loks_both2_0 : LoopOK T (Ep (Es_two3)) (Ln (Ls_both2)) (loopAt 0 (loops (bodyOf Try.f85))) := by
  refine loop_okM (live := [1, 2, 7, 18]) (outs := [1, 2, 7]) (rets := []) (ks := [.v false [.mp .str false [.bool]], .f 87, .mp .str false [.bool], .mit .str false [.bool]]) (G := lgs_both2_0) (lks_both2_0) (lms_both2_0) (by kernel_rfl) ?_
  rintro R K A z ⟨⟨(b : List (List UInt8 × RowE [.bool])), _⟩, _, (out : List (List UInt8 × RowE [.bool])), (it : List (List UInt8 × RowE [.bool])), _⟩ hok hA hz
  refine Leads.eq (Leads.of_eq (lts_both2_0 K A b out it) ?_)
  obtain ⟨h1, h2, h3⟩ := hok
  refine Leads.brP (fun e => Leads.is ?_) (fun e => Leads.any (List.length_pos_iff.2 e) fun i hi => ?_)
  · subst e; exact hz
  · have hx : it[i]? = some it[i] := List.getElem?_eq_getElem hi
    have hg : it.getD i (CE.dflt Sh.str, RowE.dflt [.bool]) = it[i] := by rw [List.getD_eq_getElem?_getD, hx]; rfl
    rw [hg]
    have st : put7 (fun _ => true) (bothA unionF7 b) (it.eraseIdx i) (mput Sh.str [.bool] out it[i].1 (bothA unionF7 b it[i], ())) = put7 (fun _ => true) (bothA unionF7 b) it out := put7_step (fun _ => true) (bothA unionF7 b) h3 h2 hx
    refine Leads.is (hA ((b, ()), (), mput Sh.str [.bool] out it[i].1 (bothA unionF7 b it[i], ()), it.eraseIdx i, ()) ?_ ?_ ?_)
    · exact ⟨h1, srt_mput7 h2 _ _, nodup_erase h3 i⟩
    · simp only [lms_both2_0]; rw [List.length_eraseIdx, if_pos hi]; omega
    · simp only [lgs_both2_0, MR.run] at hz ⊢
      rw [st]; exact hz
theorem lts_both2_1 {R : Type} (K : Ex → List SV → Option R) (A : List SV → Option R) (a : List (List UInt8 × RowE [.bool]))  (out : List (List UInt8 × RowE [.bool])) (it : List (List UInt8 × RowE [.bool])) : evRoundK T (Ep (Es_two3)) (Ln (Ls_both2)) (loopAt 1 (loops (bodyOf Try.f85))) (lss_both2_1) [.val (.d (.mp .str false [.bool] a)), .val (.fn 87 []), .mp .str false [.bool] out, .mit .str false [.bool] it none] K A =
    brP (it = []) (K (Ex.exit (2 : Nat)) [SV.mp Sh.str false [Sh.bool] out]) (anyN it.length fun i => br (!mhas Sh.str [Sh.bool] a (it.getD i (CE.dflt Sh.str, RowE.dflt [Sh.bool])).fst) (A [SV.val (AV.d (D.mp Sh.str false [Sh.bool] a)), SV.val (AV.fn (87 : Nat) []), SV.mp Sh.str false [Sh.bool] (mput Sh.str [Sh.bool] out (it.getD i (CE.dflt Sh.str, RowE.dflt [Sh.bool])).fst (unionF7 (mget Sh.str [Sh.bool] a (it.getD i (CE.dflt Sh.str, RowE.dflt [Sh.bool])).fst).fst (it.getD i (CE.dflt Sh.str, RowE.dflt [Sh.bool])).snd.fst false true, ())), SV.mit Sh.str false [Sh.bool] (it.eraseIdx i) none]) (A [SV.val (AV.d (D.mp Sh.str false [Sh.bool] a)), SV.val (AV.fn (87 : Nat) []), SV.mp Sh.str false [Sh.bool] out, SV.mit Sh.str false [Sh.bool] (it.eraseIdx i) none])) := by kernel_rfl
theorem loks_both2_1 : LoopOK T (Ep (Es_two3)) (Ln (Ls_both2)) (loopAt 1 (loops (bodyOf Try.f85))) := by
  refine loop_okM (live := [0, 2, 7, 38]) (outs := [7]) (rets := []) (ks := [.v false [.mp .str false [.bool]], .f 87, .mp .str false [.bool], .mit .str false [.bool]]) (G := lgs_both2_1) (lks_both2_1) (lms_both2_1) (by kernel_rfl) ?_
  rintro R K A z ⟨⟨(a : List (List UInt8 × RowE [.bool])), _⟩, _, (out : List (List UInt8 × RowE [.bool])), (it : List (List UInt8 × RowE [.bool])), _⟩ hok hA hz
  refine Leads.eq (Leads.of_eq (lts_both2_1 K A a out it) ?_)
  obtain ⟨h1, h2, h3⟩ := hok
  refine Leads.brP (fun e => Leads.is ?_) (fun e => Leads.any (List.length_pos_iff.2 e) fun i hi => ?_)
  · subst e; exact hz
  · have hx : it[i]? = some it[i] := List.getElem?_eq_getElem hi
    have hg : it.getD i (CE.dflt Sh.str, RowE.dflt [.bool]) = it[i] := by rw [List.getD_eq_getElem?_getD, hx]; rfl
    rw [hg]
    have st := put7_step (fun e => !(mh7 a e.1)) (bothB unionF7 a) h3 h2 hx
    refine Leads.br (fun w => ?_) (fun w => ?_)
    · have w : (!(mh7 a it[i].1)) = true := w
      have st : put7 (fun e => !(mh7 a e.1)) (bothB unionF7 a) (it.eraseIdx i) (mput Sh.str [.bool] out it[i].1 (bothB unionF7 a it[i], ())) = put7 (fun e => !(mh7 a e.1)) (bothB unionF7 a) it out := by rw [if_pos w] at st; exact st
      refine Leads.is (hA ((a, ()), (), mput Sh.str [.bool] out it[i].1 (bothB unionF7 a it[i], ()), it.eraseIdx i, ()) ?_ ?_ ?_)
      · exact ⟨h1, srt_mput7 h2 _ _, nodup_erase h3 i⟩
      · simp only [lms_both2_1]; rw [List.length_eraseIdx, if_pos hi]; omega
      · simp only [lgs_both2_1, MR.run] at hz ⊢
        rw [st]; exact hz
    · have w : (!(mh7 a it[i].1)) = false := w
      rw [if_neg (by rw [w]; simp)] at st
      refine Leads.is (hA ((a, ()), (), out, it.eraseIdx i, ()) ?_ ?_ ?_)
      · exact ⟨h1, h2, nodup_erase h3 i⟩
      · simp only [lms_both2_1]; rw [List.length_eraseIdx, if_pos hi]; omega
      · simp only [lgs_both2_1, MR.run] at hz ⊢
        rw [st]; exact hz
theorem ts_both2 (a : List (List UInt8 × RowE [.bool])) (b : List (List UInt8 × RowE [.bool])) : evF T (Ep (Es_two3)) (Ln (Ls_both2)) Try.f85 [.d (.mp .str false [.bool] a), .d (.mp .str false [.bool] b), .fn 87 []] =
    chk (lks_both2_0 ((b, ()), (), [], a, ())) (chk (lks_both2_1 ((a, ()), (), put7 (fun x => true) (bothA unionF7 b) a [], b, ())) (some (SV.val (AV.d (D.mp Sh.str false [Sh.bool] (put7 (fun e => !mh7 a e.fst) (bothB unionF7 a) b (put7 (fun x => true) (bothA unionF7 b) a []))))))) := by kernel_rfl
theorem sats_both2 : Sat P 85 (Ss_both2) := by
  refine sat_mkF (LT := Ln (Ls_both2)) hC (SatE.ep oks_two3) mixed Try.func85 (by kernel_rfl) (c := bodyOf Try.f85) (by kernel_rfl) (by kernel_rfl) ?_ (loops2 (by kernel_rfl) (loks_both2_0) (loks_both2_1))
  rintro ⟨⟨(a : List (List UInt8 × RowE [.bool])), _⟩, ⟨(b : List (List UInt8 × RowE [.bool])), _⟩, _⟩ sv h
  refine Leads.eq (Leads.of_eq (ts_both2 a b) ?_)
  obtain ⟨⟨ha, hb⟩, h⟩ := h
  obtain rfl := Out_leaf h
  exact Leads.chk ⟨hb, srt_nil, ha.nodup⟩ fun _ => Leads.chk ⟨ha, srt_put7 _ _ _ _ srt_nil, hb.nodup⟩ fun _ => Leads.one rfl
/-! ### legation/scope.both[string] -/
def lks_both3_0 : St [.v false [.mp .str false [.bool]], .f 88, .mp .str false [.bool], .mit .str false [.bool]] → Prop := fun ⟨⟨(b : List (List UInt8 × RowE [.bool])), _⟩, _, (out : List (List UInt8 × RowE [.bool])), (it : List (List UInt8 × RowE [.bool])), _⟩ => Srt7 b ∧ Srt7 out ∧ (it.map Prod.fst).Nodup
def lgs_both3_0 : St [.v false [.mp .str false [.bool]], .f 88, .mp .str false [.bool], .mit .str false [.bool]] → MR := fun ⟨⟨(b : List (List UInt8 × RowE [.bool])), _⟩, _, (out : List (List UInt8 × RowE [.bool])), (it : List (List UInt8 × RowE [.bool])), _⟩ => .one (.exit 0, [.val (.d (.mp .str false [.bool] (b))), .val (.fn 88 []), .mp .str false [.bool] (put7 (fun _ => true) (bothA leftF7 b) it out)])
def lms_both3_0 : St [.v false [.mp .str false [.bool]], .f 88, .mp .str false [.bool], .mit .str false [.bool]] → Nat := fun ⟨⟨(b : List (List UInt8 × RowE [.bool])), _⟩, _, (out : List (List UInt8 × RowE [.bool])), (it : List (List UInt8 × RowE [.bool])), _⟩ => it.length
def lss_both3_0 : LoopS := mkM [1, 2, 7, 18] [1, 2, 7] [] [.v false [.mp .str false [.bool]], .f 88, .mp .str false [.bool], .mit .str false [.bool]] (fun r => .chk (lks_both3_0 r) (.leaf (lgs_both3_0 r)))
def lks_both3_1 : St [.v false [.mp .str false [.bool]], .f 88, .mp .str false [.bool], .mit .str false [.bool]] → Prop := fun ⟨⟨(a : List (List UInt8 × RowE [.bool])), _⟩, _, (out : List (List UInt8 × RowE [.bool])), (it : List (List UInt8 × RowE [.bool])), _⟩ => Srt7 a ∧ Srt7 out ∧ (it.map Prod.fst).Nodup
def lgs_both3_1 : St [.v false [.mp .str false [.bool]], .f 88, .mp .str false [.bool], .mit .str false [.bool]] → MR := fun ⟨⟨(a : List (List UInt8 × RowE [.bool])), _⟩, _, (out : List (List UInt8 × RowE [.bool])), (it : List (List UInt8 × RowE [.bool])), _⟩ => .one (.exit 2, [.mp .str false [.bool] (put7 (fun e => !(mh7 a e.1)) (bothB leftF7 a) it out)])
def lms_both3_1 : St [.v false [.mp .str false [.bool]], .f 88, .mp .str false [.bool], .mit .str false [.bool]] → Nat := fun ⟨⟨(a : List (List UInt8 × RowE [.bool])), _⟩, _, (out : List (List UInt8 × RowE [.bool])), (it : List (List UInt8 × RowE [.bool])), _⟩ => it.length
def lss_both3_1 : LoopS := mkM [0, 2, 7, 38] [7] [] [.v false [.mp .str false [.bool]], .f 88, .mp .str false [.bool], .mit .str false [.bool]] (fun r => .chk (lks_both3_1 r) (.leaf (lgs_both3_1 r)))
def Ls_both3 : Ls := [(3, lss_both3_0), (8, lss_both3_1)]
def Ss_both3 := mkF 2 88 (mkS [(false, [.mp .str false [.bool]]), (false, [.mp .str false [.bool]])] fun ⟨⟨(a : List (List UInt8 × RowE [.bool])), _⟩, ⟨(b : List (List UInt8 × RowE [.bool])), _⟩, _⟩ => .chk (Srt7 a ∧ Srt7 b) (.leaf (.val (.d (.mp .str false [.bool] (bothS leftF7 a b))))))
theorem lts_both3_0 {R : Type} (K : Ex → List SV → Option R) (A : List SV → Option R) (b : List (List UInt8 × RowE [.bool]))  (out : List (List UInt8 × RowE [.bool])) (it : List (List UInt8 × RowE [.bool])) : evRoundK T (Ep (Es_two3)) (Ln (Ls_both3)) (loopAt 0 (loops (bodyOf Try.f85))) (lss_both3_0) [.val (.d (.mp .str false [.bool] b)), .val (.fn 88 []), .mp .str false [.bool] out, .mit .str false [.bool] it none] K A =
    brP (it = []) (K (Ex.exit (0 : Nat)) [SV.val (AV.d (D.mp Sh.str false [Sh.bool] b)), SV.val (AV.fn (88 : Nat) []), SV.mp Sh.str false [Sh.bool] out]) (anyN it.length fun i => A [SV.val (AV.d (D.mp Sh.str false [Sh.bool] b)), SV.val (AV.fn (88 : Nat) []), SV.mp Sh.str false [Sh.bool] (mput Sh.str [Sh.bool] out (it.getD i (CE.dflt Sh.str, RowE.dflt [Sh.bool])).fst (leftF7 (it.getD i (CE.dflt Sh.str, RowE.dflt [Sh.bool])).snd.fst (mget Sh.str [Sh.bool] b (it.getD i (CE.dflt Sh.str, RowE.dflt [Sh.bool])).fst).fst true (mhas Sh.str [Sh.bool] b (it.getD i (CE.dflt Sh.str, RowE.dflt [Sh.bool])).fst), ())), SV.mit Sh.str false [Sh.bool] (it.eraseIdx i) none]) := by kernel_rfl
theorem loks_both3_0 : LoopOK T (Ep (Es_two3)) (Ln (Ls_both3)) (loopAt 0 (loops (bodyOf Try.f85))) := by
  refine loop_okM (live := [1, 2, 7, 18]) (outs := [1, 2, 7]) (rets := []) (ks := [.v false [.mp .str false [.bool]], .f 88, .mp .str false [.bool], .mit .str false [.bool]]) (G := lgs_both3_0) (lks_both3_0) (lms_both3_0) (by kernel_rfl) ?_
  rintro R K A z ⟨⟨(b : List (List UInt8 × RowE [.bool])), _⟩, _, (out : List (List UInt8 × RowE [.bool])), (it : List (List UInt8 × RowE [.bool])), _⟩ hok hA hz
  refine Leads.eq (Leads.of_eq (lts_both3_0 K A b out it) ?_)
  obtain ⟨h1, h2, h3⟩ := hok
  refine Leads.brP (fun e => Leads.is ?_) (fun e => Leads.any (List.length_pos_iff.2 e) fun i hi => ?_)
  · subst e; exact hz
  · have hx : it[i]? = some it[i] := List.getElem?_eq_getElem hi
    have hg : it.getD i (CE.dflt Sh.str, RowE.dflt [.bool]) = it[i] := by rw [List.getD_eq_getElem?_getD, hx]; rfl
    rw [hg]
    have st : put7 (fun _ => true) (bothA leftF7 b) (it.eraseIdx i) (mput Sh.str [.bool] out it[i].1 (bothA leftF7 b it[i], ())) = put7 (fun _ => true) (bothA leftF7 b) it out := put7_step (fun _ => true) (bothA leftF7 b) h3 h2 hx
    refine Leads.is (hA ((b, ()), (), mput Sh.str [.bool] out it[i].1 (bothA leftF7 b it[i], ()), it.eraseIdx i, ()) ?_ ?_ ?_)
    · exact ⟨h1, srt_mput7 h2 _ _, nodup_erase h3 i⟩
    · simp only [lms_both3_0]; rw [List.length_eraseIdx, if_pos hi]; omega
    · simp only [lgs_both3_0, MR.run] at hz ⊢
      rw [st]; exact hz
theorem lts_both3_1 {R : Type} (K : Ex → List SV → Option R) (A : List SV → Option R) (a : List (List UInt8 × RowE [.bool]))  (out : List (List UInt8 × RowE [.bool])) (it : List (List UInt8 × RowE [.bool])) : evRoundK T (Ep (Es_two3)) (Ln (Ls_both3)) (loopAt 1 (loops (bodyOf Try.f85))) (lss_both3_1) [.val (.d (.mp .str false [.bool] a)), .val (.fn 88 []), .mp .str false [.bool] out, .mit .str false [.bool] it none] K A =
    brP (it = []) (K (Ex.exit (2 : Nat)) [SV.mp Sh.str false [Sh.bool] out]) (anyN it.length fun i => br (!mhas Sh.str [Sh.bool] a (it.getD i (CE.dflt Sh.str, RowE.dflt [Sh.bool])).fst) (A [SV.val (AV.d (D.mp Sh.str false [Sh.bool] a)), SV.val (AV.fn (88 : Nat) []), SV.mp Sh.str false [Sh.bool] (mput Sh.str [Sh.bool] out (it.getD i (CE.dflt Sh.str, RowE.dflt [Sh.bool])).fst (leftF7 (mget Sh.str [Sh.bool] a (it.getD i (CE.dflt Sh.str, RowE.dflt [Sh.bool])).fst).fst (it.getD i (CE.dflt Sh.str, RowE.dflt [Sh.bool])).snd.fst false true, ())), SV.mit Sh.str false [Sh.bool] (it.eraseIdx i) none]) (A [SV.val (AV.d (D.mp Sh.str false [Sh.bool] a)), SV.val (AV.fn (88 : Nat) []), SV.mp Sh.str false [Sh.bool] out, SV.mit Sh.str false [Sh.bool] (it.eraseIdx i) none])) := by kernel_rfl
theorem loks_both3_1 : LoopOK T (Ep (Es_two3)) (Ln (Ls_both3)) (loopAt 1 (loops (bodyOf Try.f85))) := by
  refine loop_okM (live := [0, 2, 7, 38]) (outs := [7]) (rets := []) (ks := [.v false [.mp .str false [.bool]], .f 88, .mp .str false [.bool], .mit .str false [.bool]]) (G := lgs_both3_1) (lks_both3_1) (lms_both3_1) (by kernel_rfl) ?_
  rintro R K A z ⟨⟨(a : List (List UInt8 × RowE [.bool])), _⟩, _, (out : List (List UInt8 × RowE [.bool])), (it : List (List UInt8 × RowE [.bool])), _⟩ hok hA hz
  refine Leads.eq (Leads.of_eq (lts_both3_1 K A a out it) ?_)
  obtain ⟨h1, h2, h3⟩ := hok
  refine Leads.brP (fun e => Leads.is ?_) (fun e => Leads.any (List.length_pos_iff.2 e) fun i hi => ?_)
  · subst e; exact hz
  · have hx : it[i]? = some it[i] := List.getElem?_eq_getElem hi
    have hg : it.getD i (CE.dflt Sh.str, RowE.dflt [.bool]) = it[i] := by rw [List.getD_eq_getElem?_getD, hx]; rfl
    rw [hg]
    have st := put7_step (fun e => !(mh7 a e.1)) (bothB leftF7 a) h3 h2 hx
    refine Leads.br (fun w => ?_) (fun w => ?_)
    · have w : (!(mh7 a it[i].1)) = true := w
      have st : put7 (fun e => !(mh7 a e.1)) (bothB leftF7 a) (it.eraseIdx i) (mput Sh.str [.bool] out it[i].1 (bothB leftF7 a it[i], ())) = put7 (fun e => !(mh7 a e.1)) (bothB leftF7 a) it out := by rw [if_pos w] at st; exact st
      refine Leads.is (hA ((a, ()), (), mput Sh.str [.bool] out it[i].1 (bothB leftF7 a it[i], ()), it.eraseIdx i, ()) ?_ ?_ ?_)
      · exact ⟨h1, srt_mput7 h2 _ _, nodup_erase h3 i⟩
      · simp only [lms_both3_1]; rw [List.length_eraseIdx, if_pos hi]; omega
      · simp only [lgs_both3_1, MR.run] at hz ⊢
        rw [st]; exact hz
    · have w : (!(mh7 a it[i].1)) = false := w
      rw [if_neg (by rw [w]; simp)] at st
      refine Leads.is (hA ((a, ()), (), out, it.eraseIdx i, ()) ?_ ?_ ?_)
      · exact ⟨h1, h2, nodup_erase h3 i⟩
      · simp only [lms_both3_1]; rw [List.length_eraseIdx, if_pos hi]; omega
      · simp only [lgs_both3_1, MR.run] at hz ⊢
        rw [st]; exact hz
theorem ts_both3 (a : List (List UInt8 × RowE [.bool])) (b : List (List UInt8 × RowE [.bool])) : evF T (Ep (Es_two3)) (Ln (Ls_both3)) Try.f85 [.d (.mp .str false [.bool] a), .d (.mp .str false [.bool] b), .fn 88 []] =
    chk (lks_both3_0 ((b, ()), (), [], a, ())) (chk (lks_both3_1 ((a, ()), (), put7 (fun x => true) (bothA leftF7 b) a [], b, ())) (some (SV.val (AV.d (D.mp Sh.str false [Sh.bool] (put7 (fun e => !mh7 a e.fst) (bothB leftF7 a) b (put7 (fun x => true) (bothA leftF7 b) a []))))))) := by kernel_rfl
theorem sats_both3 : Sat P 85 (Ss_both3) := by
  refine sat_mkF (LT := Ln (Ls_both3)) hC (SatE.ep oks_two3) mixed Try.func85 (by kernel_rfl) (c := bodyOf Try.f85) (by kernel_rfl) (by kernel_rfl) ?_ (loops2 (by kernel_rfl) (loks_both3_0) (loks_both3_1))
  rintro ⟨⟨(a : List (List UInt8 × RowE [.bool])), _⟩, ⟨(b : List (List UInt8 × RowE [.bool])), _⟩, _⟩ sv h
  refine Leads.eq (Leads.of_eq (ts_both3 a b) ?_)
  obtain ⟨⟨ha, hb⟩, h⟩ := h
  obtain rfl := Out_leaf h
  exact Leads.chk ⟨hb, srt_nil, ha.nodup⟩ fun _ => Leads.chk ⟨ha, srt_put7 _ _ _ _ srt_nil, hb.nodup⟩ fun _ => Leads.one rfl
def Ss_both := orS Ss_both1 (orS Ss_both2 Ss_both3)
def Es_both : Es := (85, Ss_both) :: Es_two3
theorem oks_both : SatE P (En Es_both) := SatE.cons (sat_or sats_both1 (sat_or sats_both2 sats_both3)) oks_two3
/-! ### legation/scope.two -/
def Ls_two : Ls := []
def Ss_two := mkS [(true, opS), (false, [.mp .str false [.bool]]), (false, [.mp .str false [.bool]])] fun ⟨(o : RowE opS), ⟨(a : List (List UInt8 × RowE [.bool])), _⟩, ⟨(b : List (List UInt8 × RowE [.bool])), _⟩, _⟩ => .chk (Srt7 a ∧ Srt7 b) (.leaf (.val (.d (.mp .str false [.bool] (twoS o a b)))))
theorem ts_two (o : RowE opS) (a : List (List UInt8 × RowE [.bool])) (b : List (List UInt8 × RowE [.bool])) : evF T (Ep (Es_both)) (Ln (Ls_two)) Try.f64 [.agg (rowD opS o), .d (.mp .str false [.bool] a), .d (.mp .str false [.bool] b)] =
    br (o.fst == (3 : Int)) (chk (Srt7 a ∧ Srt7 b) (some (SV.val (AV.d (D.mp Sh.str false [Sh.bool] (bothS joinF7 a b)))))) (br (o.fst == (4 : Int)) (chk (Srt7 a ∧ Srt7 b) (some (SV.val (AV.d (D.mp Sh.str false [Sh.bool] (bothS unionF7 a b)))))) (br (o.fst == (5 : Int)) (chk (Srt7 a ∧ Srt7 b) (some (SV.val (AV.d (D.mp Sh.str false [Sh.bool] (bothS leftF7 a b)))))) (some (SV.val (AV.d (D.mp Sh.str false [Sh.bool] a)))))) := by kernel_rfl
theorem sats_two : Sat P 64 (Ss_two) := by
  refine sat_mk (LT := Ln (Ls_two)) hC (SatE.ep oks_both) mixed Try.func64 (by kernel_rfl) (c := bodyOf Try.f64) (by kernel_rfl) (by kernel_rfl) ?_ (loops0 (by kernel_rfl))
  rintro ⟨(o : RowE opS), ⟨(a : List (List UInt8 × RowE [.bool])), _⟩, ⟨(b : List (List UInt8 × RowE [.bool])), _⟩, _⟩ sv h
  refine Leads.eq (Leads.of_eq (ts_two o a b) ?_)
  obtain ⟨hs, h⟩ := h
  obtain rfl := Out_leaf h
  have fin : ∀ m, twoS o a b = m → (SV.val (.d (.mp .str false [.bool] m))) = SV.val (.d (.mp .str false [.bool] (twoS o a b))) := fun m e => by rw [e]
  refine Leads.brE (fun e => Leads.chk hs fun _ => Leads.one (fin _ ?_)) (fun e => Leads.brE (fun e2 => Leads.chk hs fun _ => Leads.one (fin _ ?_)) (fun e2 => Leads.brE (fun e3 => Leads.chk hs fun _ => Leads.one (fin _ ?_)) (fun e3 => Leads.one (fin _ ?_))))
  · unfold twoS; rw [if_pos e]
  · unfold twoS; rw [if_neg e, if_pos e2]
  · unfold twoS; rw [if_neg e, if_neg e2, if_pos e3]
  · unfold twoS; rw [if_neg e, if_neg e2, if_neg e3]
def Es_two : Es := (64, (Ss_two)) :: Es_both
theorem oks_two : SatE P (En (Es_two)) := SatE.cons (sats_two) oks_both
/-! ### legation/scope.one -/
def lks_one_0 : St [.box [.v (.int .i64), .v (.sl [.int .i64, .str, .str, .str, .int .i64, .str, .str, .str, .int .i64, .str, .str, .str]), .v (.sl [.str]), .v (.sl [.sl [.int .i64, .str, .str, .str]]), .v (.sl [.int .i64, .int .i64, .str, .str, .str, .str, .int .i64]), .v .str, .v .bool], .mp .str false [.bool], .mit .str false [.bool]] → Prop := fun ⟨(o : KCs [.v (.int .i64), .v (.sl [.int .i64, .str, .str, .str, .int .i64, .str, .str, .str, .int .i64, .str, .str, .str]), .v (.sl [.str]), .v (.sl [.sl [.int .i64, .str, .str, .str]]), .v (.sl [.int .i64, .int .i64, .str, .str, .str, .str, .int .i64]), .v .str, .v .bool]), (out : List (List UInt8 × RowE [.bool])), (it : List (List UInt8 × RowE [.bool])), _⟩ => Srt7 out ∧ (it.map Prod.fst).Nodup
def lgs_one_0 : St [.box [.v (.int .i64), .v (.sl [.int .i64, .str, .str, .str, .int .i64, .str, .str, .str, .int .i64, .str, .str, .str]), .v (.sl [.str]), .v (.sl [.sl [.int .i64, .str, .str, .str]]), .v (.sl [.int .i64, .int .i64, .str, .str, .str, .str, .int .i64]), .v .str, .v .bool], .mp .str false [.bool], .mit .str false [.bool]] → MR := fun ⟨(o : KCs [.v (.int .i64), .v (.sl [.int .i64, .str, .str, .str, .int .i64, .str, .str, .str, .int .i64, .str, .str, .str]), .v (.sl [.str]), .v (.sl [.sl [.int .i64, .str, .str, .str]]), .v (.sl [.int .i64, .int .i64, .str, .str, .str, .str, .int .i64]), .v .str, .v .bool]), (out : List (List UInt8 × RowE [.bool])), (it : List (List UInt8 × RowE [.bool])), _⟩ => .one (.exit 0, [.box true (KCs.svs [.v (.int .i64), .v (.sl [.int .i64, .str, .str, .str, .int .i64, .str, .str, .str, .int .i64, .str, .str, .str]), .v (.sl [.str]), .v (.sl [.sl [.int .i64, .str, .str, .str]]), .v (.sl [.int .i64, .int .i64, .str, .str, .str, .str, .int .i64]), .v .str, .v .bool] (o)), .mp .str false [.bool] (put7 (fun _ => true) (oneA o) it out)])
def lms_one_0 : St [.box [.v (.int .i64), .v (.sl [.int .i64, .str, .str, .str, .int .i64, .str, .str, .str, .int .i64, .str, .str, .str]), .v (.sl [.str]), .v (.sl [.sl [.int .i64, .str, .str, .str]]), .v (.sl [.int .i64, .int .i64, .str, .str, .str, .str, .int .i64]), .v .str, .v .bool], .mp .str false [.bool], .mit .str false [.bool]] → Nat := fun ⟨(o : KCs [.v (.int .i64), .v (.sl [.int .i64, .str, .str, .str, .int .i64, .str, .str, .str, .int .i64, .str, .str, .str]), .v (.sl [.str]), .v (.sl [.sl [.int .i64, .str, .str, .str]]), .v (.sl [.int .i64, .int .i64, .str, .str, .str, .str, .int .i64]), .v .str, .v .bool]), (out : List (List UInt8 × RowE [.bool])), (it : List (List UInt8 × RowE [.bool])), _⟩ => it.length
def lss_one_0 : LoopS := mkM [2, 5, 10] [2, 5] [] [.box [.v (.int .i64), .v (.sl [.int .i64, .str, .str, .str, .int .i64, .str, .str, .str, .int .i64, .str, .str, .str]), .v (.sl [.str]), .v (.sl [.sl [.int .i64, .str, .str, .str]]), .v (.sl [.int .i64, .int .i64, .str, .str, .str, .str, .int .i64]), .v .str, .v .bool], .mp .str false [.bool], .mit .str false [.bool]] (fun r => .chk (lks_one_0 r) (.leaf (lgs_one_0 r)))
def Ls_one : Ls := [(3, lss_one_0)]
def Ss_one := mkS [(true, opS), (false, [.mp .str false [.bool]])] fun ⟨(o : RowE opS), ⟨(a : List (List UInt8 × RowE [.bool])), _⟩, _⟩ => .chk (Srt7 a) (.leaf (.val (.d (.mp .str false [.bool] (oneS o a)))))
theorem lts_one_0 {R : Type} (K : Ex → List SV → Option R) (A : List SV → Option R) (o : KCs [.v (.int .i64), .v (.sl [.int .i64, .str, .str, .str, .int .i64, .str, .str, .str, .int .i64, .str, .str, .str]), .v (.sl [.str]), .v (.sl [.sl [.int .i64, .str, .str, .str]]), .v (.sl [.int .i64, .int .i64, .str, .str, .str, .str, .int .i64]), .v .str, .v .bool]) (out : List (List UInt8 × RowE [.bool])) (it : List (List UInt8 × RowE [.bool])) : evRoundK T (Ep (Es_two)) (Ln (Ls_one)) (loopAt 0 (loops (bodyOf Try.f63))) (lss_one_0) [.box true (KCs.svs [.v (.int .i64), .v (.sl [.int .i64, .str, .str, .str, .int .i64, .str, .str, .str, .int .i64, .str, .str, .str]), .v (.sl [.str]), .v (.sl [.sl [.int .i64, .str, .str, .str]]), .v (.sl [.int .i64, .int .i64, .str, .str, .str, .str, .int .i64]), .v .str, .v .bool] o), .mp .str false [.bool] out, .mit .str false [.bool] it none] K A =
    brP (it = []) (K (Ex.exit (0 : Nat)) [SV.box true [SV.val (AV.d (D.int IntKind.i64 o.fst)), SV.val (AV.d (D.sl t3S o.snd.fst)), SV.val (AV.d (D.sl [Sh.str] o.snd.snd.fst)), SV.val (AV.d (D.sl [Sh.sl tmS] o.snd.snd.snd.fst)), SV.val (AV.d (D.sl ptS o.snd.snd.snd.snd.fst)), SV.val (AV.d (D.str o.snd.snd.snd.snd.snd.fst)), SV.val (AV.d (D.bool o.snd.snd.snd.snd.snd.snd.fst))], SV.mp Sh.str false [Sh.bool] out]) (anyN it.length fun i => br (it.getD i (CE.dflt Sh.str, RowE.dflt [Sh.bool])).snd.fst (br (o.fst == (9 : Int)) (A [SV.box true [SV.val (AV.d (D.int IntKind.i64 o.fst)), SV.val (AV.d (D.sl t3S o.snd.fst)), SV.val (AV.d (D.sl [Sh.str] o.snd.snd.fst)), SV.val (AV.d (D.sl [Sh.sl tmS] o.snd.snd.snd.fst)), SV.val (AV.d (D.sl ptS o.snd.snd.snd.snd.fst)), SV.val (AV.d (D.str o.snd.snd.snd.snd.snd.fst)), SV.val (AV.d (D.bool o.snd.snd.snd.snd.snd.snd.fst))], SV.mp Sh.str false [Sh.bool] (mput Sh.str [Sh.bool] out (it.getD i (CE.dflt Sh.str, RowE.dflt [Sh.bool])).fst (!o.snd.snd.snd.snd.snd.snd.fst, ())), SV.mit Sh.str false [Sh.bool] (it.eraseIdx i) none]) (A [SV.box true [SV.val (AV.d (D.int IntKind.i64 o.fst)), SV.val (AV.d (D.sl t3S o.snd.fst)), SV.val (AV.d (D.sl [Sh.str] o.snd.snd.fst)), SV.val (AV.d (D.sl [Sh.sl tmS] o.snd.snd.snd.fst)), SV.val (AV.d (D.sl ptS o.snd.snd.snd.snd.fst)), SV.val (AV.d (D.str o.snd.snd.snd.snd.snd.fst)), SV.val (AV.d (D.bool o.snd.snd.snd.snd.snd.snd.fst))], SV.mp Sh.str false [Sh.bool] (mput Sh.str [Sh.bool] out (it.getD i (CE.dflt Sh.str, RowE.dflt [Sh.bool])).fst (!false, ())), SV.mit Sh.str false [Sh.bool] (it.eraseIdx i) none])) (A [SV.box true [SV.val (AV.d (D.int IntKind.i64 o.fst)), SV.val (AV.d (D.sl t3S o.snd.fst)), SV.val (AV.d (D.sl [Sh.str] o.snd.snd.fst)), SV.val (AV.d (D.sl [Sh.sl tmS] o.snd.snd.snd.fst)), SV.val (AV.d (D.sl ptS o.snd.snd.snd.snd.fst)), SV.val (AV.d (D.str o.snd.snd.snd.snd.snd.fst)), SV.val (AV.d (D.bool o.snd.snd.snd.snd.snd.snd.fst))], SV.mp Sh.str false [Sh.bool] (mput Sh.str [Sh.bool] out (it.getD i (CE.dflt Sh.str, RowE.dflt [Sh.bool])).fst (false, ())), SV.mit Sh.str false [Sh.bool] (it.eraseIdx i) none])) := by kernel_rfl
theorem loks_one_0 : LoopOK T (Ep (Es_two)) (Ln (Ls_one)) (loopAt 0 (loops (bodyOf Try.f63))) := by
  refine loop_okM (live := [2, 5, 10]) (outs := [2, 5]) (rets := []) (ks := [.box [.v (.int .i64), .v (.sl [.int .i64, .str, .str, .str, .int .i64, .str, .str, .str, .int .i64, .str, .str, .str]), .v (.sl [.str]), .v (.sl [.sl [.int .i64, .str, .str, .str]]), .v (.sl [.int .i64, .int .i64, .str, .str, .str, .str, .int .i64]), .v .str, .v .bool], .mp .str false [.bool], .mit .str false [.bool]]) (G := lgs_one_0) (lks_one_0) (lms_one_0) (by kernel_rfl) ?_
  rintro R K A z ⟨(o : KCs [.v (.int .i64), .v (.sl [.int .i64, .str, .str, .str, .int .i64, .str, .str, .str, .int .i64, .str, .str, .str]), .v (.sl [.str]), .v (.sl [.sl [.int .i64, .str, .str, .str]]), .v (.sl [.int .i64, .int .i64, .str, .str, .str, .str, .int .i64]), .v .str, .v .bool]), (out : List (List UInt8 × RowE [.bool])), (it : List (List UInt8 × RowE [.bool])), _⟩ hok hA hz
  refine Leads.eq (Leads.of_eq (lts_one_0 K A o out it) ?_)
  obtain ⟨h2, h3⟩ := hok
  refine Leads.brP (fun e => Leads.is ?_) (fun e => Leads.any (List.length_pos_iff.2 e) fun i hi => ?_)
  · subst e; exact hz
  · have hx : it[i]? = some it[i] := List.getElem?_eq_getElem hi
    have hg : it.getD i (CE.dflt Sh.str, RowE.dflt [.bool]) = it[i] := by rw [List.getD_eq_getElem?_getD, hx]; rfl
    rw [hg]
    have st : put7 (fun _ => true) (oneA o) (it.eraseIdx i) (mput Sh.str [.bool] out it[i].1 (oneA o it[i], ())) = put7 (fun _ => true) (oneA o) it out := put7_step (fun _ => true) (oneA o) h3 h2 hx
    have go : ∀ c : Bool, oneA o it[i] = c → A (St.svs [.box [.v (.int .i64), .v (.sl [.int .i64, .str, .str, .str, .int .i64, .str, .str, .str, .int .i64, .str, .str, .str]), .v (.sl [.str]), .v (.sl [.sl [.int .i64, .str, .str, .str]]), .v (.sl [.int .i64, .int .i64, .str, .str, .str, .str, .int .i64]), .v .str, .v .bool], .mp .str false [.bool], .mit .str false [.bool]] (o, mput Sh.str [.bool] out it[i].1 (c, ()), it.eraseIdx i, ())) = some z := fun c e => by
      subst e
      refine hA (o, mput Sh.str [.bool] out it[i].1 (oneA o it[i], ()), it.eraseIdx i, ()) ?_ ?_ ?_
      · exact ⟨srt_mput7 h2 _ _, nodup_erase h3 i⟩
      · simp only [lms_one_0]; rw [List.length_eraseIdx, if_pos hi]; omega
      · simp only [lgs_one_0, MR.run] at hz ⊢
        rw [st]; exact hz
    refine Leads.br (fun w => Leads.brE (fun v => Leads.is (go _ ?_)) (fun v => Leads.is (go _ ?_))) (fun w => Leads.is (go _ ?_))
    · unfold oneA; rw [show it[i].2.1 = true from w, decide_eq_true v]; rfl
    · unfold oneA; rw [show it[i].2.1 = true from w, decide_eq_false v]; rfl
    · unfold oneA; rw [show it[i].2.1 = false from w]; rfl
theorem ts_one (o : RowE opS) (a : List (List UInt8 × RowE [.bool])) : evF T (Ep (Es_two)) (Ln (Ls_one)) Try.f63 [.agg (rowD opS o), .d (.mp .str false [.bool] a)] =
    chk (lks_one_0 (o, [], a, ())) (br (o.fst == (8 : Int)) (some (SV.val (AV.d (D.mp Sh.str false [Sh.bool] (mput Sh.str [Sh.bool] (put7 (fun x => true) (oneA o) a []) o.snd.snd.snd.snd.snd.fst (false, ())))))) (some (SV.val (AV.d (D.mp Sh.str false [Sh.bool] (put7 (fun x => true) (oneA o) a [])))))) := by kernel_rfl
theorem sats_one : Sat P 63 (Ss_one) := by
  refine sat_mk (LT := Ln (Ls_one)) hC (SatE.ep oks_two) mixed Try.func63 (by kernel_rfl) (c := bodyOf Try.f63) (by kernel_rfl) (by kernel_rfl) ?_ (loops1 (by kernel_rfl) (loks_one_0))
  rintro ⟨(o : RowE opS), ⟨(a : List (List UInt8 × RowE [.bool])), _⟩, _⟩ sv h
  refine Leads.eq (Leads.of_eq (ts_one o a) ?_)
  obtain ⟨hs, h⟩ := h
  obtain rfl := Out_leaf h
  refine Leads.chk ⟨srt_nil, hs.nodup⟩ fun _ => Leads.brE (fun e => Leads.one ?_) (fun e => Leads.one ?_)
  · unfold oneS; dsimp only; rw [if_pos e]
  · unfold oneS; dsimp only; rw [if_neg e]
def Es_one : Es := (63, (Ss_one)) :: Es_two
theorem oks_one : SatE P (En (Es_one)) := SatE.cons (sats_one) oks_two
/-! ### legation/scope.leaf -/
def lks_leaf_0 : St [.mp .str false [.bool], .v false [.sl [.int .i64, .str, .str, .str, .int .i64, .str, .str, .str, .int .i64, .str, .str, .str]], .v false [.int .i64], .v false [.int .i64]] → Prop := fun ⟨(out : List (List UInt8 × RowE [.bool])), ⟨(x14 : List (RowE [.int .i64, .str, .str, .str, .int .i64, .str, .str, .str, .int .i64, .str, .str, .str])), _⟩, ⟨(x15 : Int), _⟩, ⟨(x16 : Int), _⟩, _⟩ => 0 ≤ x16 ∧ x16 ≤ x15 ∧ x15 = (x14.length : Int) ∧ x14.length ≤ 140737488355328
def lgs_leaf_0 : St [.mp .str false [.bool], .v false [.sl [.int .i64, .str, .str, .str, .int .i64, .str, .str, .str, .int .i64, .str, .str, .str]], .v false [.int .i64], .v false [.int .i64]] → Tr (Ex × List SV) := fun ⟨(out : List (List UInt8 × RowE [.bool])), ⟨(x14 : List (RowE [.int .i64, .str, .str, .str, .int .i64, .str, .str, .str, .int .i64, .str, .str, .str])), _⟩, ⟨(x15 : Int), _⟩, ⟨(x16 : Int), _⟩, _⟩ => .leaf (.exit 0, [.mp .str false [.bool] (leafT (x14.drop x16.toNat) out)])
def lms_leaf_0 : St [.mp .str false [.bool], .v false [.sl [.int .i64, .str, .str, .str, .int .i64, .str, .str, .str, .int .i64, .str, .str, .str]], .v false [.int .i64], .v false [.int .i64]] → Nat := fun ⟨(out : List (List UInt8 × RowE [.bool])), ⟨(x14 : List (RowE [.int .i64, .str, .str, .str, .int .i64, .str, .str, .str, .int .i64, .str, .str, .str])), _⟩, ⟨(x15 : Int), _⟩, ⟨(x16 : Int), _⟩, _⟩ => x14.length - x16.toNat
def lss_leaf_0 : LoopS := mkR [3, 14, 15, 16] [3] [] [.mp .str false [.bool], .v false [.sl [.int .i64, .str, .str, .str, .int .i64, .str, .str, .str, .int .i64, .str, .str, .str]], .v false [.int .i64], .v false [.int .i64]] (fun r => .chk (lks_leaf_0 r) (lgs_leaf_0 r))
def lks_leaf_1 : St [.mp .str false [.bool], .a [.str], .v false [.int .i64], .v false [.int .i64]] → Prop := fun ⟨(out : List (List UInt8 × RowE [.bool])), (x21 : List (RowE [.str])), ⟨(x22 : Int), _⟩, ⟨(x23 : Int), _⟩, _⟩ => 0 ≤ x23 ∧ x23 ≤ x22 ∧ x22 = (x21.length : Int) ∧ x21.length ≤ 140737488355328
def lgs_leaf_1 : St [.mp .str false [.bool], .a [.str], .v false [.int .i64], .v false [.int .i64]] → Tr (Ex × List SV) := fun ⟨(out : List (List UInt8 × RowE [.bool])), (x21 : List (RowE [.str])), ⟨(x22 : Int), _⟩, ⟨(x23 : Int), _⟩, _⟩ => .leaf (.exit 2, [.mp .str false [.bool] (leafV (x21.drop x23.toNat) out)])
def lms_leaf_1 : St [.mp .str false [.bool], .a [.str], .v false [.int .i64], .v false [.int .i64]] → Nat := fun ⟨(out : List (List UInt8 × RowE [.bool])), (x21 : List (RowE [.str])), ⟨(x22 : Int), _⟩, ⟨(x23 : Int), _⟩, _⟩ => x21.length - x23.toNat
def lss_leaf_1 : LoopS := mkR [3, 21, 22, 23] [3] [] [.mp .str false [.bool], .a [.str], .v false [.int .i64], .v false [.int .i64]] (fun r => .chk (lks_leaf_1 r) (lgs_leaf_1 r))
def lks_leaf_2 : St [.box [.v (.int .i64), .v (.sl [.int .i64, .str, .str, .str, .int .i64, .str, .str, .str, .int .i64, .str, .str, .str]), .v (.sl [.str]), .v (.sl [.sl [.int .i64, .str, .str, .str]]), .v (.sl [.int .i64, .int .i64, .str, .str, .str, .str, .int .i64]), .v .str, .v .bool], .mp .str false [.bool], .v false [.sl [.str]], .v false [.int .i64], .v false [.int .i64]] → Prop := fun ⟨(o : KCs [.v (.int .i64), .v (.sl [.int .i64, .str, .str, .str, .int .i64, .str, .str, .str, .int .i64, .str, .str, .str]), .v (.sl [.str]), .v (.sl [.sl [.int .i64, .str, .str, .str]]), .v (.sl [.int .i64, .int .i64, .str, .str, .str, .str, .int .i64]), .v .str, .v .bool]), (out : List (List UInt8 × RowE [.bool])), ⟨(x33 : List (RowE [.str])), _⟩, ⟨(x34 : Int), _⟩, ⟨(x35 : Int), _⟩, _⟩ => Srt7 out ∧ 0 ≤ x35 ∧ x35 ≤ x34 ∧ x34 = (x33.length : Int) ∧ x33.length ≤ 140737488355328 ∧ (o.2.2.2.1 : List (RowE [.sl [.int .i64, .str, .str, .str]])).length ≤ 140737488355328 ∧ ∀ r ∈ o.2.2.2.1, (r.1 : List TR).length = x33.length
def lgs_leaf_2 : St [.box [.v (.int .i64), .v (.sl [.int .i64, .str, .str, .str, .int .i64, .str, .str, .str, .int .i64, .str, .str, .str]), .v (.sl [.str]), .v (.sl [.sl [.int .i64, .str, .str, .str]]), .v (.sl [.int .i64, .int .i64, .str, .str, .str, .str, .int .i64]), .v .str, .v .bool], .mp .str false [.bool], .v false [.sl [.str]], .v false [.int .i64], .v false [.int .i64]] → Tr (Ex × List SV) := fun ⟨(o : KCs [.v (.int .i64), .v (.sl [.int .i64, .str, .str, .str, .int .i64, .str, .str, .str, .int .i64, .str, .str, .str]), .v (.sl [.str]), .v (.sl [.sl [.int .i64, .str, .str, .str]]), .v (.sl [.int .i64, .int .i64, .str, .str, .str, .str, .int .i64]), .v .str, .v .bool]), (out : List (List UInt8 × RowE [.bool])), ⟨(x33 : List (RowE [.str])), _⟩, ⟨(x34 : Int), _⟩, ⟨(x35 : Int), _⟩, _⟩ => .leaf (.exit 4, [.mp .str false [.bool] (leafC o.2.2.2.1 x35.toNat (x33.drop x35.toNat) out)])
def lms_leaf_2 : St [.box [.v (.int .i64), .v (.sl [.int .i64, .str, .str, .str, .int .i64, .str, .str, .str, .int .i64, .str, .str, .str]), .v (.sl [.str]), .v (.sl [.sl [.int .i64, .str, .str, .str]]), .v (.sl [.int .i64, .int .i64, .str, .str, .str, .str, .int .i64]), .v .str, .v .bool], .mp .str false [.bool], .v false [.sl [.str]], .v false [.int .i64], .v false [.int .i64]] → Nat := fun ⟨(o : KCs [.v (.int .i64), .v (.sl [.int .i64, .str, .str, .str, .int .i64, .str, .str, .str, .int .i64, .str, .str, .str]), .v (.sl [.str]), .v (.sl [.sl [.int .i64, .str, .str, .str]]), .v (.sl [.int .i64, .int .i64, .str, .str, .str, .str, .int .i64]), .v .str, .v .bool]), (out : List (List UInt8 × RowE [.bool])), ⟨(x33 : List (RowE [.str])), _⟩, ⟨(x34 : Int), _⟩, ⟨(x35 : Int), _⟩, _⟩ => x33.length - x35.toNat
def lss_leaf_2 : LoopS := mkR [1, 3, 33, 34, 35] [3] [] [.box [.v (.int .i64), .v (.sl [.int .i64, .str, .str, .str, .int .i64, .str, .str, .str, .int .i64, .str, .str, .str]), .v (.sl [.str]), .v (.sl [.sl [.int .i64, .str, .str, .str]]), .v (.sl [.int .i64, .int .i64, .str, .str, .str, .str, .int .i64]), .v .str, .v .bool], .mp .str false [.bool], .v false [.sl [.str]], .v false [.int .i64], .v false [.int .i64]] (fun r => .chk (lks_leaf_2 r) (lgs_leaf_2 r))
def lks_leaf_3 : St [.mp .str false [.bool], .v false [.int .i64], .v false [.str], .v false [.sl [.sl [.int .i64, .str, .str, .str]]], .v false [.int .i64], .v false [.int .i64]] → Prop := fun ⟨(out : List (List UInt8 × RowE [.bool])), ⟨(i : Int), _⟩, ⟨(v : List UInt8), _⟩, ⟨(x44 : List (RowE [.sl [.int .i64, .str, .str, .str]])), _⟩, ⟨(x45 : Int), _⟩, ⟨(x46 : Int), _⟩, _⟩ => Srt7 out ∧ mh7 out v = true ∧ (0 ≤ x46 ∧ x46 ≤ x45 ∧ x45 = (x44.length : Int) ∧ x44.length ≤ 140737488355328) ∧ 0 ≤ i ∧ ∀ r ∈ x44, i < ((r.1 : List TR).length : Int)
def lgs_leaf_3 : St [.mp .str false [.bool], .v false [.int .i64], .v false [.str], .v false [.sl [.sl [.int .i64, .str, .str, .str]]], .v false [.int .i64], .v false [.int .i64]] → Tr (Ex × List SV) := fun ⟨(out : List (List UInt8 × RowE [.bool])), ⟨(i : Int), _⟩, ⟨(v : List UInt8), _⟩, ⟨(x44 : List (RowE [.sl [.int .i64, .str, .str, .str]])), _⟩, ⟨(x45 : Int), _⟩, ⟨(x46 : Int), _⟩, _⟩ => .leaf (.exit 6, [.mp .str false [.bool] (mput Sh.str [.bool] out v ((mg7 out v && full (x44.drop x46.toNat) i.toNat), ()))])
def lms_leaf_3 : St [.mp .str false [.bool], .v false [.int .i64], .v false [.str], .v false [.sl [.sl [.int .i64, .str, .str, .str]]], .v false [.int .i64], .v false [.int .i64]] → Nat := fun ⟨(out : List (List UInt8 × RowE [.bool])), ⟨(i : Int), _⟩, ⟨(v : List UInt8), _⟩, ⟨(x44 : List (RowE [.sl [.int .i64, .str, .str, .str]])), _⟩, ⟨(x45 : Int), _⟩, ⟨(x46 : Int), _⟩, _⟩ => x44.length - x46.toNat
def lss_leaf_3 : LoopS := mkR [3, 8, 9, 44, 45, 46] [3] [] [.mp .str false [.bool], .v false [.int .i64], .v false [.str], .v false [.sl [.sl [.int .i64, .str, .str, .str]]], .v false [.int .i64], .v false [.int .i64]] (fun r => .chk (lks_leaf_3 r) (lgs_leaf_3 r))
def Ls_leaf : Ls := [(3, lss_leaf_0), (6, lss_leaf_1), (12, lss_leaf_2), (16, lss_leaf_3)]
def Ss_leaf := mkS [(true, opS)] fun ⟨(o : RowE opS), _⟩ => .chk (szO o ∧ ∀ r ∈ o.2.2.2.1, (r.1 : List TR).length = (o.2.2.1 : List (RowE [.str])).length) (.leaf (.val (.d (.mp .str false [.bool] (leafS o)))))
theorem lts_leaf_0 (out : List (List UInt8 × RowE [.bool])) (x14 : List (RowE [.int .i64, .str, .str, .str, .int .i64, .str, .str, .str, .int .i64, .str, .str, .str])) (x15 : Int) (x16 : Int) : evRound T (Ep (Es_one)) (Ln (Ls_leaf)) (loopAt 0 (loops (bodyOf Try.f62))) (lss_leaf_0) [.mp .str false [.bool] out, .val (.d (.sl [.int .i64, .str, .str, .str, .int .i64, .str, .str, .str, .int .i64, .str, .str, .str] x14)), .val (.d (.int .i64 x15)), .val (.d (.int .i64 x16))] =
    br (decide (x16 < x15)) (chk ((0 : Int) ≤ x16 ∧ x16 < (↑x14.length : Int)) (chk (lks_leaf_1 (out, varsS (getR t3S x14 x16), ((↑(varsS (getR t3S x14 x16)).length : Int), ()), ((0 : Int), ()), ())) (some (Rnd.again [SV.mp Sh.str false [Sh.bool] (leafV (List.drop (Int.toNat (0 : Int)) (varsS (getR t3S x14 x16))) out), SV.val (AV.d (D.sl t3S x14)), SV.val (AV.d (D.int IntKind.i64 x15)), SV.val (AV.d (D.int IntKind.i64 (IntKind.i64.wrap (x16 + (1 : Int)))))])))) (some (Rnd.out (Ex.exit (0 : Nat)) [SV.mp Sh.str false [Sh.bool] out])) := by kernel_rfl
theorem loks_leaf_0 : LoopOK T (Ep (Es_one)) (Ln (Ls_leaf)) (loopAt 0 (loops (bodyOf Try.f62))) := by
  refine loop_ok (live := [3, 14, 15, 16]) (outs := [3]) (rets := []) (ks := [.mp .str false [.bool], .v false [.sl [.int .i64, .str, .str, .str, .int .i64, .str, .str, .str, .int .i64, .str, .str, .str]], .v false [.int .i64], .v false [.int .i64]]) (G := lgs_leaf_0) (lks_leaf_0) (lms_leaf_0) (by kernel_rfl) ?_
  rintro ⟨(out : List (List UInt8 × RowE [.bool])), ⟨(x14 : List (RowE [.int .i64, .str, .str, .str, .int .i64, .str, .str, .str, .int .i64, .str, .str, .str])), _⟩, ⟨(x15 : Int), _⟩, ⟨(x16 : Int), _⟩, _⟩ x hok hx
  refine Leads.of_eq (lts_leaf_0 out x14 x15 x16) ?_
  obtain ⟨h0, h1, h2, h3⟩ := hok
  obtain ⟨m, rfl⟩ := Int.eq_ofNat_of_zero_le h0
  simp only [lgs_leaf_0, Int.toNat_natCast] at hx
  rcases drop_cases x14 m with ⟨hle, hd⟩ | ⟨x1, hlt, hd, hb⟩
  · rw [hd] at hx
    exact Leads.brD (fun q => by omega) (fun _ => Leads.one (Goes.out (Out_leaf hx)))
  rw [hd] at hx
  rw [getR_of hb, wrap64 (by omega) (by omega)]

  have h5 := varsS_len x1
  refine Leads.brD (fun _ => Leads.chk (by omega) fun _ => Leads.chk ⟨by omega, by omega, rfl, by omega⟩ fun _ => Leads.one ?_) (fun q => by omega)
  refine Goes.again (ks := [.mp .str false [.bool], .v false [.sl [.int .i64, .str, .str, .str, .int .i64, .str, .str, .str, .int .i64, .str, .str, .str]], .v false [.int .i64], .v false [.int .i64]]) (_, (_, ()), (_, ()), (_, ()), ()) rfl ?_ ?_ ?_
  · exact ⟨by omega, by omega, h2, h3⟩
  · simp only [lms_leaf_0]; omega
  · simp only [lgs_leaf_0, toNat_add1]; exact hx
theorem lts_leaf_1 (out : List (List UInt8 × RowE [.bool])) (x21 : List (RowE [.str])) (x22 : Int) (x23 : Int) : evRound T (Ep (Es_one)) (Ln (Ls_leaf)) (loopAt 1 (loops (bodyOf Try.f62))) (lss_leaf_1) [.mp .str false [.bool] out, .app [.str] x21, .val (.d (.int .i64 x22)), .val (.d (.int .i64 x23))] =
    br (decide (x23 < x22)) (chk ((0 : Int) ≤ x23 ∧ x23 < (↑x21.length : Int)) (some (Rnd.again [SV.mp Sh.str false [Sh.bool] (mput Sh.str [Sh.bool] out (getR [Sh.str] x21 x23).fst (true, ())), SV.app [Sh.str] x21, SV.val (AV.d (D.int IntKind.i64 x22)), SV.val (AV.d (D.int IntKind.i64 (IntKind.i64.wrap (x23 + (1 : Int)))))]))) (some (Rnd.out (Ex.exit (2 : Nat)) [SV.mp Sh.str false [Sh.bool] out])) := by kernel_rfl
theorem loks_leaf_1 : LoopOK T (Ep (Es_one)) (Ln (Ls_leaf)) (loopAt 1 (loops (bodyOf Try.f62))) := by
  refine loop_ok (live := [3, 21, 22, 23]) (outs := [3]) (rets := []) (ks := [.mp .str false [.bool], .a [.str], .v false [.int .i64], .v false [.int .i64]]) (G := lgs_leaf_1) (lks_leaf_1) (lms_leaf_1) (by kernel_rfl) ?_
  rintro ⟨(out : List (List UInt8 × RowE [.bool])), (x21 : List (RowE [.str])), ⟨(x22 : Int), _⟩, ⟨(x23 : Int), _⟩, _⟩ x hok hx
  refine Leads.of_eq (lts_leaf_1 out x21 x22 x23) ?_
  obtain ⟨h0, h1, h2, h3⟩ := hok
  obtain ⟨m, rfl⟩ := Int.eq_ofNat_of_zero_le h0
  simp only [lgs_leaf_1, Int.toNat_natCast] at hx
  rcases drop_cases x21 m with ⟨hle, hd⟩ | ⟨x1, hlt, hd, hb⟩
  · rw [hd] at hx
    exact Leads.brD (fun q => by omega) (fun _ => Leads.one (Goes.out (Out_leaf hx)))
  rw [hd] at hx
  rw [getR_of hb, wrap64 (by omega) (by omega)]

  refine Leads.brD (fun _ => Leads.chk (by omega) fun _ => Leads.one ?_) (fun q => by omega)
  refine Goes.again (ks := [.mp .str false [.bool], .a [.str], .v false [.int .i64], .v false [.int .i64]]) (_, _, (_, ()), (_, ()), ()) rfl ?_ ?_ ?_
  · exact ⟨by omega, by omega, h2, h3⟩
  · simp only [lms_leaf_1]; omega
  · simp only [lgs_leaf_1, toNat_add1]; exact hx
theorem lts_leaf_2 (o : KCs [.v (.int .i64), .v (.sl [.int .i64, .str, .str, .str, .int .i64, .str, .str, .str, .int .i64, .str, .str, .str]), .v (.sl [.str]), .v (.sl [.sl [.int .i64, .str, .str, .str]]), .v (.sl [.int .i64, .int .i64, .str, .str, .str, .str, .int .i64]), .v .str, .v .bool]) (out : List (List UInt8 × RowE [.bool])) (x33 : List (RowE [.str])) (x34 : Int) (x35 : Int) : evRound T (Ep (Es_one)) (Ln (Ls_leaf)) (loopAt 2 (loops (bodyOf Try.f62))) (lss_leaf_2) [.box true (KCs.svs [.v (.int .i64), .v (.sl [.int .i64, .str, .str, .str, .int .i64, .str, .str, .str, .int .i64, .str, .str, .str]), .v (.sl [.str]), .v (.sl [.sl [.int .i64, .str, .str, .str]]), .v (.sl [.int .i64, .int .i64, .str, .str, .str, .str, .int .i64]), .v .str, .v .bool] o), .mp .str false [.bool] out, .val (.d (.sl [.str] x33)), .val (.d (.int .i64 x34)), .val (.d (.int .i64 x35))] =
    br (decide (x35 < x34)) (chk ((0 : Int) ≤ x35 ∧ x35 < (↑x33.length : Int)) (chk (lks_leaf_3 (mput Sh.str [Sh.bool] out (getR [Sh.str] x33 x35).fst (true, ()), (x35, ()), getR [Sh.str] x33 x35, (o.snd.snd.snd.fst, ()), ((↑(List.length o.snd.snd.snd.fst) : Int), ()), ((0 : Int), ()), ())) (some (Rnd.again [SV.box true [SV.val (AV.d (D.int IntKind.i64 o.fst)), SV.val (AV.d (D.sl t3S o.snd.fst)), SV.val (AV.d (D.sl [Sh.str] o.snd.snd.fst)), SV.val (AV.d (D.sl [Sh.sl tmS] o.snd.snd.snd.fst)), SV.val (AV.d (D.sl ptS o.snd.snd.snd.snd.fst)), SV.val (AV.d (D.str o.snd.snd.snd.snd.snd.fst)), SV.val (AV.d (D.bool o.snd.snd.snd.snd.snd.snd.fst))], SV.mp Sh.str false [Sh.bool] (mput Sh.str [Sh.bool] (mput Sh.str [Sh.bool] out (getR [Sh.str] x33 x35).fst (true, ())) (getR [Sh.str] x33 x35).fst (mg7 (mput Sh.str [Sh.bool] out (getR [Sh.str] x33 x35).fst (true, ())) (getR [Sh.str] x33 x35).fst && full (List.drop (Int.toNat (0 : Int)) o.snd.snd.snd.fst) x35.toNat, ())), SV.val (AV.d (D.sl [Sh.str] x33)), SV.val (AV.d (D.int IntKind.i64 x34)), SV.val (AV.d (D.int IntKind.i64 (IntKind.i64.wrap (x35 + (1 : Int)))))])))) (some (Rnd.out (Ex.exit (4 : Nat)) [SV.mp Sh.str false [Sh.bool] out])) := by kernel_rfl
theorem loks_leaf_2 : LoopOK T (Ep (Es_one)) (Ln (Ls_leaf)) (loopAt 2 (loops (bodyOf Try.f62))) := by
  refine loop_ok (live := [1, 3, 33, 34, 35]) (outs := [3]) (rets := []) (ks := [.box [.v (.int .i64), .v (.sl [.int .i64, .str, .str, .str, .int .i64, .str, .str, .str, .int .i64, .str, .str, .str]), .v (.sl [.str]), .v (.sl [.sl [.int .i64, .str, .str, .str]]), .v (.sl [.int .i64, .int .i64, .str, .str, .str, .str, .int .i64]), .v .str, .v .bool], .mp .str false [.bool], .v false [.sl [.str]], .v false [.int .i64], .v false [.int .i64]]) (G := lgs_leaf_2) (lks_leaf_2) (lms_leaf_2) (by kernel_rfl) ?_
  rintro ⟨(o : KCs [.v (.int .i64), .v (.sl [.int .i64, .str, .str, .str, .int .i64, .str, .str, .str, .int .i64, .str, .str, .str]), .v (.sl [.str]), .v (.sl [.sl [.int .i64, .str, .str, .str]]), .v (.sl [.int .i64, .int .i64, .str, .str, .str, .str, .int .i64]), .v .str, .v .bool]), (out : List (List UInt8 × RowE [.bool])), ⟨(x33 : List (RowE [.str])), _⟩, ⟨(x34 : Int), _⟩, ⟨(x35 : Int), _⟩, _⟩ x hok hx
  refine Leads.of_eq (lts_leaf_2 o out x33 x34 x35) ?_
  obtain ⟨h5, h0, h1, h2, h3, h6, h7⟩ := hok
  obtain ⟨m, rfl⟩ := Int.eq_ofNat_of_zero_le h0
  simp only [lgs_leaf_2, Int.toNat_natCast] at hx
  rcases drop_cases x33 m with ⟨hle, hd⟩ | ⟨x1, hlt, hd, hb⟩
  · rw [hd] at hx
    exact Leads.brD (fun q => by omega) (fun _ => Leads.one (Goes.out (Out_leaf hx)))
  rw [hd] at hx
  rw [getR_of hb, wrap64 (by omega) (by omega)]

  have h6 : List.length o.2.2.2.1 ≤ 140737488355328 := h6
  refine Leads.brD (fun _ => Leads.chk (by omega) fun _ => Leads.chk ⟨srt_mput7 h5 _ _, mh7_mput _ _ _, ⟨by omega, by omega, rfl, h6⟩, by omega, fun r hr => by rw [h7 r hr]; omega⟩ fun _ => Leads.one ?_) (fun q => by omega)
  have e : mput Sh.str [.bool] (mput Sh.str [.bool] out x1.1 (true, ())) x1.1 (mg7 (mput Sh.str [.bool] out x1.1 (true, ())) x1.1 && full (List.drop (Int.toNat 0) o.2.2.2.1) (m : Int).toNat, ()) = mput Sh.str [.bool] out x1.1 (full o.2.2.2.1 m, ()) := by rw [mg7_mput, mput_twice h5]; rfl
  rw [e]
  refine Goes.again (ks := [.box [.v (.int .i64), .v (.sl [.int .i64, .str, .str, .str, .int .i64, .str, .str, .str, .int .i64, .str, .str, .str]), .v (.sl [.str]), .v (.sl [.sl [.int .i64, .str, .str, .str]]), .v (.sl [.int .i64, .int .i64, .str, .str, .str, .str, .int .i64]), .v .str, .v .bool], .mp .str false [.bool], .v false [.sl [.str]], .v false [.int .i64], .v false [.int .i64]]) (_, _, (_, ()), (_, ()), (_, ()), ()) rfl ?_ ?_ ?_
  · exact ⟨srt_mput7 h5 _ _, by omega, by omega, h2, h3, h6, h7⟩
  · simp only [lms_leaf_2]; omega
  · simp only [lgs_leaf_2, toNat_add1]; exact hx
theorem lts_leaf_3 (out : List (List UInt8 × RowE [.bool])) (i : Int) (v : List UInt8) (x44 : List (RowE [.sl [.int .i64, .str, .str, .str]])) (x45 : Int) (x46 : Int) : evRound T (Ep (Es_one)) (Ln (Ls_leaf)) (loopAt 3 (loops (bodyOf Try.f62))) (lss_leaf_3) [.mp .str false [.bool] out, .val (.d (.int .i64 i)), .val (.d (.str  v)), .val (.d (.sl [.sl [.int .i64, .str, .str, .str]] x44)), .val (.d (.int .i64 x45)), .val (.d (.int .i64 x46))] =
    br (decide (x46 < x45)) (chk ((0 : Int) ≤ x46 ∧ x46 < (↑x44.length : Int)) (br (mget Sh.str [Sh.bool] out v).fst (chk ((0 : Int) ≤ i ∧ i < (↑(List.length (getR [Sh.sl tmS] x44 x46).fst) : Int)) (some (Rnd.again [SV.mp Sh.str false [Sh.bool] (mput Sh.str [Sh.bool] out v ((getR tmS (getR [Sh.sl tmS] x44 x46).fst i).fst != (0 : Int), ())), SV.val (AV.d (D.int IntKind.i64 i)), SV.val (AV.d (D.str v)), SV.val (AV.d (D.sl [Sh.sl tmS] x44)), SV.val (AV.d (D.int IntKind.i64 x45)), SV.val (AV.d (D.int IntKind.i64 (IntKind.i64.wrap (x46 + (1 : Int)))))]))) (some (Rnd.again [SV.mp Sh.str false [Sh.bool] (mput Sh.str [Sh.bool] out v (false, ())), SV.val (AV.d (D.int IntKind.i64 i)), SV.val (AV.d (D.str v)), SV.val (AV.d (D.sl [Sh.sl tmS] x44)), SV.val (AV.d (D.int IntKind.i64 x45)), SV.val (AV.d (D.int IntKind.i64 (IntKind.i64.wrap (x46 + (1 : Int)))))])))) (some (Rnd.out (Ex.exit (6 : Nat)) [SV.mp Sh.str false [Sh.bool] out])) := by kernel_rfl
theorem loks_leaf_3 : LoopOK T (Ep (Es_one)) (Ln (Ls_leaf)) (loopAt 3 (loops (bodyOf Try.f62))) := by
  refine loop_ok (live := [3, 8, 9, 44, 45, 46]) (outs := [3]) (rets := []) (ks := [.mp .str false [.bool], .v false [.int .i64], .v false [.str], .v false [.sl [.sl [.int .i64, .str, .str, .str]]], .v false [.int .i64], .v false [.int .i64]]) (G := lgs_leaf_3) (lks_leaf_3) (lms_leaf_3) (by kernel_rfl) ?_
  rintro ⟨(out : List (List UInt8 × RowE [.bool])), ⟨(i : Int), _⟩, ⟨(v : List UInt8), _⟩, ⟨(x44 : List (RowE [.sl [.int .i64, .str, .str, .str]])), _⟩, ⟨(x45 : Int), _⟩, ⟨(x46 : Int), _⟩, _⟩ x hok hx
  refine Leads.of_eq (lts_leaf_3 out i v x44 x45 x46) ?_
  obtain ⟨h5, h6, ⟨h0, h1, h2, h3⟩, h7, h8⟩ := hok
  obtain ⟨m, rfl⟩ := Int.eq_ofNat_of_zero_le h0
  obtain ⟨i, rfl⟩ := Int.eq_ofNat_of_zero_le h7
  simp only [lgs_leaf_3, Int.toNat_natCast] at hx
  rcases drop_cases x44 m with ⟨hle, hd⟩ | ⟨x1, hlt, hd, hb⟩
  · rw [hd] at hx
    refine Leads.brD (fun q => by omega) (fun _ => Leads.one (Goes.out ?_))
    have hx := Out_leaf hx
    rw [show full [] i = true from rfl, Bool.and_true, mput_self h5 h6] at hx
    exact hx
  rw [hd] at hx
  rw [getR_of hb, wrap64 (by omega) (by omega)]
  have hf : full (x1 :: x44.drop (m + 1)) i = (!(decide ((getR [.int .i64, .str, .str, .str] x1.1 (i : Int)).1 = 0)) && full (x44.drop (m + 1)) i) := rfl
  rw [hf] at hx
  have hlen := h8 x1 (List.mem_of_getElem? hb)
  have go : ∀ c : Bool, (mg7 out v && !(decide ((getR [.int .i64, .str, .str, .str] x1.1 (i : Int)).1 = 0))) = c → Goes [.mp .str false [.bool], .v false [.int .i64], .v false [.str], .v false [.sl [.sl [.int .i64, .str, .str, .str]]], .v false [.int .i64], .v false [.int .i64]] lgs_leaf_3 lks_leaf_3 lms_leaf_3 (out, ((i : Int), ()), (v, ()), (x44, ()), (x45, ()), ((m : Int), ()), ()) x (.again (St.svs [.mp .str false [.bool], .v false [.int .i64], .v false [.str], .v false [.sl [.sl [.int .i64, .str, .str, .str]]], .v false [.int .i64], .v false [.int .i64]] (mput Sh.str [.bool] out v (c, ()), ((i : Int), ()), (v, ()), (x44, ()), (x45, ()), ((m : Int) + 1, ()), ()))) := fun c e => by
    refine Goes.again (ks := [.mp .str false [.bool], .v false [.int .i64], .v false [.str], .v false [.sl [.sl [.int .i64, .str, .str, .str]]], .v false [.int .i64], .v false [.int .i64]]) _ rfl ?_ ?_ ?_
    · exact ⟨srt_mput7 h5 _ _, mh7_mput _ _ _, ⟨by omega, by omega, h2, h3⟩, by omega, h8⟩
    · simp only [lms_leaf_3]; omega
    · simp only [lgs_leaf_3, toNat_add1, Int.toNat_natCast]
      rw [mg7_mput, mput_twice h5, ← e, Bool.and_assoc]
      exact hx
  refine Leads.brD (fun _ => Leads.chk (by omega) fun _ => Leads.br (fun w => Leads.chk ⟨by omega, hlen⟩ fun _ => Leads.one (go _ ?_)) (fun w => Leads.one (go _ ?_))) (fun q => by omega)
  · have w : mg7 out v = true := w
    rw [w, Bool.true_and]
    by_cases z : (getR [.int .i64, .str, .str, .str] x1.1 (i : Int)).1 = 0
    · rw [decide_eq_true z, z]; rfl
    · rw [decide_eq_false z]; simpa using z
  · have w : mg7 out v = false := w
    rw [w]; rfl
theorem ts_leaf (o : RowE opS) : evF T (Ep (Es_one)) (Ln (Ls_leaf)) Try.f62 [.agg (rowD opS o)] =
    chk (lks_leaf_0 ([], (o.snd.fst, ()), ((↑(List.length o.snd.fst) : Int), ()), ((0 : Int), ()), ())) (chk (lks_leaf_2 (o, leafT (List.drop (Int.toNat (0 : Int)) o.snd.fst) [], (o.snd.snd.fst, ()), ((↑(List.length o.snd.snd.fst) : Int), ()), ((0 : Int), ()), ())) (some (SV.val (AV.d (D.mp Sh.str false [Sh.bool] (leafC o.snd.snd.snd.fst (Int.toNat (0 : Int)) (List.drop (Int.toNat (0 : Int)) o.snd.snd.fst) (leafT (List.drop (Int.toNat (0 : Int)) o.snd.fst) []))))))) := by kernel_rfl
theorem sats_leaf : Sat P 62 (Ss_leaf) := by
  refine sat_mk (LT := Ln (Ls_leaf)) hC (SatE.ep oks_one) mixed Try.func62 (by kernel_rfl) (c := bodyOf Try.f62) (by kernel_rfl) (by kernel_rfl) ?_ (loops4 (by kernel_rfl) (loks_leaf_0) (loks_leaf_1) (loks_leaf_2) (loks_leaf_3))
  rintro ⟨(o : RowE opS), _⟩ sv h
  refine Leads.eq (Leads.of_eq (ts_leaf o) ?_)
  obtain ⟨⟨hs, hl⟩, h⟩ := h
  obtain rfl := Out_leaf h
  obtain ⟨⟨q0, _⟩, ⟨q1, _⟩, ⟨q2, _⟩, _⟩ := hs
  refine Leads.chk ⟨by omega, by omega, rfl, q0⟩ fun _ => Leads.chk ⟨srt_leafT _ _ srt_nil, by omega, by omega, rfl, q1, q2, hl⟩ fun _ => Leads.one rfl
def Es_leaf : Es := (62, (Ss_leaf)) :: Es_one
theorem oks_leaf : SatE P (En (Es_leaf)) := SatE.cons (sats_leaf) oks_one
end Go.Proofs.Ytfpojhphmgnfhaa.T7
