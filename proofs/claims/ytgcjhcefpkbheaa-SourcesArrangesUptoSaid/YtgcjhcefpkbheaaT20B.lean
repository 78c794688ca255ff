/- Part of a proof of the seat's statements: no statement by itself. -/
import Derived.Test.YtgcjhcefpkbheaaT20A
import Derived.Test.YtgcjhcefpkbheaaSwB
import Derived.Test.YtgcjhcefpkbheaaSortI20
set_option maxRecDepth 100000
open Go.Proofs.Ytgcjhcefpkbheaa.Lg Go Go.Proofs.Ytgcjhcefpkbheaa.Sp
open Go.Proofs
namespace Go.Proofs.Ytgcjhcefpkbheaa.T20


/-! ### legation/sources.Groups$1 -/
def Lg1 : Ls := []
def Sg1 := mkS [(true, grS), (true, grS)] fun ⟨(a : RowE grS), (b : RowE grS), _⟩ => .chk (okG a = true ∧ okG b = true) (.leaf (.val (.d (.int .i64 (keyG a - keyG b)))))
theorem tg1 (a : RowE grS) (b : RowE grS) : evF T (Ep (Eclone)) (Ln (Lg1)) Try.f28 [.agg (rowD grS a), .agg (rowD grS b)] =
    chk ((0 : Int) ≤ (0 : Int) ∧ (0 : Int) < (↑(List.length a.fst) : Int)) (chk ((0 : Int) ≤ (0 : Int) ∧ (0 : Int) < (↑(List.length b.fst) : Int)) (some (SV.val (AV.d (D.int IntKind.i64 (IntKind.i64.wrap ((getR [Sh.int IntKind.i64] a.fst (0 : Int)).fst - (getR [Sh.int IntKind.i64] b.fst (0 : Int)).fst))))))) := by kernel_rfl
theorem satg1 : Sat P 28 (Sg1) := by
  refine sat_mk (LT := Ln (Lg1)) hC (SatE.ep okclone) mixed Try.func28 (by kernel_rfl) (c := bodyOf Try.f28) (by kernel_rfl) (by kernel_rfl) ?_ (loops0 (by kernel_rfl))
  rintro ⟨(a : RowE grS), (b : RowE grS), _⟩ sv h
  refine Leads.eq (Leads.of_eq (tg1 a b) ?_)
  obtain ⟨⟨h1, h2⟩, h⟩ := h
  obtain rfl := Out_leaf h
  simp only [okG, decide_eq_true_eq] at h1 h2
  refine Leads.chk ⟨by omega, by omega⟩ fun _ => Leads.chk ⟨by omega, by omega⟩ fun _ => Leads.one ?_
  have h3 : 0 ≤ keyG a ∧ keyG a < 1099511627776 := h1.2
  have h4 : 0 ≤ keyG b ∧ keyG b < 1099511627776 := h2.2
  have e : IntKind.i64.wrap (keyG a - keyG b) = keyG a - keyG b := wrap64 (by omega) (by omega)
  exact congrArg (fun n => SV.val (.d (.int .i64 n))) e
def Eg1 : Es := (28, (Sg1)) :: Eclone
theorem okg1 : SatE P (En (Eg1)) := SatE.cons (satg1) okclone
def SSortG : OSpec := SSortK grS keyG okG 28
def Esort : Es := (27, .o SSortG) :: Eg1
theorem sat_sortGr : SatO P 27 SSortG := satO_sortK (es := grS) sortGr Try.isAgg31 Try.sizeOf31 satg1 (fun x y hx hy => ⟨⟨hx, hy⟩, rfl⟩) rfl Try.func27 (by kernel_rfl) (by kernel_rfl)
theorem oksort : SatE P (En Esort) := SatE.consO sat_sortGr okg1
/-! ### legation/sources.Groups -/
def lkgroups_0 : St [.v false [.bool], .mpa (.int .i64) [.int .i64], .own grS, .v false [.sl [.sl [.int .i64]]], .v false [.int .i64], .v false [.int .i64]] → Prop := fun ⟨⟨(exclusive : Bool), _⟩, (own : List (Int × RowE [.sl [.int .i64]])), (out : List (RowE grS)), ⟨(x12 : List (RowE [.sl [.int .i64]])), _⟩, ⟨(x13 : Int), _⟩, ⟨(x14 : Int), _⟩, _⟩ => 0 ≤ x14 ∧ x14 ≤ x13 ∧ x13 = (x12.length : Int) ∧ x12.length ≤ 2000000 ∧ (out.length : Int) ≤ x14 ∧ smE own x14 ∧ szP x12
def lggroups_0 : St [.v false [.bool], .mpa (.int .i64) [.int .i64], .own grS, .v false [.sl [.sl [.int .i64]]], .v false [.int .i64], .v false [.int .i64]] → Tr (Ex × List SV) := fun ⟨⟨(exclusive : Bool), _⟩, (own : List (Int × RowE [.sl [.int .i64]])), (out : List (RowE grS)), ⟨(x12 : List (RowE [.sl [.int .i64]])), _⟩, ⟨(x13 : Int), _⟩, ⟨(x14 : Int), _⟩, _⟩ => .leaf (.exit 0, [.mpa true (.int .i64) [.int .i64] none ((foldG exclusive x14 own out (x12.drop x14.toNat)).1), .own grS ((foldG exclusive x14 own out (x12.drop x14.toNat)).2)])
def lmgroups_0 : St [.v false [.bool], .mpa (.int .i64) [.int .i64], .own grS, .v false [.sl [.sl [.int .i64]]], .v false [.int .i64], .v false [.int .i64]] → Nat := fun ⟨⟨(exclusive : Bool), _⟩, (own : List (Int × RowE [.sl [.int .i64]])), (out : List (RowE grS)), ⟨(x12 : List (RowE [.sl [.int .i64]])), _⟩, ⟨(x13 : Int), _⟩, ⟨(x14 : Int), _⟩, _⟩ => x12.length - x14.toNat
def lsgroups_0 : LoopS := mkR [1, 5, 6, 12, 13, 14] [5, 6] [] [.v false [.bool], .mpa (.int .i64) [.int .i64], .own grS, .v false [.sl [.sl [.int .i64]]], .v false [.int .i64], .v false [.int .i64]] (fun r => .chk (lkgroups_0 r) (lggroups_0 r))
def lkgroups_1 : St [.own grS, .mit (.int .i64) false [.sl [.int .i64]]] → Prop := fun ⟨(out : List (RowE grS)), (it : List (Int × RowE [.sl [.int .i64]])), _⟩ => out.length + it.length ≤ 2000000
def lggroups_1 : St [.own grS, .mit (.int .i64) false [.sl [.int .i64]]] → MR := fun ⟨(out : List (RowE grS)), (it : List (Int × RowE [.sl [.int .i64]])), _⟩ => .any (fac it.length) fun i => (.exit 2, [.own grS (out ++ (pkN it.length it i).map grpE)])
def lmgroups_1 : St [.own grS, .mit (.int .i64) false [.sl [.int .i64]]] → Nat := fun ⟨(out : List (RowE grS)), (it : List (Int × RowE [.sl [.int .i64]])), _⟩ => it.length
def lsgroups_1 : LoopS := mkM [6, 47] [6] [] [.own grS, .mit (.int .i64) false [.sl [.int .i64]]] (fun r => .chk (lkgroups_1 r) (.leaf (lggroups_1 r)))
def Lgroups : Ls := [(4, lsgroups_0), (11, lsgroups_1)]
def Sgroups := mkS [(false, [.sl [.sl [.int .i64]]]), (false, [.bool])] fun ⟨⟨(points : List (RowE [.sl [.int .i64]])), _⟩, ⟨(exclusive : Bool), _⟩, _⟩ => .chk (points.length ≤ 2000000 ∧ szP points) (.leaf (.val (.d (.sl grS (groupsP exclusive points)))))
theorem ltgroups_0 (exclusive : Bool) (own : List (Int × RowE [.sl [.int .i64]])) (out : List (RowE grS)) (x12 : List (RowE [.sl [.int .i64]])) (x13 : Int) (x14 : Int) : evRound T (Eo [6, 5, 11] true (Esort)) (Ln (Lgroups)) (loopAt 0 (loops (bodyOf Try.f10))) (lsgroups_0) [.val (.d (.bool  exclusive)), .mpa true (.int .i64) [.int .i64] none own, .own grS out, .val (.d (.sl [.sl [.int .i64]] x12)), .val (.d (.int .i64 x13)), .val (.d (.int .i64 x14))] =
    br (decide (x14 < x13)) (chk ((0 : Int) ≤ x14 ∧ x14 < (↑x12.length : Int)) (br exclusive (br ((↑(List.length (getR [Sh.sl [Sh.int IntKind.i64]] x12 x14).fst) : Int) == (1 : Int)) (chk ((0 : Int) ≤ (0 : Int) ∧ (0 : Int) < (↑(List.length (getR [Sh.sl [Sh.int IntKind.i64]] x12 x14).fst) : Int)) (chk ((0 : Int) ≤ (0 : Int) ∧ (0 : Int) < (↑(List.length (getR [Sh.sl [Sh.int IntKind.i64]] x12 x14).fst) : Int)) (chk (((↑(List.length (mget (Sh.int IntKind.i64) [Sh.sl [Sh.int IntKind.i64]] own (getR [Sh.int IntKind.i64] (getR [Sh.sl [Sh.int IntKind.i64]] x12 x14).fst (0 : Int)).fst).fst) : Int) + (↑[(x14, ())].length : Int)) * (↑(8 : Nat) : Int) < lim) (chk ((getR [Sh.int IntKind.i64] (getR [Sh.sl [Sh.int IntKind.i64]] x12 x14).fst (0 : Int)).fst = (getR [Sh.int IntKind.i64] (getR [Sh.sl [Sh.int IntKind.i64]] x12 x14).fst (0 : Int)).fst) (some (Rnd.again [SV.val (AV.d (D.bool exclusive)), SV.mpa true (Sh.int IntKind.i64) [Sh.int IntKind.i64] none (mput (Sh.int IntKind.i64) [Sh.sl [Sh.int IntKind.i64]] own (getR [Sh.int IntKind.i64] (getR [Sh.sl [Sh.int IntKind.i64]] x12 x14).fst (0 : Int)).fst ((mget (Sh.int IntKind.i64) [Sh.sl [Sh.int IntKind.i64]] own (getR [Sh.int IntKind.i64] (getR [Sh.sl [Sh.int IntKind.i64]] x12 x14).fst (0 : Int)).fst).fst ++ [(x14, ())], ())), SV.own grS out, SV.val (AV.d (D.sl [Sh.sl [Sh.int IntKind.i64]] x12)), SV.val (AV.d (D.int IntKind.i64 x13)), SV.val (AV.d (D.int IntKind.i64 (IntKind.i64.wrap (x14 + (1 : Int)))))])))))) (chk (List.length (getR [Sh.sl [Sh.int IntKind.i64]] x12 x14).fst ≤ (2000000 : Nat)) (chk (((↑out.length : Int) + (↑[([(x14, ())], getR [Sh.sl [Sh.int IntKind.i64]] x12 x14)].length : Int)) * (↑(48 : Nat) : Int) < lim) (some (Rnd.again [SV.val (AV.d (D.bool exclusive)), SV.mpa true (Sh.int IntKind.i64) [Sh.int IntKind.i64] none own, SV.own grS (List.take out.length out ++ [([(x14, ())], getR [Sh.sl [Sh.int IntKind.i64]] x12 x14)]), SV.val (AV.d (D.sl [Sh.sl [Sh.int IntKind.i64]] x12)), SV.val (AV.d (D.int IntKind.i64 x13)), SV.val (AV.d (D.int IntKind.i64 (IntKind.i64.wrap (x14 + (1 : Int)))))]))))) (chk (List.length (getR [Sh.sl [Sh.int IntKind.i64]] x12 x14).fst ≤ (2000000 : Nat)) (chk (((↑out.length : Int) + (↑[([(x14, ())], getR [Sh.sl [Sh.int IntKind.i64]] x12 x14)].length : Int)) * (↑(48 : Nat) : Int) < lim) (some (Rnd.again [SV.val (AV.d (D.bool exclusive)), SV.mpa true (Sh.int IntKind.i64) [Sh.int IntKind.i64] none own, SV.own grS (List.take out.length out ++ [([(x14, ())], getR [Sh.sl [Sh.int IntKind.i64]] x12 x14)]), SV.val (AV.d (D.sl [Sh.sl [Sh.int IntKind.i64]] x12)), SV.val (AV.d (D.int IntKind.i64 x13)), SV.val (AV.d (D.int IntKind.i64 (IntKind.i64.wrap (x14 + (1 : Int)))))])))))) (some (Rnd.out (Ex.exit (0 : Nat)) [SV.mpa true (Sh.int IntKind.i64) [Sh.int IntKind.i64] none own, SV.own grS out])) := by kernel_rfl
theorem lokgroups_0 : LoopOK T (Eo [6, 5, 11] true (Esort)) (Ln (Lgroups)) (loopAt 0 (loops (bodyOf Try.f10))) := by
  refine loop_ok (live := [1, 5, 6, 12, 13, 14]) (outs := [5, 6]) (rets := []) (ks := [.v false [.bool], .mpa (.int .i64) [.int .i64], .own grS, .v false [.sl [.sl [.int .i64]]], .v false [.int .i64], .v false [.int .i64]]) (G := lggroups_0) (lkgroups_0) (lmgroups_0) (by kernel_rfl) ?_
  rintro ⟨⟨(exclusive : Bool), _⟩, (own : List (Int × RowE [.sl [.int .i64]])), (out : List (RowE grS)), ⟨(x12 : List (RowE [.sl [.int .i64]])), _⟩, ⟨(x13 : Int), _⟩, ⟨(x14 : Int), _⟩, _⟩ x hok hx
  refine Leads.of_eq (ltgroups_0 exclusive own out x12 x13 x14) ?_
  obtain ⟨h0, h1, h2, h3, h4, h5, h6⟩ := hok
  obtain ⟨m, rfl⟩ := Int.eq_ofNat_of_zero_le h0
  simp only [lggroups_0, Int.toNat_natCast] at hx
  rcases drop_cases x12 m with ⟨hle, hd⟩ | ⟨x1, hlt, hd, hb⟩
  · rw [hd] at hx
    exact Leads.brD (fun q => by omega) (fun _ => Leads.one (Goes.out (Out_leaf hx)))
  rw [hd] at hx
  simp only [foldG] at hx
  have hm : x1 ∈ x12 := List.mem_of_getElem? hb
  have hs := h6 x1 hm
  rw [getR_of hb, wrap64 (x := (m : Int) + 1) (by omega) (by omega), List.take_length]
  have no : ¬ (exclusive = true ∧ one1 x1 = true) → Goes [.v false [.bool], .mpa (.int .i64) [.int .i64], .own grS, .v false [.sl [.sl [.int .i64]]], .v false [.int .i64], .v false [.int .i64]] lggroups_0 lkgroups_0 lmgroups_0 ((exclusive, ()), own, out, (x12, ()), (x13, ()), ((m : Int), ()), ()) x (.again (St.svs [.v false [.bool], .mpa (.int .i64) [.int .i64], .own grS, .v false [.sl [.sl [.int .i64]]], .v false [.int .i64], .v false [.int .i64]] ((exclusive, ()), own, out ++ [([((m : Int), ())], x1)], (x12, ()), (x13, ()), ((m : Int) + 1, ()), ()))) := fun hno => by
    refine Goes.again (ks := [.v false [.bool], .mpa (.int .i64) [.int .i64], .own grS, .v false [.sl [.sl [.int .i64]]], .v false [.int .i64], .v false [.int .i64]]) _ rfl ?_ ?_ ?_
    · exact ⟨by omega, by omega, h2, h3, by rw [List.length_append]; simp only [List.length_cons, List.length_nil]; omega, h5.mono (by omega), h6⟩
    · simp only [lmgroups_0]; omega
    · simp only [lggroups_0, toNat_add1]
      rw [if_neg hno] at hx; exact hx
  have no1 : one1 x1 = true ↔ (((x1.1 : List Nt).length : Int) == 1) = true := by
    unfold one1
    rw [beq_iff_eq]
    exact ⟨fun q => by rw [Nat.eq_of_beq_eq_true q]; rfl, fun q => by rw [show (x1.1 : List Nt).length = 1 by omega]; rfl⟩
  refine Leads.brD (fun _ => Leads.chk ⟨by omega, by omega⟩ fun _ => Leads.br (fun w => Leads.br (fun w2 => ?_) (fun w2 => Leads.chk hs fun _ => Leads.chk (by simp only [lim, List.length_cons, List.length_nil]; omega) fun _ => Leads.one (no fun q => ?_))) (fun w => Leads.chk hs fun _ => Leads.chk (by simp only [lim, List.length_cons, List.length_nil]; omega) fun _ => Leads.one (no fun q => ?_))) (fun q => by omega)
  · have w3 := beq_iff_eq.1 w2
    have hg : ((mget (Sh.int IntKind.i64) [Sh.sl [Sh.int IntKind.i64]] own (getR [Sh.int IntKind.i64] x1.fst 0).fst).1.length : Int) ≤ (m : Int) := h5.get (by omega) (hd1 x1)
    rw [if_pos ⟨w, no1.2 w2⟩] at hx
    refine Leads.chk ⟨by omega, by omega⟩ fun _ => Leads.chk ⟨by omega, by omega⟩ fun _ => Leads.chk (by simp only [lim, List.length_cons, List.length_nil]; omega) fun _ => Leads.chk rfl fun _ => Leads.one ?_
    refine Goes.again (ks := [.v false [.bool], .mpa (.int .i64) [.int .i64], .own grS, .v false [.sl [.sl [.int .i64]]], .v false [.int .i64], .v false [.int .i64]]) ((_, ()), _, _, (_, ()), (_, ()), (_, ()), ()) rfl ?_ ?_ ?_
    · refine ⟨by omega, by omega, h2, h3, by omega, (h5.mono (by omega)).put _ _ ?_, h6⟩
      show (((mget (.int .i64) [.sl [Sh.int IntKind.i64]] own (getR [Sh.int IntKind.i64] x1.1 0).1).1 ++ [((m : Int), ())]).length : Int) ≤ _
      rw [List.length_append]; simp only [List.length_cons, List.length_nil]; omega
    · simp only [lmgroups_0]; omega
    · simp only [lggroups_0, toNat_add1]; exact hx
  · have q2 := no1.1 q.2
    rw [w2] at q2; cases q2
  · rw [w] at q; cases q.1
theorem ltgroups_1 {R : Type} (K : Ex → List SV → Option R) (A : List SV → Option R) (out : List (RowE grS)) (it : List (Int × RowE [.sl [.int .i64]])) : evRoundK T (Eo [6, 5, 11] true (Esort)) (Ln (Lgroups)) (loopAt 1 (loops (bodyOf Try.f10))) (lsgroups_1) [.own grS out, .mit (.int .i64) false [.sl [.int .i64]] it none] K A =
    brP (it = []) (K (Ex.exit (2 : Nat)) [SV.own grS out]) (anyN it.length fun i => chk (((↑out.length : Int) + (↑[((it.getD i (CE.dflt (Sh.int IntKind.i64), RowE.dflt [Sh.sl [Sh.int IntKind.i64]])).snd.fst, [((it.getD i (CE.dflt (Sh.int IntKind.i64), RowE.dflt [Sh.sl [Sh.int IntKind.i64]])).fst, ())], ())].length : Int)) * (↑(48 : Nat) : Int) < lim) (A [SV.own grS (List.take out.length out ++ [((it.getD i (CE.dflt (Sh.int IntKind.i64), RowE.dflt [Sh.sl [Sh.int IntKind.i64]])).snd.fst, [((it.getD i (CE.dflt (Sh.int IntKind.i64), RowE.dflt [Sh.sl [Sh.int IntKind.i64]])).fst, ())], ())]), SV.mit (Sh.int IntKind.i64) false [Sh.sl [Sh.int IntKind.i64]] (it.eraseIdx i) none])) := by kernel_rfl
theorem lokgroups_1 : LoopOK T (Eo [6, 5, 11] true (Esort)) (Ln (Lgroups)) (loopAt 1 (loops (bodyOf Try.f10))) := by
  refine loop_okM (live := [6, 47]) (outs := [6]) (rets := []) (ks := [.own grS, .mit (.int .i64) false [.sl [.int .i64]]]) (G := lggroups_1) (lkgroups_1) (lmgroups_1) (by kernel_rfl) ?_
  rintro R K A z ⟨(out : List (RowE grS)), (it : List (Int × RowE [.sl [.int .i64]])), _⟩ hok hA hz
  refine Leads.eq (Leads.of_eq (ltgroups_1 K A out it) ?_)
  have hok : out.length + it.length ≤ 2000000 := hok
  refine Leads.brP (fun e => Leads.is ?_) (fun e => Leads.any (List.length_pos_iff.2 e) fun i hi => ?_)
  · subst e
    have := anyN_some hz 0 (by decide)
    simpa [pkN] using this
  · have hx : it[i]? = some it[i] := List.getElem?_eq_getElem hi
    have hg : it.getD i (CE.dflt (.int .i64), RowE.dflt [.sl ntS]) = it[i] := by rw [List.getD_eq_getElem?_getD, hx]; rfl
    rw [hg, List.take_length]
    obtain ⟨n, hn⟩ : ∃ n, it.length = n + 1 := ⟨it.length - 1, by omega⟩
    have hle : (it.eraseIdx i).length = n := by rw [List.length_eraseIdx, if_pos hi]; omega
    refine Leads.chk (by simp only [List.length_cons, List.length_nil, lim]; omega) fun _ => ?_
    refine Leads.is (hA (out ++ [grpE it[i]], it.eraseIdx i, ()) ?_ ?_ ?_)
    · show (out ++ [grpE it[i]]).length + (it.eraseIdx i).length ≤ 2000000
      rw [hle, List.length_append]; simp only [List.length_cons, List.length_nil]; omega
    · simp only [lmgroups_1]; rw [hle, hn]
    · simp only [lggroups_1, MR.run] at hz ⊢
      rw [hle]
      refine anyN_mk (fac_pos _) fun j hj => ?_
      rw [hn] at hz
      have hz := anyN_some hz (j * (n + 1) + i) (fac_step hj (by omega))
      rw [pkN_step i j (by omega) hx] at hz
      rw [List.append_assoc]; exact hz
theorem tgroups (points : List (RowE [.sl [.int .i64]])) (exclusive : Bool) : evF T (Eo [6, 5, 11] true (Esort)) (Ln (Lgroups)) Try.f10 [.d (.sl [.sl [.int .i64]] points), .d (.bool exclusive)] =
    chk (lkgroups_0 ((exclusive, ()), [], [], (points, ()), ((↑points.length : Int), ()), ((0 : Int), ()), ())) (chk (lkgroups_1 ((foldG exclusive (0 : Int) [] [] (List.drop (Int.toNat (0 : Int)) points)).snd, (foldG exclusive (0 : Int) [] [] (List.drop (Int.toNat (0 : Int)) points)).fst, ())) (anyN (fac (List.length (foldG exclusive (0 : Int) [] [] (List.drop (Int.toNat (0 : Int)) points)).fst)) fun i => chk (((foldG exclusive (0 : Int) [] [] (List.drop (Int.toNat (0 : Int)) points)).snd ++ List.map grpE (pkN (List.length (foldG exclusive (0 : Int) [] [] (List.drop (Int.toNat (0 : Int)) points)).fst) (foldG exclusive (0 : Int) [] [] (List.drop (Int.toNat (0 : Int)) points)).fst i)).length < (4611686018427387904 : Nat) ∧ (∀ (r : RowE grS), r ∈ (foldG exclusive (0 : Int) [] [] (List.drop (Int.toNat (0 : Int)) points)).snd ++ List.map grpE (pkN (List.length (foldG exclusive (0 : Int) [] [] (List.drop (Int.toNat (0 : Int)) points)).fst) (foldG exclusive (0 : Int) [] [] (List.drop (Int.toNat (0 : Int)) points)).fst i) → okG r = true) ∧ (List.map keyG ((foldG exclusive (0 : Int) [] [] (List.drop (Int.toNat (0 : Int)) points)).snd ++ List.map grpE (pkN (List.length (foldG exclusive (0 : Int) [] [] (List.drop (Int.toNat (0 : Int)) points)).fst) (foldG exclusive (0 : Int) [] [] (List.drop (Int.toNat (0 : Int)) points)).fst i))).Nodup) (some (SV.val (AV.d (D.sl grS (List.drop (0 : Nat) (List.take (srtK keyG ((foldG exclusive (0 : Int) [] [] (List.drop (Int.toNat (0 : Int)) points)).snd ++ List.map grpE (pkN (List.length (foldG exclusive (0 : Int) [] [] (List.drop (Int.toNat (0 : Int)) points)).fst) (foldG exclusive (0 : Int) [] [] (List.drop (Int.toNat (0 : Int)) points)).fst i))).length (srtK keyG ((foldG exclusive (0 : Int) [] [] (List.drop (Int.toNat (0 : Int)) points)).snd ++ List.map grpE (pkN (List.length (foldG exclusive (0 : Int) [] [] (List.drop (Int.toNat (0 : Int)) points)).fst) (foldG exclusive (0 : Int) [] [] (List.drop (Int.toNat (0 : Int)) points)).fst i))))))))))) := by kernel_rfl
theorem satgroups : Sat P 10 (Sgroups) := by
  refine sat_mk (LT := Ln (Lgroups)) hC (SatE.eo oksort) mixed Try.func10 (by kernel_rfl) (c := bodyOf Try.f10) (by kernel_rfl) (by kernel_rfl) ?_ (loops2 (by kernel_rfl) (lokgroups_0) (lokgroups_1))
  rintro ⟨⟨(points : List (RowE [.sl [.int .i64]])), _⟩, ⟨(exclusive : Bool), _⟩, _⟩ sv h
  refine Leads.eq (Leads.of_eq (tgroups points exclusive) ?_)
  obtain ⟨⟨h1, h2⟩, h⟩ := h
  obtain rfl := Out_leaf h
  refine Leads.chk ⟨by omega, Int.natCast_nonneg _, rfl, h1, by simp, (fun e he => absurd he (List.not_mem_nil)), h2⟩ fun _ => ?_
  rw [show List.drop (Int.toNat (0 : Int)) points = points from rfl]
  have hl := fold_len exclusive points 0 [] []
  refine Leads.chk ?_ fun _ => Leads.any (fac_pos _) fun j hj => ?_
  · show _ + _ ≤ 2000000
    simp only [List.length_nil] at hl; omega
  · obtain ⟨k1, k2⟩ := groups_of exclusive points h1 (List.Perm.append_left _ ((pkN_perm _ (foldG exclusive 0 [] [] points).1 j rfl).map grpE))
    refine Leads.chk k1 fun _ => Leads.one ?_
    rw [List.drop_zero, List.take_length, k2]
def Egroups : Es := (10, (Sgroups)) :: Esort
theorem okgroups : SatE P (En (Egroups)) := SatE.cons (satgroups) oksort
end Go.Proofs.Ytgcjhcefpkbheaa.T20
