/- Part of a proof of the seat's statements: no statement by itself. -/
import Derived.Test.YtgcjhcefpkbheaaT20C
import Derived.Test.YtgcjhcefpkbheaaSwD
set_option maxRecDepth 100000
open Go.Proofs.Ytgcjhcefpkbheaa.Lg Go Go.Proofs.Ytgcjhcefpkbheaa.Sp
open Go.Proofs
namespace Go.Proofs.Ytgcjhcefpkbheaa.T20


/-! ### legation/legationref20.alone -/
def Lr_alone : Ls := []
def Sr_alone := mkS [(false, [.sl [.int .i64]]), (false, [.int .i64])] fun ⟨⟨(l : List (RowE [.int .i64])), _⟩, ⟨(point : Int), _⟩, _⟩ => .leaf (.val (.d (.bool (aloneP (l, ()) point))))
theorem tr_alone (l : List (RowE [.int .i64])) (point : Int) : evF T (Ep (Earrange)) (Ln (Lr_alone)) Try.f29 [.d (.sl [.int .i64] l), .d (.int .i64 point)] =
    br ((↑l.length : Int) == (1 : Int)) (chk ((0 : Int) ≤ (0 : Int) ∧ (0 : Int) < (↑l.length : Int)) (some (SV.val (AV.d (D.bool ((getR [Sh.int IntKind.i64] l (0 : Int)).fst == point)))))) (some (SV.val (AV.d (D.bool false)))) := by kernel_rfl
theorem satr_alone : Sat P 29 (Sr_alone) := by
  refine sat_mk (LT := Ln (Lr_alone)) hC (SatE.ep okarrange) mixed Try.func29 (by kernel_rfl) (c := bodyOf Try.f29) (by kernel_rfl) (by kernel_rfl) ?_ (loops0 (by kernel_rfl))
  rintro ⟨⟨(l : List (RowE [.int .i64])), _⟩, ⟨(point : Int), _⟩, _⟩ sv h
  refine Leads.eq (Leads.of_eq (tr_alone l point) ?_)
  obtain rfl := Out_leaf h
  unfold aloneP
  refine Leads.br (fun w => Leads.chk ⟨by omega, ?_⟩ fun _ => Leads.one ?_) (fun w => Leads.one ?_)
  · have w : (l.length : Int) = 1 := by simpa using w
    omega
  · have w : (l.length : Int) = 1 := by simpa using w
    rw [show one1 (l, ()) = true from Nat.beq_eq ▸ (show l.length = 1 by omega), Bool.true_and]
    rfl
  · have w : ¬ (l.length : Int) = 1 := by simpa using w
    rw [show one1 (l, ()) = false from by
      cases q : one1 (l, ())
      · rfl
      · exact absurd (Nat.eq_of_beq_eq_true q) (by show ¬ l.length = 1; omega), Bool.false_and]
def Er_alone : Es := (29, (Sr_alone)) :: Earrange
theorem okr_alone : SatE P (En (Er_alone)) := SatE.cons (satr_alone) okarrange
/-! ### legation/legationref20.SameInts -/
def lkr_sameI_0 : St [.v false [.sl [.int .i64]], .v false [.sl [.int .i64]], .v false [.int .i64]] → Prop := fun ⟨⟨(a : List (RowE [.int .i64])), _⟩, ⟨(b : List (RowE [.int .i64])), _⟩, ⟨(i : Int), _⟩, _⟩ => 0 ≤ i ∧ i ≤ (a.length : Int) ∧ a.length = b.length ∧ a.length ≤ 140737488355328
def lgr_sameI_0 : St [.v false [.sl [.int .i64]], .v false [.sl [.int .i64]], .v false [.int .i64]] → Tr (Ex × List SV) := fun ⟨⟨(a : List (RowE [.int .i64])), _⟩, ⟨(b : List (RowE [.int .i64])), _⟩, ⟨(i : Int), _⟩, _⟩ => .br (sameI (a.drop i.toNat) (b.drop i.toNat)) (.leaf (.exit 0, [])) (.leaf (.ret, [.val (.d (.bool  (false)))]))
def lmr_sameI_0 : St [.v false [.sl [.int .i64]], .v false [.sl [.int .i64]], .v false [.int .i64]] → Nat := fun ⟨⟨(a : List (RowE [.int .i64])), _⟩, ⟨(b : List (RowE [.int .i64])), _⟩, ⟨(i : Int), _⟩, _⟩ => a.length - i.toNat
def lsr_sameI_0 : LoopS := mkR [0, 1, 5] [] [4] [.v false [.sl [.int .i64]], .v false [.sl [.int .i64]], .v false [.int .i64]] (fun r => .chk (lkr_sameI_0 r) (lgr_sameI_0 r))
def Lr_sameI : Ls := [(4, lsr_sameI_0)]
def Sr_sameI := mkS [(false, [.sl [.int .i64]]), (false, [.sl [.int .i64]])] fun ⟨⟨(a : List (RowE [.int .i64])), _⟩, ⟨(b : List (RowE [.int .i64])), _⟩, _⟩ => .chk (a.length ≤ 140737488355328) (.leaf (.val (.d (.bool (sameI a b)))))
theorem ltr_sameI_0 (a : List (RowE [.int .i64])) (b : List (RowE [.int .i64])) (i : Int) : evRound T (Ep (Er_alone)) (Ln (Lr_sameI)) (loopAt 0 (loops (bodyOf Try.f14))) (lsr_sameI_0) [.val (.d (.sl [.int .i64] a)), .val (.d (.sl [.int .i64] b)), .val (.d (.int .i64 i))] =
    br (decide (i < (↑a.length : Int))) (chk ((0 : Int) ≤ i ∧ i < (↑a.length : Int)) (chk ((0 : Int) ≤ i ∧ i < (↑b.length : Int)) (br ((getR [Sh.int IntKind.i64] a i).fst != (getR [Sh.int IntKind.i64] b i).fst) (some (Rnd.out Ex.ret [SV.val (AV.d (D.bool false))])) (some (Rnd.again [SV.val (AV.d (D.sl [Sh.int IntKind.i64] a)), SV.val (AV.d (D.sl [Sh.int IntKind.i64] b)), SV.val (AV.d (D.int IntKind.i64 (IntKind.i64.wrap (i + (1 : Int)))))]))))) (some (Rnd.out (Ex.exit (0 : Nat)) [])) := by kernel_rfl
theorem lokr_sameI_0 : LoopOK T (Ep (Er_alone)) (Ln (Lr_sameI)) (loopAt 0 (loops (bodyOf Try.f14))) := by
  refine loop_ok (live := [0, 1, 5]) (outs := []) (rets := [4]) (ks := [.v false [.sl [.int .i64]], .v false [.sl [.int .i64]], .v false [.int .i64]]) (G := lgr_sameI_0) (lkr_sameI_0) (lmr_sameI_0) (by kernel_rfl) ?_
  rintro ⟨⟨(a : List (RowE [.int .i64])), _⟩, ⟨(b : List (RowE [.int .i64])), _⟩, ⟨(i : Int), _⟩, _⟩ x hok hx
  refine Leads.of_eq (ltr_sameI_0 a b i) ?_
  obtain ⟨h0, h1, h2, h3⟩ := hok
  obtain ⟨m, rfl⟩ := Int.eq_ofNat_of_zero_le h0
  simp only [lgr_sameI_0, Int.toNat_natCast] at hx
  rcases drop_cases a m with ⟨hle, hd⟩ | ⟨x1, hlt, hd, hb⟩
  · have hd2 : List.drop m b = [] := List.drop_of_length_le (by omega)
    rw [hd, hd2] at hx
    exact Leads.brD (fun q => by omega) (fun _ => Leads.one (Goes.out (Out_leaf (Out_tt hx))))
  rcases drop_cases b m with ⟨hle2, _⟩ | ⟨y1, hlt2, hd2, hb2⟩
  · omega
  rw [hd, hd2, sameI] at hx
  rw [getR_of hb, getR_of hb2, wrap64 (x := (m : Int) + 1) (by omega) (by omega)]
  refine Leads.brD (fun _ => Leads.chk (by omega) fun _ => Leads.chk (by omega) fun _ => Leads.br (fun w => Leads.one (Goes.out ?_)) (fun w => Leads.one ?_)) (fun q => by omega)
  · have w : ¬ (x1.1 : Int) = y1.1 := by simpa using w
    rw [decide_eq_false w, Bool.false_and] at hx
    exact Out_leaf (Out_ff hx)
  · have w : (x1.1 : Int) = y1.1 := by simpa using w
    rw [decide_eq_true w, Bool.true_and] at hx
    refine Goes.again (ks := [.v false [.sl [.int .i64]], .v false [.sl [.int .i64]], .v false [.int .i64]]) ((_, ()), (_, ()), (_, ()), ()) rfl ?_ ?_ ?_
    · exact ⟨by omega, by omega, h2, h3⟩
    · simp only [lmr_sameI_0]; omega
    · simp only [lgr_sameI_0, toNat_add1]; exact hx
theorem tr_sameI (a : List (RowE [.int .i64])) (b : List (RowE [.int .i64])) : evF T (Ep (Er_alone)) (Ln (Lr_sameI)) Try.f14 [.d (.sl [.int .i64] a), .d (.sl [.int .i64] b)] =
    br ((↑a.length : Int) != (↑b.length : Int)) (some (SV.val (AV.d (D.bool false)))) (chk (lkr_sameI_0 ((a, ()), (b, ()), ((0 : Int), ()), ())) (br (sameI (List.drop (Int.toNat (0 : Int)) a) (List.drop (Int.toNat (0 : Int)) b)) (some (SV.val (AV.d (D.bool true)))) (some (SV.val (AV.d (D.bool false)))))) := by kernel_rfl
theorem satr_sameI : Sat P 14 (Sr_sameI) := by
  refine sat_mk (LT := Ln (Lr_sameI)) hC (SatE.ep okr_alone) mixed Try.func14 (by kernel_rfl) (c := bodyOf Try.f14) (by kernel_rfl) (by kernel_rfl) ?_ (loops1 (by kernel_rfl) (lokr_sameI_0))
  rintro ⟨⟨(a : List (RowE [.int .i64])), _⟩, ⟨(b : List (RowE [.int .i64])), _⟩, _⟩ sv h
  refine Leads.eq (Leads.of_eq (tr_sameI a b) ?_)
  obtain ⟨h1, h⟩ := h
  obtain rfl := Out_leaf h
  refine Leads.br (fun w => Leads.one ?_) (fun w => Leads.chk ⟨by omega, by omega, ?_, h1⟩ fun _ => Leads.br (fun w2 => Leads.one ?_) (fun w2 => Leads.one ?_))
  · rw [sameI_len (by have : ¬ (a.length : Int) = b.length := by simpa using w
                      omega)]
  · have : (a.length : Int) = b.length := by simpa using w
    omega
  · rw [show sameI a b = true from w2]
  · rw [show sameI a b = false from w2]
def Er_sameI : Es := (14, (Sr_sameI)) :: Er_alone
theorem okr_sameI : SatE P (En (Er_sameI)) := SatE.cons (satr_sameI) okr_alone
/-! ### legation/legationref20.Same -/
def lkr_same_0 : St [.v false [.sl [.sl [.int .i64], .sl [.int .i64]]], .v false [.sl [.sl [.int .i64], .sl [.int .i64]]], .v false [.int .i64]] → Prop := fun ⟨⟨(a : List (RowE [.sl [.int .i64], .sl [.int .i64]])), _⟩, ⟨(b : List (RowE [.sl [.int .i64], .sl [.int .i64]])), _⟩, ⟨(i : Int), _⟩, _⟩ => 0 ≤ i ∧ i ≤ (a.length : Int) ∧ a.length = b.length ∧ a.length ≤ 2000000 ∧ ∀ g ∈ a, szGp g
def lgr_same_0 : St [.v false [.sl [.sl [.int .i64], .sl [.int .i64]]], .v false [.sl [.sl [.int .i64], .sl [.int .i64]]], .v false [.int .i64]] → Tr (Ex × List SV) := fun ⟨⟨(a : List (RowE [.sl [.int .i64], .sl [.int .i64]])), _⟩, ⟨(b : List (RowE [.sl [.int .i64], .sl [.int .i64]])), _⟩, ⟨(i : Int), _⟩, _⟩ => .br (sameG (a.drop i.toNat) (b.drop i.toNat)) (.leaf (.exit 0, [])) (.leaf (.ret, [.val (.d (.bool  (false)))]))
def lmr_same_0 : St [.v false [.sl [.sl [.int .i64], .sl [.int .i64]]], .v false [.sl [.sl [.int .i64], .sl [.int .i64]]], .v false [.int .i64]] → Nat := fun ⟨⟨(a : List (RowE [.sl [.int .i64], .sl [.int .i64]])), _⟩, ⟨(b : List (RowE [.sl [.int .i64], .sl [.int .i64]])), _⟩, ⟨(i : Int), _⟩, _⟩ => a.length - i.toNat
def lsr_same_0 : LoopS := mkR [0, 1, 5] [] [4] [.v false [.sl [.sl [.int .i64], .sl [.int .i64]]], .v false [.sl [.sl [.int .i64], .sl [.int .i64]]], .v false [.int .i64]] (fun r => .chk (lkr_same_0 r) (lgr_same_0 r))
def Lr_same : Ls := [(4, lsr_same_0)]
def Sr_same := mkS [(false, [.sl [.sl [.int .i64], .sl [.int .i64]]]), (false, [.sl [.sl [.int .i64], .sl [.int .i64]]])] fun ⟨⟨(a : List (RowE [.sl [.int .i64], .sl [.int .i64]])), _⟩, ⟨(b : List (RowE [.sl [.int .i64], .sl [.int .i64]])), _⟩, _⟩ => .chk (a.length ≤ 2000000 ∧ ∀ g ∈ a, szGp g) (.leaf (.val (.d (.bool (sameG a b)))))
theorem ltr_same_0 (a : List (RowE [.sl [.int .i64], .sl [.int .i64]])) (b : List (RowE [.sl [.int .i64], .sl [.int .i64]])) (i : Int) : evRound T (Ep (Er_sameI)) (Ln (Lr_same)) (loopAt 0 (loops (bodyOf Try.f11))) (lsr_same_0) [.val (.d (.sl [.sl [.int .i64], .sl [.int .i64]] a)), .val (.d (.sl [.sl [.int .i64], .sl [.int .i64]] b)), .val (.d (.int .i64 i))] =
    br (decide (i < (↑a.length : Int))) (chk ((0 : Int) ≤ i ∧ i < (↑a.length : Int)) (chk ((0 : Int) ≤ i ∧ i < (↑b.length : Int)) (chk (List.length (getR grS a i).fst ≤ (140737488355328 : Nat)) (br (!sameI (getR grS a i).fst (getR grS b i).fst) (some (Rnd.out Ex.ret [SV.val (AV.d (D.bool false))])) (chk ((0 : Int) ≤ i ∧ i < (↑a.length : Int)) (chk ((0 : Int) ≤ i ∧ i < (↑b.length : Int)) (chk (List.length (getR grS a i).snd.fst ≤ (140737488355328 : Nat)) (br (!sameI (getR grS a i).snd.fst (getR grS b i).snd.fst) (some (Rnd.out Ex.ret [SV.val (AV.d (D.bool false))])) (some (Rnd.again [SV.val (AV.d (D.sl grS a)), SV.val (AV.d (D.sl grS b)), SV.val (AV.d (D.int IntKind.i64 (IntKind.i64.wrap (i + (1 : Int)))))])))))))))) (some (Rnd.out (Ex.exit (0 : Nat)) [])) := by kernel_rfl
theorem lokr_same_0 : LoopOK T (Ep (Er_sameI)) (Ln (Lr_same)) (loopAt 0 (loops (bodyOf Try.f11))) := by
  refine loop_ok (live := [0, 1, 5]) (outs := []) (rets := [4]) (ks := [.v false [.sl [.sl [.int .i64], .sl [.int .i64]]], .v false [.sl [.sl [.int .i64], .sl [.int .i64]]], .v false [.int .i64]]) (G := lgr_same_0) (lkr_same_0) (lmr_same_0) (by kernel_rfl) ?_
  rintro ⟨⟨(a : List (RowE [.sl [.int .i64], .sl [.int .i64]])), _⟩, ⟨(b : List (RowE [.sl [.int .i64], .sl [.int .i64]])), _⟩, ⟨(i : Int), _⟩, _⟩ x hok hx
  refine Leads.of_eq (ltr_same_0 a b i) ?_
  obtain ⟨h0, h1, h2, h3, h4⟩ := hok
  obtain ⟨m, rfl⟩ := Int.eq_ofNat_of_zero_le h0
  simp only [lgr_same_0, Int.toNat_natCast] at hx
  rcases drop_cases a m with ⟨hle, hd⟩ | ⟨x1, hlt, hd, hb⟩
  · have hd2 : List.drop m b = [] := List.drop_of_length_le (by omega)
    rw [hd, hd2] at hx
    exact Leads.brD (fun q => by omega) (fun _ => Leads.one (Goes.out (Out_leaf (Out_tt hx))))
  rcases drop_cases b m with ⟨hle2, _⟩ | ⟨y1, hlt2, hd2, hb2⟩
  · omega
  rw [hd, hd2, sameG, sameG1] at hx
  have hs := h4 x1 (List.mem_of_getElem? hb)
  rw [getR_of hb, getR_of hb2, wrap64 (x := (m : Int) + 1) (by omega) (by omega)]
  refine Leads.brD (fun _ => Leads.chk (by omega) fun _ => Leads.chk (by omega) fun _ => Leads.chk (show _ ≤ _ from by have := hs.1; omega) fun _ => Leads.br (fun w => Leads.one (Goes.out ?_)) (fun w => Leads.chk (by omega) fun _ => Leads.chk (by omega) fun _ => Leads.chk (show _ ≤ _ from by have := hs.2; omega) fun _ => Leads.br (fun w2 => Leads.one (Goes.out ?_)) (fun w2 => Leads.one ?_))) (fun q => by omega)
  · have w : sameI x1.1 y1.1 = false := by simpa using w
    rw [w, Bool.false_and, Bool.false_and] at hx
    exact Out_leaf (Out_ff hx)
  · have w : sameI x1.1 y1.1 = true := by simpa using w
    have w2 : sameI x1.2.1 y1.2.1 = false := by simpa using w2
    rw [w, w2, Bool.true_and, Bool.false_and] at hx
    exact Out_leaf (Out_ff hx)
  · have w : sameI x1.1 y1.1 = true := by simpa using w
    have w2 : sameI x1.2.1 y1.2.1 = true := by simpa using w2
    rw [w, w2, Bool.true_and, Bool.true_and] at hx
    refine Goes.again (ks := [.v false [.sl [.sl [.int .i64], .sl [.int .i64]]], .v false [.sl [.sl [.int .i64], .sl [.int .i64]]], .v false [.int .i64]]) ((_, ()), (_, ()), (_, ()), ()) rfl ?_ ?_ ?_
    · exact ⟨by omega, by omega, h2, h3, h4⟩
    · simp only [lmr_same_0]; omega
    · simp only [lgr_same_0, toNat_add1]; exact hx
theorem tr_same (a : List (RowE [.sl [.int .i64], .sl [.int .i64]])) (b : List (RowE [.sl [.int .i64], .sl [.int .i64]])) : evF T (Ep (Er_sameI)) (Ln (Lr_same)) Try.f11 [.d (.sl [.sl [.int .i64], .sl [.int .i64]] a), .d (.sl [.sl [.int .i64], .sl [.int .i64]] b)] =
    br ((↑a.length : Int) != (↑b.length : Int)) (some (SV.val (AV.d (D.bool false)))) (chk (lkr_same_0 ((a, ()), (b, ()), ((0 : Int), ()), ())) (br (sameG (List.drop (Int.toNat (0 : Int)) a) (List.drop (Int.toNat (0 : Int)) b)) (some (SV.val (AV.d (D.bool true)))) (some (SV.val (AV.d (D.bool false)))))) := by kernel_rfl
theorem satr_same : Sat P 11 (Sr_same) := by
  refine sat_mk (LT := Ln (Lr_same)) hC (SatE.ep okr_sameI) mixed Try.func11 (by kernel_rfl) (c := bodyOf Try.f11) (by kernel_rfl) (by kernel_rfl) ?_ (loops1 (by kernel_rfl) (lokr_same_0))
  rintro ⟨⟨(a : List (RowE [.sl [.int .i64], .sl [.int .i64]])), _⟩, ⟨(b : List (RowE [.sl [.int .i64], .sl [.int .i64]])), _⟩, _⟩ sv h
  refine Leads.eq (Leads.of_eq (tr_same a b) ?_)
  obtain ⟨⟨h1, h2⟩, h⟩ := h
  obtain rfl := Out_leaf h
  refine Leads.br (fun w => Leads.one ?_) (fun w => Leads.chk ⟨by omega, by omega, ?_, h1, h2⟩ fun _ => Leads.br (fun w2 => Leads.one ?_) (fun w2 => Leads.one ?_))
  · rw [sameG_len (by have : ¬ (a.length : Int) = b.length := by simpa using w
                      omega)]
  · have : (a.length : Int) = b.length := by simpa using w
    omega
  · rw [show sameG a b = true from w2]
  · rw [show sameG a b = false from w2]
def Er_same : Es := (11, (Sr_same)) :: Er_sameI
theorem okr_same : SatE P (En (Er_same)) := SatE.cons (satr_same) okr_sameI
/-! ### legation/legationref20.Points -/
def lkr_points_0 : St [.v false [.sl [.sl [.bool]]], .v false [.int .i64], .a [.sl [.int .i64]], .v false [.int .i64]] → Prop := fun ⟨⟨(answers : List (RowE [.sl [.bool]])), _⟩, ⟨(points : Int), _⟩, (out : List (RowE [.sl [.int .i64]])), ⟨(i : Int), _⟩, _⟩ => 0 ≤ i ∧ i ≤ (answers.length : Int) ∧ answers.length ≤ 5864062014805 ∧ (out.length : Int) ≤ i ∧ 0 ≤ points ∧ points ≤ 8
def lgr_points_0 : St [.v false [.sl [.sl [.bool]]], .v false [.int .i64], .a [.sl [.int .i64]], .v false [.int .i64]] → Tr (Ex × List SV) := fun ⟨⟨(answers : List (RowE [.sl [.bool]])), _⟩, ⟨(points : Int), _⟩, (out : List (RowE [.sl [.int .i64]])), ⟨(i : Int), _⟩, _⟩ => .br ((answers.drop i.toNat).all (lenIs points)) (.leaf (.exit 0, [.app [.sl [.int .i64]] (out ++ (answers.drop i.toNat).map rowP)])) (.leaf (.ret, [.app [.sl [.int .i64]] ([]), .val (.d (.int .i64 (2)))]))
def lmr_points_0 : St [.v false [.sl [.sl [.bool]]], .v false [.int .i64], .a [.sl [.int .i64]], .v false [.int .i64]] → Nat := fun ⟨⟨(answers : List (RowE [.sl [.bool]])), _⟩, ⟨(points : Int), _⟩, (out : List (RowE [.sl [.int .i64]])), ⟨(i : Int), _⟩, _⟩ => answers.length - i.toNat
def lsr_points_0 : LoopS := mkR [0, 1, 6, 7] [6] [4, 5] [.v false [.sl [.sl [.bool]]], .v false [.int .i64], .a [.sl [.int .i64]], .v false [.int .i64]] (fun r => .chk (lkr_points_0 r) (lgr_points_0 r))
def lkr_points_1 : St [.v false [.sl [.sl [.bool]]], .v false [.int .i64], .v false [.int .i64], .a [.int .i64], .v false [.int .i64]] → Prop := fun ⟨⟨(answers : List (RowE [.sl [.bool]])), _⟩, ⟨(points : Int), _⟩, ⟨(i : Int), _⟩, (one : List (RowE [.int .i64])), ⟨(k : Int), _⟩, _⟩ => 0 ≤ k ∧ k ≤ points ∧ 0 ≤ i ∧ points ≤ 8 ∧ i < (answers.length : Int) ∧ (((getR [.sl [.bool]] answers i).1 : List (RowE [.bool])).length : Int) = points ∧ (one.length : Int) ≤ k
def lgr_points_1 : St [.v false [.sl [.sl [.bool]]], .v false [.int .i64], .v false [.int .i64], .a [.int .i64], .v false [.int .i64]] → Tr (Ex × List SV) := fun ⟨⟨(answers : List (RowE [.sl [.bool]])), _⟩, ⟨(points : Int), _⟩, ⟨(i : Int), _⟩, (one : List (RowE [.int .i64])), ⟨(k : Int), _⟩, _⟩ => .leaf (.exit 2, [.val (.d (.sl [.sl [.bool]] (answers))), .val (.d (.int .i64 (points))), .val (.d (.int .i64 (i))), .app [.int .i64] (one ++ trueAt ((getR [.sl [.bool]] answers i).1.drop k.toNat) k)])
def lmr_points_1 : St [.v false [.sl [.sl [.bool]]], .v false [.int .i64], .v false [.int .i64], .a [.int .i64], .v false [.int .i64]] → Nat := fun ⟨⟨(answers : List (RowE [.sl [.bool]])), _⟩, ⟨(points : Int), _⟩, ⟨(i : Int), _⟩, (one : List (RowE [.int .i64])), ⟨(k : Int), _⟩, _⟩ => points.toNat - k.toNat
def lsr_points_1 : LoopS := mkR [0, 1, 7, 8, 9] [0, 1, 7, 8] [] [.v false [.sl [.sl [.bool]]], .v false [.int .i64], .v false [.int .i64], .a [.int .i64], .v false [.int .i64]] (fun r => .chk (lkr_points_1 r) (lgr_points_1 r))
def Lr_points : Ls := [(5, lsr_points_0), (11, lsr_points_1)]
def Sr_points := mkS [(false, [.sl [.sl [.bool]]]), (false, [.int .i64])] fun ⟨⟨(answers : List (RowE [.sl [.bool]])), _⟩, ⟨(points : Int), _⟩, _⟩ => .chk (answers.length ≤ 5864062014805) (.leaf (.val (.tup [.d (.sl [.sl [.int .i64]] (pointsP answers points).1), .d (.int .i64 (pointsP answers points).2)])))
theorem ltr_points_0 (answers : List (RowE [.sl [.bool]])) (points : Int) (out : List (RowE [.sl [.int .i64]])) (i : Int) : evRound T (Ep (Er_same)) (Ln (Lr_points)) (loopAt 0 (loops (bodyOf Try.f16))) (lsr_points_0) [.val (.d (.sl [.sl [.bool]] answers)), .val (.d (.int .i64 points)), .app [.sl [.int .i64]] out, .val (.d (.int .i64 i))] =
    br (decide (i < (↑answers.length : Int))) (chk ((0 : Int) ≤ i ∧ i < (↑answers.length : Int)) (br ((↑(List.length (getR [Sh.sl [Sh.bool]] answers i).fst) : Int) != points) (some (Rnd.out Ex.ret [SV.app [Sh.sl [Sh.int IntKind.i64]] [], SV.val (AV.d (D.int IntKind.i64 (2 : Int)))])) (chk (lkr_points_1 ((answers, ()), (points, ()), (i, ()), [], ((0 : Int), ()), ())) (chk (((↑out.length : Int) + (↑[([] ++ trueAt (List.drop (Int.toNat (0 : Int)) (getR [Sh.sl [Sh.bool]] answers i).fst) (0 : Int), ())].length : Int)) * (↑(24 : Nat) : Int) < lim) (some (Rnd.again [SV.val (AV.d (D.sl [Sh.sl [Sh.bool]] answers)), SV.val (AV.d (D.int IntKind.i64 points)), SV.app [Sh.sl [Sh.int IntKind.i64]] (out ++ [([] ++ trueAt (List.drop (Int.toNat (0 : Int)) (getR [Sh.sl [Sh.bool]] answers i).fst) (0 : Int), ())]), SV.val (AV.d (D.int IntKind.i64 (IntKind.i64.wrap (i + (1 : Int)))))])))))) (some (Rnd.out (Ex.exit (0 : Nat)) [SV.app [Sh.sl [Sh.int IntKind.i64]] out])) := by kernel_rfl
theorem lokr_points_0 : LoopOK T (Ep (Er_same)) (Ln (Lr_points)) (loopAt 0 (loops (bodyOf Try.f16))) := by
  refine loop_ok (live := [0, 1, 6, 7]) (outs := [6]) (rets := [4, 5]) (ks := [.v false [.sl [.sl [.bool]]], .v false [.int .i64], .a [.sl [.int .i64]], .v false [.int .i64]]) (G := lgr_points_0) (lkr_points_0) (lmr_points_0) (by kernel_rfl) ?_
  rintro ⟨⟨(answers : List (RowE [.sl [.bool]])), _⟩, ⟨(points : Int), _⟩, (out : List (RowE [.sl [.int .i64]])), ⟨(i : Int), _⟩, _⟩ x hok hx
  refine Leads.of_eq (ltr_points_0 answers points out i) ?_
  obtain ⟨h0, h1, h3, h4, h5, h6⟩ := hok
  obtain ⟨m, rfl⟩ := Int.eq_ofNat_of_zero_le h0
  simp only [lgr_points_0, Int.toNat_natCast] at hx
  rcases drop_cases answers m with ⟨hle, hd⟩ | ⟨x1, hlt, hd, hb⟩
  · rw [hd] at hx
    exact Leads.brD (fun q => by omega) (fun _ => Leads.one (Goes.out (by have := Out_leaf (Out_tt hx); rw [List.map_nil, List.append_nil] at this; exact this)))
  rw [hd, List.all_cons] at hx
  rw [getR_of hb, wrap64 (x := (m : Int) + 1) (by omega) (by omega)]
  refine Leads.brD (fun _ => Leads.chk (by omega) fun _ => Leads.br (fun w => Leads.one (Goes.out ?_)) (fun w => ?_)) (fun q => by omega)
  · have w : lenIs points x1 = false := by unfold lenIs; exact decide_eq_false (by simpa using w)
    rw [w, Bool.false_and] at hx
    exact Out_leaf (Out_ff hx)
  · have w : ((x1.1 : List (RowE [.bool])).length : Int) = points := by simpa using w
    have w2 : lenIs points x1 = true := decide_eq_true w
    rw [w2, Bool.true_and, List.map_cons] at hx
    refine Leads.chk ⟨by omega, by omega, by omega, h6, by omega, by rw [getR_of hb]; exact w, by simp⟩ fun _ => Leads.chk (by simp only [lim, List.length_cons, List.length_nil]; omega) fun _ => Leads.one ?_
    refine Goes.again (ks := [.v false [.sl [.sl [.bool]]], .v false [.int .i64], .a [.sl [.int .i64]], .v false [.int .i64]]) ((_, ()), (_, ()), _, (_, ()), ()) rfl ?_ ?_ ?_
    · exact ⟨by omega, by omega, h3, by rw [List.length_append]; simp only [List.length_cons, List.length_nil]; omega, h5, h6⟩
    · simp only [lmr_points_0]; omega
    · simp only [lgr_points_0, toNat_add1]
      rw [List.append_assoc]; exact hx
theorem ltr_points_1 (answers : List (RowE [.sl [.bool]])) (points : Int) (i : Int) (one : List (RowE [.int .i64])) (k : Int) : evRound T (Ep (Er_same)) (Ln (Lr_points)) (loopAt 1 (loops (bodyOf Try.f16))) (lsr_points_1) [.val (.d (.sl [.sl [.bool]] answers)), .val (.d (.int .i64 points)), .val (.d (.int .i64 i)), .app [.int .i64] one, .val (.d (.int .i64 k))] =
    br (decide (k < points)) (chk ((0 : Int) ≤ i ∧ i < (↑answers.length : Int)) (chk ((0 : Int) ≤ k ∧ k < (↑(List.length (getR [Sh.sl [Sh.bool]] answers i).fst) : Int)) (br (getR [Sh.bool] (getR [Sh.sl [Sh.bool]] answers i).fst k).fst (chk (((↑one.length : Int) + (↑[(k, ())].length : Int)) * (↑(8 : Nat) : Int) < lim) (some (Rnd.again [SV.val (AV.d (D.sl [Sh.sl [Sh.bool]] answers)), SV.val (AV.d (D.int IntKind.i64 points)), SV.val (AV.d (D.int IntKind.i64 i)), SV.app [Sh.int IntKind.i64] (one ++ [(k, ())]), SV.val (AV.d (D.int IntKind.i64 (IntKind.i64.wrap (k + (1 : Int)))))]))) (some (Rnd.again [SV.val (AV.d (D.sl [Sh.sl [Sh.bool]] answers)), SV.val (AV.d (D.int IntKind.i64 points)), SV.val (AV.d (D.int IntKind.i64 i)), SV.app [Sh.int IntKind.i64] one, SV.val (AV.d (D.int IntKind.i64 (IntKind.i64.wrap (k + (1 : Int)))))]))))) (some (Rnd.out (Ex.exit (2 : Nat)) [SV.val (AV.d (D.sl [Sh.sl [Sh.bool]] answers)), SV.val (AV.d (D.int IntKind.i64 points)), SV.val (AV.d (D.int IntKind.i64 i)), SV.app [Sh.int IntKind.i64] one])) := by kernel_rfl
theorem lokr_points_1 : LoopOK T (Ep (Er_same)) (Ln (Lr_points)) (loopAt 1 (loops (bodyOf Try.f16))) := by
  refine loop_ok (live := [0, 1, 7, 8, 9]) (outs := [0, 1, 7, 8]) (rets := []) (ks := [.v false [.sl [.sl [.bool]]], .v false [.int .i64], .v false [.int .i64], .a [.int .i64], .v false [.int .i64]]) (G := lgr_points_1) (lkr_points_1) (lmr_points_1) (by kernel_rfl) ?_
  rintro ⟨⟨(answers : List (RowE [.sl [.bool]])), _⟩, ⟨(points : Int), _⟩, ⟨(i : Int), _⟩, (one : List (RowE [.int .i64])), ⟨(k : Int), _⟩, _⟩ x hok hx
  refine Leads.of_eq (ltr_points_1 answers points i one k) ?_
  obtain ⟨h0, h1, h2, h3, h4, h5, h6⟩ := hok
  obtain ⟨m, rfl⟩ := Int.eq_ofNat_of_zero_le h0
  simp only [lgr_points_1, Int.toNat_natCast] at hx
  rcases drop_cases ((getR [.sl [.bool]] answers i).1 : List (RowE [.bool])) m with ⟨hle, hd⟩ | ⟨x1, hlt, hd, hb⟩
  · rw [hd, trueAt, List.append_nil] at hx
    exact Leads.brD (fun q => by omega) (fun _ => Leads.one (Goes.out (Out_leaf hx)))
  rw [hd, trueAt] at hx
  rw [getR_of hb, wrap64 (x := (m : Int) + 1) (by omega) (by omega)]
  refine Leads.brD (fun _ => Leads.chk (by omega) fun _ => Leads.chk (by omega) fun _ => Leads.br (fun w => Leads.chk (by simp only [lim, List.length_cons, List.length_nil]; omega) fun _ => Leads.one ?_) (fun w => Leads.one ?_)) (fun q => by omega)
  · have w : (x1.1 : Bool) = true := w
    rw [w, cond_true] at hx
    refine Goes.again (ks := [.v false [.sl [.sl [.bool]]], .v false [.int .i64], .v false [.int .i64], .a [.int .i64], .v false [.int .i64]]) ((_, ()), (_, ()), (_, ()), _, (_, ()), ()) rfl ?_ ?_ ?_
    · exact ⟨by omega, by omega, h2, h3, h4, h5, by rw [List.length_append]; simp only [List.length_cons, List.length_nil]; omega⟩
    · simp only [lmr_points_1]; omega
    · simp only [lgr_points_1, toNat_add1]
      rw [List.append_assoc]; exact hx
  · have w : (x1.1 : Bool) = false := w
    rw [w, cond_false, List.nil_append] at hx
    refine Goes.again (ks := [.v false [.sl [.sl [.bool]]], .v false [.int .i64], .v false [.int .i64], .a [.int .i64], .v false [.int .i64]]) ((_, ()), (_, ()), (_, ()), _, (_, ()), ()) rfl ?_ ?_ ?_
    · exact ⟨by omega, by omega, h2, h3, h4, h5, by omega⟩
    · simp only [lmr_points_1]; omega
    · simp only [lgr_points_1, toNat_add1]; exact hx
theorem tr_points (answers : List (RowE [.sl [.bool]])) (points : Int) : evF T (Ep (Er_same)) (Ln (Lr_points)) Try.f16 [.d (.sl [.sl [.bool]] answers), .d (.int .i64 points)] =
    br (decide (points < (0 : Int))) (some (SV.val (AV.tup [AV.d (D.sl [Sh.sl [Sh.int IntKind.i64]] []), AV.d (D.int IntKind.i64 (1 : Int))]))) (br (decide (points > (8 : Int))) (some (SV.val (AV.tup [AV.d (D.sl [Sh.sl [Sh.int IntKind.i64]] []), AV.d (D.int IntKind.i64 (1 : Int))]))) (chk (lkr_points_0 ((answers, ()), (points, ()), [], ((0 : Int), ()), ())) (br ((List.drop (Int.toNat (0 : Int)) answers).all (lenIs points)) (some (SV.val (AV.tup [AV.d (D.sl [Sh.sl [Sh.int IntKind.i64]] ([] ++ List.map rowP (List.drop (Int.toNat (0 : Int)) answers))), AV.d (D.int IntKind.i64 (0 : Int))]))) (some (SV.val (AV.tup [AV.d (D.sl [Sh.sl [Sh.int IntKind.i64]] []), AV.d (D.int IntKind.i64 (2 : Int))])))))) := by kernel_rfl
theorem satr_points : Sat P 16 (Sr_points) := by
  refine sat_mk (LT := Ln (Lr_points)) hC (SatE.ep okr_same) mixed Try.func16 (by kernel_rfl) (c := bodyOf Try.f16) (by kernel_rfl) (by kernel_rfl) ?_ (loops2 (by kernel_rfl) (lokr_points_0) (lokr_points_1))
  rintro ⟨⟨(answers : List (RowE [.sl [.bool]])), _⟩, ⟨(points : Int), _⟩, _⟩ sv h
  refine Leads.eq (Leads.of_eq (tr_points answers points) ?_)
  obtain ⟨h1, h⟩ := h
  obtain rfl := Out_leaf h
  unfold pointsP
  refine Leads.brD (fun w => Leads.one ?_) (fun w => Leads.brD (fun w2 => Leads.one ?_) (fun w2 => Leads.chk ⟨by omega, by omega, h1, by simp, by omega, by omega⟩ fun _ => Leads.br (fun w3 => Leads.one ?_) (fun w3 => Leads.one ?_)))
  · rw [if_pos (.inl w)]
  · rw [if_pos (.inr w2)]
  · rw [if_neg (by omega), show answers.all (lenIs points) = true from w3]; rfl
  · rw [if_neg (by omega), show answers.all (lenIs points) = false from w3]; rfl
def Er_points : Es := (16, (Sr_points)) :: Er_same
theorem okr_points : SatE P (En (Er_points)) := SatE.cons (satr_points) okr_same
/-! ### legation/legationref20.shared -/
def lkr_shared_0 : St [.a [.str], .a [.str], .v false [.int .i64]] → Prop := fun ⟨(a : List (RowE [.str])), (b : List (RowE [.str])), ⟨(n : Int), _⟩, _⟩ => 0 ≤ n ∧ n ≤ (a.length : Int) ∧ a.length ≤ 140737488355328 ∧ b.length ≤ 140737488355328
def lgr_shared_0 : St [.a [.str], .a [.str], .v false [.int .i64]] → Tr (Ex × List SV) := fun ⟨(a : List (RowE [.str])), (b : List (RowE [.str])), ⟨(n : Int), _⟩, _⟩ => .br ((a.drop n.toNat).any fun v => hasS b v.1) (.leaf (.ret, [.val (.d (.bool  (true)))])) (.leaf (.exit 0, []))
def lmr_shared_0 : St [.a [.str], .a [.str], .v false [.int .i64]] → Nat := fun ⟨(a : List (RowE [.str])), (b : List (RowE [.str])), ⟨(n : Int), _⟩, _⟩ => a.length - n.toNat
def lsr_shared_0 : LoopS := mkR [7, 8, 9] [] [6] [.a [.str], .a [.str], .v false [.int .i64]] (fun r => .chk (lkr_shared_0 r) (lgr_shared_0 r))
def Lr_shared : Ls := [(6, lsr_shared_0)]
def Sr_shared := mkS [(false, [.sl [.int .i64, .str, .str, .str, .int .i64, .str, .str, .str, .int .i64, .str, .str, .str]]), (false, [.int .i64]), (false, [.int .i64])] fun ⟨⟨(l : List (RowE [.int .i64, .str, .str, .str, .int .i64, .str, .str, .str, .int .i64, .str, .str, .str])), _⟩, ⟨(i : Int), _⟩, ⟨(k : Int), _⟩, _⟩ => .leaf (.val (.d (.bool (sharedP l (i, ()) (k, ())))))
theorem ltr_shared_0 (a : List (RowE [.str])) (b : List (RowE [.str])) (n : Int) : evRound T (Ep (Er_points)) (Ln (Lr_shared)) (loopAt 0 (loops (bodyOf Try.f40))) (lsr_shared_0) [.app [.str] a, .app [.str] b, .val (.d (.int .i64 n))] =
    br (decide (n < (↑a.length : Int))) (chk ((0 : Int) ≤ n ∧ n < (↑a.length : Int)) (chk (b.length ≤ (140737488355328 : Nat)) (br (hasS b (getR [Sh.str] a n).fst) (some (Rnd.out Ex.ret [SV.val (AV.d (D.bool true))])) (some (Rnd.again [SV.app [Sh.str] a, SV.app [Sh.str] b, SV.val (AV.d (D.int IntKind.i64 (IntKind.i64.wrap (n + (1 : Int)))))]))))) (some (Rnd.out (Ex.exit (0 : Nat)) [])) := by kernel_rfl
theorem lokr_shared_0 : LoopOK T (Ep (Er_points)) (Ln (Lr_shared)) (loopAt 0 (loops (bodyOf Try.f40))) := by
  refine loop_ok (live := [7, 8, 9]) (outs := []) (rets := [6]) (ks := [.a [.str], .a [.str], .v false [.int .i64]]) (G := lgr_shared_0) (lkr_shared_0) (lmr_shared_0) (by kernel_rfl) ?_
  rintro ⟨(a : List (RowE [.str])), (b : List (RowE [.str])), ⟨(n : Int), _⟩, _⟩ x hok hx
  refine Leads.of_eq (ltr_shared_0 a b n) ?_
  obtain ⟨h0, h1, h2, h3⟩ := hok
  obtain ⟨m, rfl⟩ := Int.eq_ofNat_of_zero_le h0
  simp only [lgr_shared_0, Int.toNat_natCast] at hx
  rcases drop_cases a m with ⟨hle, hd⟩ | ⟨x1, hlt, hd, hb⟩
  · rw [hd] at hx
    exact Leads.brD (fun q => by omega) (fun _ => Leads.one (Goes.out (Out_leaf (Out_ff hx))))
  rw [hd, List.any_cons] at hx
  rw [getR_of hb, wrap64 (x := (m : Int) + 1) (by omega) (by omega)]
  refine Leads.brD (fun _ => Leads.chk (by omega) fun _ => Leads.chk h3 fun _ => Leads.br (fun w => Leads.one (Goes.out ?_)) (fun w => Leads.one ?_)) (fun q => by omega)
  · have w : hasS b x1.1 = true := w
    rw [w, Bool.true_or] at hx
    exact Out_leaf (Out_tt hx)
  · have w : hasS b x1.1 = false := w
    rw [w, Bool.false_or] at hx
    refine Goes.again (ks := [.a [.str], .a [.str], .v false [.int .i64]]) (_, _, (_, ()), ()) rfl ?_ ?_ ?_
    · exact ⟨by omega, by omega, h2, h3⟩
    · simp only [lmr_shared_0]; omega
    · simp only [lgr_shared_0, toNat_add1]; exact hx
theorem tr_shared (l : List (RowE [.int .i64, .str, .str, .str, .int .i64, .str, .str, .str, .int .i64, .str, .str, .str])) (i : Int) (k : Int) : evF T (Ep (Er_points)) (Ln (Lr_shared)) Try.f40 [.d (.sl [.int .i64, .str, .str, .str, .int .i64, .str, .str, .str, .int .i64, .str, .str, .str] l), .d (.int .i64 i), .d (.int .i64 k)] =
    br (decide (i < (0 : Int))) (some (SV.val (AV.d (D.bool false)))) (br (decide (i ≥ (↑l.length : Int))) (some (SV.val (AV.d (D.bool false)))) (br (decide (k < (0 : Int))) (some (SV.val (AV.d (D.bool false)))) (br (decide (k ≥ (↑l.length : Int))) (some (SV.val (AV.d (D.bool false)))) (chk ((0 : Int) ≤ i ∧ i < (↑l.length : Int)) (chk ((0 : Int) ≤ k ∧ k < (↑l.length : Int)) (chk (lkr_shared_0 (varsS (getR t3S l i), varsS (getR t3S l k), ((0 : Int), ()), ())) (br ((List.drop (Int.toNat (0 : Int)) (varsS (getR t3S l i))).any fun v => hasS (varsS (getR t3S l k)) v.fst) (some (SV.val (AV.d (D.bool true)))) (some (SV.val (AV.d (D.bool false))))))))))) := by kernel_rfl
theorem satr_shared : Sat P 40 (Sr_shared) := by
  refine sat_mk (LT := Ln (Lr_shared)) hC (SatE.ep okr_points) mixed Try.func40 (by kernel_rfl) (c := bodyOf Try.f40) (by kernel_rfl) (by kernel_rfl) ?_ (loops1 (by kernel_rfl) (lokr_shared_0))
  rintro ⟨⟨(l : List (RowE [.int .i64, .str, .str, .str, .int .i64, .str, .str, .str, .int .i64, .str, .str, .str])), _⟩, ⟨(i : Int), _⟩, ⟨(k : Int), _⟩, _⟩ sv h
  refine Leads.eq (Leads.of_eq (tr_shared l i k) ?_)
  obtain rfl := Out_leaf h
  unfold sharedP
  have ei : inR l (i, ()) = (decide (0 ≤ i) && decide (i < l.length)) := rfl
  have ek : inR l (k, ()) = (decide (0 ≤ k) && decide (k < l.length)) := rfl
  have v1 := varsS_len (getR t3S l i)
  have v2 := varsS_len (getR t3S l k)
  rw [ei, ek]
  refine Leads.brD (fun w => Leads.one ?_) (fun w => Leads.brD (fun w2 => Leads.one ?_) (fun w2 => Leads.brD (fun w3 => Leads.one ?_) (fun w3 => Leads.brD (fun w4 => Leads.one ?_) (fun w4 => Leads.chk (by omega) fun _ => Leads.chk (by omega) fun _ => Leads.chk ⟨by omega, Int.natCast_nonneg _, by omega, by omega⟩ fun _ => Leads.br (fun w5 => Leads.one ?_) (fun w5 => Leads.one ?_)))))
  · rw [decide_eq_false (show ¬ (0 : Int) ≤ i by omega)]; simp only [Bool.false_and]
  · rw [decide_eq_false (show ¬ i < (l.length : Int) by omega)]; simp only [Bool.false_and, Bool.and_false]
  · rw [decide_eq_false (show ¬ (0 : Int) ≤ k by omega)]; simp only [Bool.false_and, Bool.and_false]
  · rw [decide_eq_false (show ¬ k < (l.length : Int) by omega)]; simp only [Bool.false_and, Bool.and_false]
  · have w5 : ((varsS (getR t3S l i)).any fun v => hasS (varsS (getR t3S l k)) v.1) = true := w5
    rw [w5, decide_eq_true (show (0 : Int) ≤ i by omega), decide_eq_true (show i < (l.length : Int) by omega), decide_eq_true (show (0 : Int) ≤ k by omega), decide_eq_true (show k < (l.length : Int) by omega)]; rfl
  · have w5 : ((varsS (getR t3S l i)).any fun v => hasS (varsS (getR t3S l k)) v.1) = false := w5
    rw [w5, Bool.and_false]
def Er_shared : Es := (40, (Sr_shared)) :: Er_points
theorem okr_shared : SatE P (En (Er_shared)) := SatE.cons (satr_shared) okr_points
/-! ### legation/legationref20.Touch -/
def lkr_touch_0 : St [.v false [.sl [.int .i64, .str, .str, .str, .int .i64, .str, .str, .str, .int .i64, .str, .str, .str]], .box [.v (.sl [.int .i64]), .v (.sl [.int .i64])], .box [.v (.sl [.int .i64]), .v (.sl [.int .i64])], .v false [.int .i64]] → Prop := fun ⟨⟨(l : List (RowE [.int .i64, .str, .str, .str, .int .i64, .str, .str, .str, .int .i64, .str, .str, .str])), _⟩, (a : KCs [.v (.sl [.int .i64]), .v (.sl [.int .i64])]), (b : KCs [.v (.sl [.int .i64]), .v (.sl [.int .i64])]), ⟨(i : Int), _⟩, _⟩ => 0 ≤ i ∧ i ≤ ((a.1 : List Nt).length : Int) ∧ (a.1 : List Nt).length ≤ 2000000 ∧ (b.1 : List Nt).length ≤ 2000000
def lgr_touch_0 : St [.v false [.sl [.int .i64, .str, .str, .str, .int .i64, .str, .str, .str, .int .i64, .str, .str, .str]], .box [.v (.sl [.int .i64]), .v (.sl [.int .i64])], .box [.v (.sl [.int .i64]), .v (.sl [.int .i64])], .v false [.int .i64]] → Tr (Ex × List SV) := fun ⟨⟨(l : List (RowE [.int .i64, .str, .str, .str, .int .i64, .str, .str, .str, .int .i64, .str, .str, .str])), _⟩, (a : KCs [.v (.sl [.int .i64]), .v (.sl [.int .i64])]), (b : KCs [.v (.sl [.int .i64]), .v (.sl [.int .i64])]), ⟨(i : Int), _⟩, _⟩ => .br (((a.1 : List Nt).drop i.toNat).any fun i => (b.1 : List Nt).any fun k => sharedP l i k) (.leaf (.ret, [.val (.d (.bool  (true)))])) (.leaf (.exit 0, []))
def lmr_touch_0 : St [.v false [.sl [.int .i64, .str, .str, .str, .int .i64, .str, .str, .str, .int .i64, .str, .str, .str]], .box [.v (.sl [.int .i64]), .v (.sl [.int .i64])], .box [.v (.sl [.int .i64]), .v (.sl [.int .i64])], .v false [.int .i64]] → Nat := fun ⟨⟨(l : List (RowE [.int .i64, .str, .str, .str, .int .i64, .str, .str, .str, .int .i64, .str, .str, .str])), _⟩, (a : KCs [.v (.sl [.int .i64]), .v (.sl [.int .i64])]), (b : KCs [.v (.sl [.int .i64]), .v (.sl [.int .i64])]), ⟨(i : Int), _⟩, _⟩ => (a.1 : List Nt).length - i.toNat
def lsr_touch_0 : LoopS := mkR [0, 4, 5, 7] [] [6] [.v false [.sl [.int .i64, .str, .str, .str, .int .i64, .str, .str, .str, .int .i64, .str, .str, .str]], .box [.v (.sl [.int .i64]), .v (.sl [.int .i64])], .box [.v (.sl [.int .i64]), .v (.sl [.int .i64])], .v false [.int .i64]] (fun r => .chk (lkr_touch_0 r) (lgr_touch_0 r))
def lkr_touch_1 : St [.v false [.sl [.int .i64, .str, .str, .str, .int .i64, .str, .str, .str, .int .i64, .str, .str, .str]], .box [.v (.sl [.int .i64]), .v (.sl [.int .i64])], .box [.v (.sl [.int .i64]), .v (.sl [.int .i64])], .v false [.int .i64], .v false [.int .i64]] → Prop := fun ⟨⟨(l : List (RowE [.int .i64, .str, .str, .str, .int .i64, .str, .str, .str, .int .i64, .str, .str, .str])), _⟩, (a : KCs [.v (.sl [.int .i64]), .v (.sl [.int .i64])]), (b : KCs [.v (.sl [.int .i64]), .v (.sl [.int .i64])]), ⟨(i : Int), _⟩, ⟨(k : Int), _⟩, _⟩ => 0 ≤ k ∧ k ≤ ((b.1 : List Nt).length : Int) ∧ 0 ≤ i ∧ i < ((a.1 : List Nt).length : Int) ∧ (a.1 : List Nt).length ≤ 2000000 ∧ (b.1 : List Nt).length ≤ 2000000
def lgr_touch_1 : St [.v false [.sl [.int .i64, .str, .str, .str, .int .i64, .str, .str, .str, .int .i64, .str, .str, .str]], .box [.v (.sl [.int .i64]), .v (.sl [.int .i64])], .box [.v (.sl [.int .i64]), .v (.sl [.int .i64])], .v false [.int .i64], .v false [.int .i64]] → Tr (Ex × List SV) := fun ⟨⟨(l : List (RowE [.int .i64, .str, .str, .str, .int .i64, .str, .str, .str, .int .i64, .str, .str, .str])), _⟩, (a : KCs [.v (.sl [.int .i64]), .v (.sl [.int .i64])]), (b : KCs [.v (.sl [.int .i64]), .v (.sl [.int .i64])]), ⟨(i : Int), _⟩, ⟨(k : Int), _⟩, _⟩ => .br (((b.1 : List Nt).drop k.toNat).any fun k => sharedP l (getR [.int .i64] a.1 i) k) (.leaf (.ret, [.val (.d (.bool  (true)))])) (.leaf (.exit 2, [.val (.d (.sl [.int .i64, .str, .str, .str, .int .i64, .str, .str, .str, .int .i64, .str, .str, .str] (l))), .box true (KCs.svs [.v (.sl [.int .i64]), .v (.sl [.int .i64])] (a)), .box true (KCs.svs [.v (.sl [.int .i64]), .v (.sl [.int .i64])] (b)), .val (.d (.int .i64 (i)))]))
def lmr_touch_1 : St [.v false [.sl [.int .i64, .str, .str, .str, .int .i64, .str, .str, .str, .int .i64, .str, .str, .str]], .box [.v (.sl [.int .i64]), .v (.sl [.int .i64])], .box [.v (.sl [.int .i64]), .v (.sl [.int .i64])], .v false [.int .i64], .v false [.int .i64]] → Nat := fun ⟨⟨(l : List (RowE [.int .i64, .str, .str, .str, .int .i64, .str, .str, .str, .int .i64, .str, .str, .str])), _⟩, (a : KCs [.v (.sl [.int .i64]), .v (.sl [.int .i64])]), (b : KCs [.v (.sl [.int .i64]), .v (.sl [.int .i64])]), ⟨(i : Int), _⟩, ⟨(k : Int), _⟩, _⟩ => (b.1 : List Nt).length - k.toNat
def lsr_touch_1 : LoopS := mkR [0, 4, 5, 7, 8] [0, 4, 5, 7] [6] [.v false [.sl [.int .i64, .str, .str, .str, .int .i64, .str, .str, .str, .int .i64, .str, .str, .str]], .box [.v (.sl [.int .i64]), .v (.sl [.int .i64])], .box [.v (.sl [.int .i64]), .v (.sl [.int .i64])], .v false [.int .i64], .v false [.int .i64]] (fun r => .chk (lkr_touch_1 r) (lgr_touch_1 r))
def Lr_touch : Ls := [(2, lsr_touch_0), (5, lsr_touch_1)]
def Sr_touch := mkS [(false, [.sl [.int .i64, .str, .str, .str, .int .i64, .str, .str, .str, .int .i64, .str, .str, .str]]), (true, grS), (true, grS)] fun ⟨⟨(l : List (RowE [.int .i64, .str, .str, .str, .int .i64, .str, .str, .str, .int .i64, .str, .str, .str])), _⟩, (a : RowE grS), (b : RowE grS), _⟩ => .chk (szGr a ∧ szGr b) (.leaf (.val (.d (.bool (touchR l a b)))))
theorem ltr_touch_0 (l : List (RowE [.int .i64, .str, .str, .str, .int .i64, .str, .str, .str, .int .i64, .str, .str, .str])) (a : KCs [.v (.sl [.int .i64]), .v (.sl [.int .i64])]) (b : KCs [.v (.sl [.int .i64]), .v (.sl [.int .i64])]) (i : Int) : evRound T (Ep (Er_shared)) (Ln (Lr_touch)) (loopAt 0 (loops (bodyOf Try.f22))) (lsr_touch_0) [.val (.d (.sl [.int .i64, .str, .str, .str, .int .i64, .str, .str, .str, .int .i64, .str, .str, .str] l)), .box true (KCs.svs [.v (.sl [.int .i64]), .v (.sl [.int .i64])] a), .box true (KCs.svs [.v (.sl [.int .i64]), .v (.sl [.int .i64])] b), .val (.d (.int .i64 i))] =
    br (decide (i < (↑(List.length a.fst) : Int))) (chk (lkr_touch_1 ((l, ()), a, b, (i, ()), ((0 : Int), ()), ())) (br ((List.drop (Int.toNat (0 : Int)) b.fst).any fun k => sharedP l (getR [Sh.int IntKind.i64] a.fst i) k) (some (Rnd.out Ex.ret [SV.val (AV.d (D.bool true))])) (some (Rnd.again [SV.val (AV.d (D.sl t3S l)), SV.box true [SV.val (AV.d (D.sl [Sh.int IntKind.i64] a.fst)), SV.val (AV.d (D.sl [Sh.int IntKind.i64] a.snd.fst))], SV.box true [SV.val (AV.d (D.sl [Sh.int IntKind.i64] b.fst)), SV.val (AV.d (D.sl [Sh.int IntKind.i64] b.snd.fst))], SV.val (AV.d (D.int IntKind.i64 (IntKind.i64.wrap (i + (1 : Int)))))])))) (some (Rnd.out (Ex.exit (0 : Nat)) [])) := by kernel_rfl
theorem lokr_touch_0 : LoopOK T (Ep (Er_shared)) (Ln (Lr_touch)) (loopAt 0 (loops (bodyOf Try.f22))) := by
  refine loop_ok (live := [0, 4, 5, 7]) (outs := []) (rets := [6]) (ks := [.v false [.sl [.int .i64, .str, .str, .str, .int .i64, .str, .str, .str, .int .i64, .str, .str, .str]], .box [.v (.sl [.int .i64]), .v (.sl [.int .i64])], .box [.v (.sl [.int .i64]), .v (.sl [.int .i64])], .v false [.int .i64]]) (G := lgr_touch_0) (lkr_touch_0) (lmr_touch_0) (by kernel_rfl) ?_
  rintro ⟨⟨(l : List (RowE [.int .i64, .str, .str, .str, .int .i64, .str, .str, .str, .int .i64, .str, .str, .str])), _⟩, (a : KCs [.v (.sl [.int .i64]), .v (.sl [.int .i64])]), (b : KCs [.v (.sl [.int .i64]), .v (.sl [.int .i64])]), ⟨(i : Int), _⟩, _⟩ x hok hx
  refine Leads.of_eq (ltr_touch_0 l a b i) ?_
  obtain ⟨h0, h1, h2, h3⟩ := hok
  obtain ⟨m, rfl⟩ := Int.eq_ofNat_of_zero_le h0
  simp only [lgr_touch_0, Int.toNat_natCast] at hx
  rcases drop_cases (a.1 : List Nt) m with ⟨hle, hd⟩ | ⟨x1, hlt, hd, hb⟩
  · rw [hd] at hx
    exact Leads.brD (fun q => by omega) (fun _ => Leads.one (Goes.out (Out_leaf (Out_ff hx))))
  rw [hd, List.any_cons] at hx
  rw [getR_of hb, wrap64 (x := (m : Int) + 1) (by omega) (by omega)]
  refine Leads.brD (fun _ => Leads.chk ⟨by omega, by omega, by omega, by omega, h2, h3⟩ fun _ => Leads.br (fun w => Leads.one (Goes.out ?_)) (fun w => Leads.one ?_)) (fun q => by omega)
  · have w : ((b.1 : List Nt).any fun k => sharedP l x1 k) = true := w
    rw [w, Bool.true_or] at hx
    exact Out_leaf (Out_tt hx)
  · have w : ((b.1 : List Nt).any fun k => sharedP l x1 k) = false := w
    rw [w, Bool.false_or] at hx
    refine Goes.again (ks := [.v false [.sl [.int .i64, .str, .str, .str, .int .i64, .str, .str, .str, .int .i64, .str, .str, .str]], .box [.v (.sl [.int .i64]), .v (.sl [.int .i64])], .box [.v (.sl [.int .i64]), .v (.sl [.int .i64])], .v false [.int .i64]]) ((_, ()), _, _, (_, ()), ()) rfl ?_ ?_ ?_
    · exact ⟨by omega, by omega, h2, h3⟩
    · simp only [lmr_touch_0]; omega
    · simp only [lgr_touch_0, toNat_add1]; exact hx
theorem ltr_touch_1 (l : List (RowE [.int .i64, .str, .str, .str, .int .i64, .str, .str, .str, .int .i64, .str, .str, .str])) (a : KCs [.v (.sl [.int .i64]), .v (.sl [.int .i64])]) (b : KCs [.v (.sl [.int .i64]), .v (.sl [.int .i64])]) (i : Int) (k : Int) : evRound T (Ep (Er_shared)) (Ln (Lr_touch)) (loopAt 1 (loops (bodyOf Try.f22))) (lsr_touch_1) [.val (.d (.sl [.int .i64, .str, .str, .str, .int .i64, .str, .str, .str, .int .i64, .str, .str, .str] l)), .box true (KCs.svs [.v (.sl [.int .i64]), .v (.sl [.int .i64])] a), .box true (KCs.svs [.v (.sl [.int .i64]), .v (.sl [.int .i64])] b), .val (.d (.int .i64 i)), .val (.d (.int .i64 k))] =
    br (decide (k < (↑(List.length b.fst) : Int))) (chk ((0 : Int) ≤ i ∧ i < (↑(List.length a.fst) : Int)) (chk ((0 : Int) ≤ k ∧ k < (↑(List.length b.fst) : Int)) (br (sharedP l (getR [Sh.int IntKind.i64] a.fst i) (getR [Sh.int IntKind.i64] b.fst k)) (some (Rnd.out Ex.ret [SV.val (AV.d (D.bool true))])) (some (Rnd.again [SV.val (AV.d (D.sl t3S l)), SV.box true [SV.val (AV.d (D.sl [Sh.int IntKind.i64] a.fst)), SV.val (AV.d (D.sl [Sh.int IntKind.i64] a.snd.fst))], SV.box true [SV.val (AV.d (D.sl [Sh.int IntKind.i64] b.fst)), SV.val (AV.d (D.sl [Sh.int IntKind.i64] b.snd.fst))], SV.val (AV.d (D.int IntKind.i64 i)), SV.val (AV.d (D.int IntKind.i64 (IntKind.i64.wrap (k + (1 : Int)))))]))))) (some (Rnd.out (Ex.exit (2 : Nat)) [SV.val (AV.d (D.sl t3S l)), SV.box true [SV.val (AV.d (D.sl [Sh.int IntKind.i64] a.fst)), SV.val (AV.d (D.sl [Sh.int IntKind.i64] a.snd.fst))], SV.box true [SV.val (AV.d (D.sl [Sh.int IntKind.i64] b.fst)), SV.val (AV.d (D.sl [Sh.int IntKind.i64] b.snd.fst))], SV.val (AV.d (D.int IntKind.i64 i))])) := by kernel_rfl
theorem lokr_touch_1 : LoopOK T (Ep (Er_shared)) (Ln (Lr_touch)) (loopAt 1 (loops (bodyOf Try.f22))) := by
  refine loop_ok (live := [0, 4, 5, 7, 8]) (outs := [0, 4, 5, 7]) (rets := [6]) (ks := [.v false [.sl [.int .i64, .str, .str, .str, .int .i64, .str, .str, .str, .int .i64, .str, .str, .str]], .box [.v (.sl [.int .i64]), .v (.sl [.int .i64])], .box [.v (.sl [.int .i64]), .v (.sl [.int .i64])], .v false [.int .i64], .v false [.int .i64]]) (G := lgr_touch_1) (lkr_touch_1) (lmr_touch_1) (by kernel_rfl) ?_
  rintro ⟨⟨(l : List (RowE [.int .i64, .str, .str, .str, .int .i64, .str, .str, .str, .int .i64, .str, .str, .str])), _⟩, (a : KCs [.v (.sl [.int .i64]), .v (.sl [.int .i64])]), (b : KCs [.v (.sl [.int .i64]), .v (.sl [.int .i64])]), ⟨(i : Int), _⟩, ⟨(k : Int), _⟩, _⟩ x hok hx
  refine Leads.of_eq (ltr_touch_1 l a b i k) ?_
  obtain ⟨h0, h1, h2, h3, h4, h5⟩ := hok
  obtain ⟨m, rfl⟩ := Int.eq_ofNat_of_zero_le h0
  simp only [lgr_touch_1, Int.toNat_natCast] at hx
  rcases drop_cases (b.1 : List Nt) m with ⟨hle, hd⟩ | ⟨x1, hlt, hd, hb⟩
  · rw [hd] at hx
    exact Leads.brD (fun q => by omega) (fun _ => Leads.one (Goes.out (Out_leaf (Out_ff hx))))
  rw [hd, List.any_cons] at hx
  rw [getR_of hb, wrap64 (x := (m : Int) + 1) (by omega) (by omega)]
  refine Leads.brD (fun _ => Leads.chk (by omega) fun _ => Leads.chk (by omega) fun _ => Leads.br (fun w => Leads.one (Goes.out ?_)) (fun w => Leads.one ?_)) (fun q => by omega)
  · have w : sharedP l (getR [.int .i64] a.1 i) x1 = true := w
    rw [w, Bool.true_or] at hx
    exact Out_leaf (Out_tt hx)
  · have w : sharedP l (getR [.int .i64] a.1 i) x1 = false := w
    rw [w, Bool.false_or] at hx
    refine Goes.again (ks := [.v false [.sl [.int .i64, .str, .str, .str, .int .i64, .str, .str, .str, .int .i64, .str, .str, .str]], .box [.v (.sl [.int .i64]), .v (.sl [.int .i64])], .box [.v (.sl [.int .i64]), .v (.sl [.int .i64])], .v false [.int .i64], .v false [.int .i64]]) ((_, ()), _, _, (_, ()), (_, ()), ()) rfl ?_ ?_ ?_
    · exact ⟨by omega, by omega, h2, h3, h4, h5⟩
    · simp only [lmr_touch_1]; omega
    · simp only [lgr_touch_1, toNat_add1]; exact hx
theorem tr_touch (l : List (RowE [.int .i64, .str, .str, .str, .int .i64, .str, .str, .str, .int .i64, .str, .str, .str])) (a : RowE grS) (b : RowE grS) : evF T (Ep (Er_shared)) (Ln (Lr_touch)) Try.f22 [.d (.sl [.int .i64, .str, .str, .str, .int .i64, .str, .str, .str, .int .i64, .str, .str, .str] l), .agg (rowD grS a), .agg (rowD grS b)] =
    chk (lkr_touch_0 ((l, ()), a, b, ((0 : Int), ()), ())) (br ((List.drop (Int.toNat (0 : Int)) a.fst).any fun i => List.any b.fst fun k => sharedP l i k) (some (SV.val (AV.d (D.bool true)))) (some (SV.val (AV.d (D.bool false))))) := by kernel_rfl
theorem satr_touch : Sat P 22 (Sr_touch) := by
  refine sat_mk (LT := Ln (Lr_touch)) hC (SatE.ep okr_shared) mixed Try.func22 (by kernel_rfl) (c := bodyOf Try.f22) (by kernel_rfl) (by kernel_rfl) ?_ (loops2 (by kernel_rfl) (lokr_touch_0) (lokr_touch_1))
  rintro ⟨⟨(l : List (RowE [.int .i64, .str, .str, .str, .int .i64, .str, .str, .str, .int .i64, .str, .str, .str])), _⟩, (a : RowE grS), (b : RowE grS), _⟩ sv h
  refine Leads.eq (Leads.of_eq (tr_touch l a b) ?_)
  obtain ⟨⟨h1, h2⟩, h⟩ := h
  obtain rfl := Out_leaf h
  unfold touchR
  refine Leads.chk ⟨by omega, Int.natCast_nonneg _, h1, h2⟩ fun _ => Leads.br (fun w => Leads.one ?_) (fun w => Leads.one ?_)
  · rw [show ((a.1 : List Nt).any fun i => (b.1 : List Nt).any fun k => sharedP l i k) = true from w]
  · rw [show ((a.1 : List Nt).any fun i => (b.1 : List Nt).any fun k => sharedP l i k) = false from w]
def Er_touch : Es := (22, (Sr_touch)) :: Er_shared
theorem okr_touch : SatE P (En (Er_touch)) := SatE.cons (satr_touch) okr_shared
/-! ### legation/legationref20.Check -/
def lkr_check_0 : St [.v false [.sl [.int .i64, .str, .str, .str, .int .i64, .str, .str, .str, .int .i64, .str, .str, .str]], .v false [.int .i64]] → Prop := fun ⟨⟨(l : List (RowE [.int .i64, .str, .str, .str, .int .i64, .str, .str, .str, .int .i64, .str, .str, .str])), _⟩, ⟨(i : Int), _⟩, _⟩ => 0 ≤ i ∧ i ≤ (l.length : Int) ∧ l.length ≤ 2000000 ∧ ∀ t ∈ l, sz3 140737488355328 t
def lgr_check_0 : St [.v false [.sl [.int .i64, .str, .str, .str, .int .i64, .str, .str, .str, .int .i64, .str, .str, .str]], .v false [.int .i64]] → Tr (Ex × List SV) := fun ⟨⟨(l : List (RowE [.int .i64, .str, .str, .str, .int .i64, .str, .str, .str, .int .i64, .str, .str, .str])), _⟩, ⟨(i : Int), _⟩, _⟩ => .br ((l.drop i.toNat).all pat) (.leaf (.exit 0, [.val (.d (.sl [.int .i64, .str, .str, .str, .int .i64, .str, .str, .str, .int .i64, .str, .str, .str] (l)))])) (.leaf (.ret, [.val (.d (.int .i64 (2)))]))
def lmr_check_0 : St [.v false [.sl [.int .i64, .str, .str, .str, .int .i64, .str, .str, .str, .int .i64, .str, .str, .str]], .v false [.int .i64]] → Nat := fun ⟨⟨(l : List (RowE [.int .i64, .str, .str, .str, .int .i64, .str, .str, .str, .int .i64, .str, .str, .str])), _⟩, ⟨(i : Int), _⟩, _⟩ => l.length - i.toNat
def lsr_check_0 : LoopS := mkR [0, 5] [0] [4] [.v false [.sl [.int .i64, .str, .str, .str, .int .i64, .str, .str, .str, .int .i64, .str, .str, .str]], .v false [.int .i64]] (fun r => .chk (lkr_check_0 r) (lgr_check_0 r))
def lkr_check_1 : St [.v false [.sl [.int .i64, .str, .str, .str, .int .i64, .str, .str, .str, .int .i64, .str, .str, .str]], .v false [.sl [.sl [.int .i64], .sl [.int .i64]]], .v false [.int .i64]] → Prop := fun ⟨⟨(l : List (RowE [.int .i64, .str, .str, .str, .int .i64, .str, .str, .str, .int .i64, .str, .str, .str])), _⟩, ⟨(groups : List (RowE [.sl [.int .i64], .sl [.int .i64]])), _⟩, ⟨(i : Int), _⟩, _⟩ => 0 ≤ i ∧ i ≤ (groups.length : Int) ∧ groups.length ≤ 2000000 ∧ l.length ≤ 2000000 ∧ ∀ g ∈ groups, szGr g
def lgr_check_1 : St [.v false [.sl [.int .i64, .str, .str, .str, .int .i64, .str, .str, .str, .int .i64, .str, .str, .str]], .v false [.sl [.sl [.int .i64], .sl [.int .i64]]], .v false [.int .i64]] → Tr (Ex × List SV) := fun ⟨⟨(l : List (RowE [.int .i64, .str, .str, .str, .int .i64, .str, .str, .str, .int .i64, .str, .str, .str])), _⟩, ⟨(groups : List (RowE [.sl [.int .i64], .sl [.int .i64]])), _⟩, ⟨(i : Int), _⟩, _⟩ => .br ((groups.drop i.toNat).all (okGr l)) (.leaf (.exit 2, [])) (.leaf (.ret, [.val (.d (.int .i64 (2)))]))
def lmr_check_1 : St [.v false [.sl [.int .i64, .str, .str, .str, .int .i64, .str, .str, .str, .int .i64, .str, .str, .str]], .v false [.sl [.sl [.int .i64], .sl [.int .i64]]], .v false [.int .i64]] → Nat := fun ⟨⟨(l : List (RowE [.int .i64, .str, .str, .str, .int .i64, .str, .str, .str, .int .i64, .str, .str, .str])), _⟩, ⟨(groups : List (RowE [.sl [.int .i64], .sl [.int .i64]])), _⟩, ⟨(i : Int), _⟩, _⟩ => groups.length - i.toNat
def lsr_check_1 : LoopS := mkR [0, 1, 6] [] [4] [.v false [.sl [.int .i64, .str, .str, .str, .int .i64, .str, .str, .str, .int .i64, .str, .str, .str]], .v false [.sl [.sl [.int .i64], .sl [.int .i64]]], .v false [.int .i64]] (fun r => .chk (lkr_check_1 r) (lgr_check_1 r))
def lkr_check_2 : St [.v false [.sl [.int .i64, .str, .str, .str, .int .i64, .str, .str, .str, .int .i64, .str, .str, .str]], .v false [.sl [.sl [.int .i64], .sl [.int .i64]]], .v false [.int .i64], .v false [.int .i64]] → Prop := fun ⟨⟨(l : List (RowE [.int .i64, .str, .str, .str, .int .i64, .str, .str, .str, .int .i64, .str, .str, .str])), _⟩, ⟨(groups : List (RowE [.sl [.int .i64], .sl [.int .i64]])), _⟩, ⟨(i : Int), _⟩, ⟨(k : Int), _⟩, _⟩ => 0 ≤ i ∧ i < (groups.length : Int) ∧ 0 ≤ k ∧ k ≤ (((getR grS groups i).1 : List Nt).length : Int) ∧ groups.length ≤ 2000000 ∧ l.length ≤ 2000000 ∧ szGr (getR grS groups i)
def lgr_check_2 : St [.v false [.sl [.int .i64, .str, .str, .str, .int .i64, .str, .str, .str, .int .i64, .str, .str, .str]], .v false [.sl [.sl [.int .i64], .sl [.int .i64]]], .v false [.int .i64], .v false [.int .i64]] → Tr (Ex × List SV) := fun ⟨⟨(l : List (RowE [.int .i64, .str, .str, .str, .int .i64, .str, .str, .str, .int .i64, .str, .str, .str])), _⟩, ⟨(groups : List (RowE [.sl [.int .i64], .sl [.int .i64]])), _⟩, ⟨(i : Int), _⟩, ⟨(k : Int), _⟩, _⟩ => .br (((getR grS groups i).1.drop k.toNat).all (inR l)) (.leaf (.exit 4, [.val (.d (.sl [.int .i64, .str, .str, .str, .int .i64, .str, .str, .str, .int .i64, .str, .str, .str] (l))), .val (.d (.sl [.sl [.int .i64], .sl [.int .i64]] (groups))), .val (.d (.int .i64 (i)))])) (.leaf (.ret, [.val (.d (.int .i64 (2)))]))
def lmr_check_2 : St [.v false [.sl [.int .i64, .str, .str, .str, .int .i64, .str, .str, .str, .int .i64, .str, .str, .str]], .v false [.sl [.sl [.int .i64], .sl [.int .i64]]], .v false [.int .i64], .v false [.int .i64]] → Nat := fun ⟨⟨(l : List (RowE [.int .i64, .str, .str, .str, .int .i64, .str, .str, .str, .int .i64, .str, .str, .str])), _⟩, ⟨(groups : List (RowE [.sl [.int .i64], .sl [.int .i64]])), _⟩, ⟨(i : Int), _⟩, ⟨(k : Int), _⟩, _⟩ => ((getR grS groups i).1 : List Nt).length - k.toNat
def lsr_check_2 : LoopS := mkR [0, 1, 6, 7] [0, 1, 6] [4] [.v false [.sl [.int .i64, .str, .str, .str, .int .i64, .str, .str, .str, .int .i64, .str, .str, .str]], .v false [.sl [.sl [.int .i64], .sl [.int .i64]]], .v false [.int .i64], .v false [.int .i64]] (fun r => .chk (lkr_check_2 r) (lgr_check_2 r))
def Lr_check : Ls := [(2, lsr_check_0), (7, lsr_check_1), (10, lsr_check_2)]
def Sr_check := mkS [(false, [.sl [.int .i64, .str, .str, .str, .int .i64, .str, .str, .str, .int .i64, .str, .str, .str]]), (false, [.sl [.sl [.int .i64], .sl [.int .i64]]])] fun ⟨⟨(l : List (RowE [.int .i64, .str, .str, .str, .int .i64, .str, .str, .str, .int .i64, .str, .str, .str])), _⟩, ⟨(groups : List (RowE [.sl [.int .i64], .sl [.int .i64]])), _⟩, _⟩ => .chk (szTs l ∧ (∀ t ∈ l, sz3 140737488355328 t) ∧ groups.length ≤ 2000000 ∧ ∀ g ∈ groups, szGr g) (.leaf (.val (.d (.int .i64 (checkP l groups)))))
theorem ltr_check_0 (l : List (RowE [.int .i64, .str, .str, .str, .int .i64, .str, .str, .str, .int .i64, .str, .str, .str])) (i : Int) : evRound T (Ep (Er_touch)) (Ln (Lr_check)) (loopAt 0 (loops (bodyOf Try.f20))) (lsr_check_0) [.val (.d (.sl [.int .i64, .str, .str, .str, .int .i64, .str, .str, .str, .int .i64, .str, .str, .str] l)), .val (.d (.int .i64 i))] =
    br (decide (i < (↑l.length : Int))) (chk ((0 : Int) ≤ i ∧ i < (↑l.length : Int)) (chk (sz3 (140737488355328 : Nat) (getR t3S l i)) (br (!pat (getR t3S l i)) (some (Rnd.out Ex.ret [SV.val (AV.d (D.int IntKind.i64 (2 : Int)))])) (some (Rnd.again [SV.val (AV.d (D.sl t3S l)), SV.val (AV.d (D.int IntKind.i64 (IntKind.i64.wrap (i + (1 : Int)))))]))))) (some (Rnd.out (Ex.exit (0 : Nat)) [SV.val (AV.d (D.sl t3S l))])) := by kernel_rfl
theorem lokr_check_0 : LoopOK T (Ep (Er_touch)) (Ln (Lr_check)) (loopAt 0 (loops (bodyOf Try.f20))) := by
  refine loop_ok (live := [0, 5]) (outs := [0]) (rets := [4]) (ks := [.v false [.sl [.int .i64, .str, .str, .str, .int .i64, .str, .str, .str, .int .i64, .str, .str, .str]], .v false [.int .i64]]) (G := lgr_check_0) (lkr_check_0) (lmr_check_0) (by kernel_rfl) ?_
  rintro ⟨⟨(l : List (RowE [.int .i64, .str, .str, .str, .int .i64, .str, .str, .str, .int .i64, .str, .str, .str])), _⟩, ⟨(i : Int), _⟩, _⟩ x hok hx
  refine Leads.of_eq (ltr_check_0 l i) ?_
  obtain ⟨h0, h1, h3, h4⟩ := hok
  obtain ⟨m, rfl⟩ := Int.eq_ofNat_of_zero_le h0
  simp only [lgr_check_0, Int.toNat_natCast] at hx
  rcases drop_cases l m with ⟨hle, hd⟩ | ⟨x1, hlt, hd, hb⟩
  · rw [hd] at hx
    exact Leads.brD (fun q => by omega) (fun _ => Leads.one (Goes.out (Out_leaf (Out_tt hx))))
  rw [hd, List.all_cons] at hx
  rw [getR_of hb, wrap64 (x := (m : Int) + 1) (by omega) (by omega)]
  refine Leads.brD (fun _ => Leads.chk (by omega) fun _ => Leads.chk (h4 x1 (List.mem_of_getElem? hb)) fun _ => Leads.br (fun w => Leads.one (Goes.out ?_)) (fun w => Leads.one ?_)) (fun q => by omega)
  · have w : pat x1 = false := by simpa using w
    rw [w, Bool.false_and] at hx
    exact Out_leaf (Out_ff hx)
  · have w : pat x1 = true := by simpa using w
    rw [w, Bool.true_and] at hx
    refine Goes.again (ks := [.v false [.sl [.int .i64, .str, .str, .str, .int .i64, .str, .str, .str, .int .i64, .str, .str, .str]], .v false [.int .i64]]) ((_, ()), (_, ()), ()) rfl ?_ ?_ ?_
    · exact ⟨by omega, by omega, h3, h4⟩
    · simp only [lmr_check_0]; omega
    · simp only [lgr_check_0, toNat_add1]; exact hx
theorem ltr_check_1 (l : List (RowE [.int .i64, .str, .str, .str, .int .i64, .str, .str, .str, .int .i64, .str, .str, .str])) (groups : List (RowE [.sl [.int .i64], .sl [.int .i64]])) (i : Int) : evRound T (Ep (Er_touch)) (Ln (Lr_check)) (loopAt 1 (loops (bodyOf Try.f20))) (lsr_check_1) [.val (.d (.sl [.int .i64, .str, .str, .str, .int .i64, .str, .str, .str, .int .i64, .str, .str, .str] l)), .val (.d (.sl [.sl [.int .i64], .sl [.int .i64]] groups)), .val (.d (.int .i64 i))] =
    br (decide (i < (↑groups.length : Int))) (chk (lkr_check_2 ((l, ()), (groups, ()), (i, ()), ((0 : Int), ()), ())) (br ((List.drop (Int.toNat (0 : Int)) (getR grS groups i).fst).all (inR l)) (some (Rnd.again [SV.val (AV.d (D.sl t3S l)), SV.val (AV.d (D.sl grS groups)), SV.val (AV.d (D.int IntKind.i64 (IntKind.i64.wrap (i + (1 : Int)))))])) (some (Rnd.out Ex.ret [SV.val (AV.d (D.int IntKind.i64 (2 : Int)))])))) (some (Rnd.out (Ex.exit (2 : Nat)) [])) := by kernel_rfl
theorem lokr_check_1 : LoopOK T (Ep (Er_touch)) (Ln (Lr_check)) (loopAt 1 (loops (bodyOf Try.f20))) := by
  refine loop_ok (live := [0, 1, 6]) (outs := []) (rets := [4]) (ks := [.v false [.sl [.int .i64, .str, .str, .str, .int .i64, .str, .str, .str, .int .i64, .str, .str, .str]], .v false [.sl [.sl [.int .i64], .sl [.int .i64]]], .v false [.int .i64]]) (G := lgr_check_1) (lkr_check_1) (lmr_check_1) (by kernel_rfl) ?_
  rintro ⟨⟨(l : List (RowE [.int .i64, .str, .str, .str, .int .i64, .str, .str, .str, .int .i64, .str, .str, .str])), _⟩, ⟨(groups : List (RowE [.sl [.int .i64], .sl [.int .i64]])), _⟩, ⟨(i : Int), _⟩, _⟩ x hok hx
  refine Leads.of_eq (ltr_check_1 l groups i) ?_
  obtain ⟨h0, h1, h3, h4, h5⟩ := hok
  obtain ⟨m, rfl⟩ := Int.eq_ofNat_of_zero_le h0
  simp only [lgr_check_1, Int.toNat_natCast] at hx
  rcases drop_cases groups m with ⟨hle, hd⟩ | ⟨x1, hlt, hd, hb⟩
  · rw [hd] at hx
    exact Leads.brD (fun q => by omega) (fun _ => Leads.one (Goes.out (Out_leaf (Out_tt hx))))
  rw [hd, List.all_cons] at hx
  have hg := h5 x1 (List.mem_of_getElem? hb)
  rw [getR_of hb, wrap64 (x := (m : Int) + 1) (by omega) (by omega)]
  refine Leads.brD (fun _ => Leads.chk ⟨by omega, by omega, by omega, Int.natCast_nonneg _, h3, h4, by rw [getR_of hb]; exact hg⟩ fun _ => Leads.br (fun w => Leads.one ?_) (fun w => Leads.one (Goes.out ?_))) (fun q => by omega)
  · have w : okGr l x1 = true := w
    rw [w, Bool.true_and] at hx
    refine Goes.again (ks := [.v false [.sl [.int .i64, .str, .str, .str, .int .i64, .str, .str, .str, .int .i64, .str, .str, .str]], .v false [.sl [.sl [.int .i64], .sl [.int .i64]]], .v false [.int .i64]]) ((_, ()), (_, ()), (_, ()), ()) rfl ?_ ?_ ?_
    · exact ⟨by omega, by omega, h3, h4, h5⟩
    · simp only [lmr_check_1]; omega
    · simp only [lgr_check_1, toNat_add1]; exact hx
  · have w : okGr l x1 = false := w
    rw [w, Bool.false_and] at hx
    exact Out_leaf (Out_ff hx)
theorem ltr_check_2 (l : List (RowE [.int .i64, .str, .str, .str, .int .i64, .str, .str, .str, .int .i64, .str, .str, .str])) (groups : List (RowE [.sl [.int .i64], .sl [.int .i64]])) (i : Int) (k : Int) : evRound T (Ep (Er_touch)) (Ln (Lr_check)) (loopAt 2 (loops (bodyOf Try.f20))) (lsr_check_2) [.val (.d (.sl [.int .i64, .str, .str, .str, .int .i64, .str, .str, .str, .int .i64, .str, .str, .str] l)), .val (.d (.sl [.sl [.int .i64], .sl [.int .i64]] groups)), .val (.d (.int .i64 i)), .val (.d (.int .i64 k))] =
    chk ((0 : Int) ≤ i ∧ i < (↑groups.length : Int)) (br (decide (k < (↑(List.length (getR grS groups i).fst) : Int))) (chk ((0 : Int) ≤ i ∧ i < (↑groups.length : Int)) (chk ((0 : Int) ≤ k ∧ k < (↑(List.length (getR grS groups i).fst) : Int)) (br (decide ((getR [Sh.int IntKind.i64] (getR grS groups i).fst k).fst < (0 : Int))) (some (Rnd.out Ex.ret [SV.val (AV.d (D.int IntKind.i64 (2 : Int)))])) (chk ((0 : Int) ≤ i ∧ i < (↑groups.length : Int)) (chk ((0 : Int) ≤ k ∧ k < (↑(List.length (getR grS groups i).fst) : Int)) (br (decide ((getR [Sh.int IntKind.i64] (getR grS groups i).fst k).fst ≥ (↑l.length : Int))) (some (Rnd.out Ex.ret [SV.val (AV.d (D.int IntKind.i64 (2 : Int)))])) (some (Rnd.again [SV.val (AV.d (D.sl t3S l)), SV.val (AV.d (D.sl grS groups)), SV.val (AV.d (D.int IntKind.i64 i)), SV.val (AV.d (D.int IntKind.i64 (IntKind.i64.wrap (k + (1 : Int)))))])))))))) (some (Rnd.out (Ex.exit (4 : Nat)) [SV.val (AV.d (D.sl t3S l)), SV.val (AV.d (D.sl grS groups)), SV.val (AV.d (D.int IntKind.i64 i))]))) := by kernel_rfl
theorem lokr_check_2 : LoopOK T (Ep (Er_touch)) (Ln (Lr_check)) (loopAt 2 (loops (bodyOf Try.f20))) := by
  refine loop_ok (live := [0, 1, 6, 7]) (outs := [0, 1, 6]) (rets := [4]) (ks := [.v false [.sl [.int .i64, .str, .str, .str, .int .i64, .str, .str, .str, .int .i64, .str, .str, .str]], .v false [.sl [.sl [.int .i64], .sl [.int .i64]]], .v false [.int .i64], .v false [.int .i64]]) (G := lgr_check_2) (lkr_check_2) (lmr_check_2) (by kernel_rfl) ?_
  rintro ⟨⟨(l : List (RowE [.int .i64, .str, .str, .str, .int .i64, .str, .str, .str, .int .i64, .str, .str, .str])), _⟩, ⟨(groups : List (RowE [.sl [.int .i64], .sl [.int .i64]])), _⟩, ⟨(i : Int), _⟩, ⟨(k : Int), _⟩, _⟩ x hok hx
  refine Leads.of_eq (ltr_check_2 l groups i k) ?_
  obtain ⟨g0, g1, h0, h1, h3, h4, h5⟩ := hok
  have h5 : ((getR grS groups i).1 : List Nt).length ≤ 2000000 := h5
  obtain ⟨m, rfl⟩ := Int.eq_ofNat_of_zero_le h0
  simp only [lgr_check_2, Int.toNat_natCast] at hx
  rcases drop_cases ((getR grS groups i).1 : List Nt) m with ⟨hle, hd⟩ | ⟨x1, hlt, hd, hb⟩
  · rw [hd] at hx
    exact Leads.chk (by omega) fun _ => Leads.brD (fun q => by omega) (fun _ => Leads.one (Goes.out (Out_leaf (Out_tt hx))))
  rw [hd, List.all_cons] at hx
  rw [getR_of hb, wrap64 (x := (m : Int) + 1) (by omega) (by omega)]
  obtain ⟨v, hv⟩ : ∃ v : Int, v = x1.1 := ⟨_, rfl⟩
  have hin : inR l x1 = (decide (0 ≤ v) && decide (v < l.length)) := by rw [hv]; rfl
  have bad : inR l x1 = false → _ := fun w => Out_leaf (Out_ff (by rw [w, Bool.false_and] at hx; exact hx))
  refine Leads.chk (by omega) fun _ => Leads.brD (fun _ => Leads.chk (by omega) fun _ => Leads.chk (by omega) fun _ => Leads.brD (fun w => Leads.one (Goes.out (bad ?_))) (fun w => Leads.chk (by omega) fun _ => Leads.chk (by omega) fun _ => Leads.brD (fun w2 => Leads.one (Goes.out (bad ?_))) (fun w2 => Leads.one ?_))) (fun q => by omega)
  · have w : v < 0 := by rw [hv]; exact w
    rw [hin, decide_eq_false (show ¬ (0 : Int) ≤ v by omega), Bool.false_and]
  · have w2 : v ≥ l.length := by rw [hv]; exact w2
    rw [hin, decide_eq_false (show ¬ v < l.length by omega), Bool.and_false]
  · have w : ¬ v < 0 := by rw [hv]; exact w
    have w2 : ¬ v ≥ l.length := by rw [hv]; exact w2
    have w : inR l x1 = true := by rw [hin, decide_eq_true (show (0 : Int) ≤ v by omega), decide_eq_true (show v < l.length by omega)]; rfl
    rw [w, Bool.true_and] at hx
    refine Goes.again (ks := [.v false [.sl [.int .i64, .str, .str, .str, .int .i64, .str, .str, .str, .int .i64, .str, .str, .str]], .v false [.sl [.sl [.int .i64], .sl [.int .i64]]], .v false [.int .i64], .v false [.int .i64]]) ((_, ()), (_, ()), (_, ()), (_, ()), ()) rfl ?_ ?_ ?_
    · exact ⟨g0, g1, by omega, by omega, h3, h4, h5⟩
    · simp only [lmr_check_2]; omega
    · simp only [lgr_check_2, toNat_add1]; exact hx
theorem tr_check (l : List (RowE [.int .i64, .str, .str, .str, .int .i64, .str, .str, .str, .int .i64, .str, .str, .str])) (groups : List (RowE [.sl [.int .i64], .sl [.int .i64]])) : evF T (Ep (Er_touch)) (Ln (Lr_check)) Try.f20 [.d (.sl [.int .i64, .str, .str, .str, .int .i64, .str, .str, .str, .int .i64, .str, .str, .str] l), .d (.sl [.sl [.int .i64], .sl [.int .i64]] groups)] =
    chk (lkr_check_0 ((l, ()), ((0 : Int), ()), ())) (br ((List.drop (Int.toNat (0 : Int)) l).all pat) (chk (lkr_check_1 ((l, ()), (groups, ()), ((0 : Int), ()), ())) (br ((List.drop (Int.toNat (0 : Int)) groups).all (okGr l)) (some (SV.val (AV.d (D.int IntKind.i64 (0 : Int))))) (some (SV.val (AV.d (D.int IntKind.i64 (2 : Int))))))) (some (SV.val (AV.d (D.int IntKind.i64 (2 : Int)))))) := by kernel_rfl
theorem satr_check : Sat P 20 (Sr_check) := by
  refine sat_mk (LT := Ln (Lr_check)) hC (SatE.ep okr_touch) mixed Try.func20 (by kernel_rfl) (c := bodyOf Try.f20) (by kernel_rfl) (by kernel_rfl) ?_ (loops3 (by kernel_rfl) (lokr_check_0) (lokr_check_1) (lokr_check_2))
  rintro ⟨⟨(l : List (RowE [.int .i64, .str, .str, .str, .int .i64, .str, .str, .str, .int .i64, .str, .str, .str])), _⟩, ⟨(groups : List (RowE [.sl [.int .i64], .sl [.int .i64]])), _⟩, _⟩ sv h
  refine Leads.eq (Leads.of_eq (tr_check l groups) ?_)
  obtain ⟨⟨h1, h2, h3, h4⟩, h⟩ := h
  obtain rfl := Out_leaf h
  unfold checkP
  refine Leads.chk ⟨by omega, by omega, h1, h2⟩ fun _ => Leads.br (fun w => Leads.chk ⟨by omega, by omega, h3, h1, h4⟩ fun _ => Leads.br (fun w2 => Leads.one ?_) (fun w2 => Leads.one ?_)) (fun w => Leads.one ?_)
  · rw [show l.all pat = true from w, show groups.all (okGr l) = true from w2]; rfl
  · rw [show l.all pat = true from w, show groups.all (okGr l) = false from w2]; rfl
  · rw [show l.all pat = false from w]; rfl
def Er_check : Es := (20, (Sr_check)) :: Er_touch
theorem okr_check : SatE P (En (Er_check)) := SatE.cons (satr_check) okr_touch
/-! ### legation/legationref20.touches -/
def lkr_touches_0 : St [.v false [.sl [.int .i64, .str, .str, .str, .int .i64, .str, .str, .str, .int .i64, .str, .str, .str]], .v false [.sl [.sl [.int .i64], .sl [.int .i64]]], .box [.v (.sl [.int .i64]), .v (.sl [.int .i64])], .v false [.int .i64]] → Prop := fun ⟨⟨(l : List (RowE [.int .i64, .str, .str, .str, .int .i64, .str, .str, .str, .int .i64, .str, .str, .str])), _⟩, ⟨(some_ : List (RowE [.sl [.int .i64], .sl [.int .i64]])), _⟩, (g : KCs [.v (.sl [.int .i64]), .v (.sl [.int .i64])]), ⟨(i : Int), _⟩, _⟩ => 0 ≤ i ∧ i ≤ (some_.length : Int) ∧ some_.length ≤ 2000000 ∧ (∀ x ∈ some_, szGr x) ∧ (g.1 : List Nt).length ≤ 2000000
def lgr_touches_0 : St [.v false [.sl [.int .i64, .str, .str, .str, .int .i64, .str, .str, .str, .int .i64, .str, .str, .str]], .v false [.sl [.sl [.int .i64], .sl [.int .i64]]], .box [.v (.sl [.int .i64]), .v (.sl [.int .i64])], .v false [.int .i64]] → Tr (Ex × List SV) := fun ⟨⟨(l : List (RowE [.int .i64, .str, .str, .str, .int .i64, .str, .str, .str, .int .i64, .str, .str, .str])), _⟩, ⟨(some_ : List (RowE [.sl [.int .i64], .sl [.int .i64]])), _⟩, (g : KCs [.v (.sl [.int .i64]), .v (.sl [.int .i64])]), ⟨(i : Int), _⟩, _⟩ => .br ((some_.drop i.toNat).any fun x => touchR l x g) (.leaf (.ret, [.val (.d (.bool  (true)))])) (.leaf (.exit 0, []))
def lmr_touches_0 : St [.v false [.sl [.int .i64, .str, .str, .str, .int .i64, .str, .str, .str, .int .i64, .str, .str, .str]], .v false [.sl [.sl [.int .i64], .sl [.int .i64]]], .box [.v (.sl [.int .i64]), .v (.sl [.int .i64])], .v false [.int .i64]] → Nat := fun ⟨⟨(l : List (RowE [.int .i64, .str, .str, .str, .int .i64, .str, .str, .str, .int .i64, .str, .str, .str])), _⟩, ⟨(some_ : List (RowE [.sl [.int .i64], .sl [.int .i64]])), _⟩, (g : KCs [.v (.sl [.int .i64]), .v (.sl [.int .i64])]), ⟨(i : Int), _⟩, _⟩ => some_.length - i.toNat
def lsr_touches_0 : LoopS := mkR [0, 1, 5, 7] [] [6] [.v false [.sl [.int .i64, .str, .str, .str, .int .i64, .str, .str, .str, .int .i64, .str, .str, .str]], .v false [.sl [.sl [.int .i64], .sl [.int .i64]]], .box [.v (.sl [.int .i64]), .v (.sl [.int .i64])], .v false [.int .i64]] (fun r => .chk (lkr_touches_0 r) (lgr_touches_0 r))
def Lr_touches : Ls := [(2, lsr_touches_0)]
def Sr_touches := mkS [(false, [.sl [.int .i64, .str, .str, .str, .int .i64, .str, .str, .str, .int .i64, .str, .str, .str]]), (false, [.sl [.sl [.int .i64], .sl [.int .i64]]]), (true, grS)] fun ⟨⟨(l : List (RowE [.int .i64, .str, .str, .str, .int .i64, .str, .str, .str, .int .i64, .str, .str, .str])), _⟩, ⟨(some_ : List (RowE [.sl [.int .i64], .sl [.int .i64]])), _⟩, (g : RowE grS), _⟩ => .chk (some_.length ≤ 2000000 ∧ (∀ x ∈ some_, szGr x) ∧ szGr g) (.leaf (.val (.d (.bool (touchesP l some_ g)))))
theorem ltr_touches_0 (l : List (RowE [.int .i64, .str, .str, .str, .int .i64, .str, .str, .str, .int .i64, .str, .str, .str])) (some_ : List (RowE [.sl [.int .i64], .sl [.int .i64]])) (g : KCs [.v (.sl [.int .i64]), .v (.sl [.int .i64])]) (i : Int) : evRound T (Ep (Er_check)) (Ln (Lr_touches)) (loopAt 0 (loops (bodyOf Try.f55))) (lsr_touches_0) [.val (.d (.sl [.int .i64, .str, .str, .str, .int .i64, .str, .str, .str, .int .i64, .str, .str, .str] l)), .val (.d (.sl [.sl [.int .i64], .sl [.int .i64]] some_)), .box true (KCs.svs [.v (.sl [.int .i64]), .v (.sl [.int .i64])] g), .val (.d (.int .i64 i))] =
    br (decide (i < (↑some_.length : Int))) (chk ((0 : Int) ≤ i ∧ i < (↑some_.length : Int)) (chk (szGr (getR grS some_ i) ∧ szGr g) (br (touchR l (getR grS some_ i) g) (some (Rnd.out Ex.ret [SV.val (AV.d (D.bool true))])) (some (Rnd.again [SV.val (AV.d (D.sl t3S l)), SV.val (AV.d (D.sl grS some_)), SV.box true [SV.val (AV.d (D.sl [Sh.int IntKind.i64] g.fst)), SV.val (AV.d (D.sl [Sh.int IntKind.i64] g.snd.fst))], SV.val (AV.d (D.int IntKind.i64 (IntKind.i64.wrap (i + (1 : Int)))))]))))) (some (Rnd.out (Ex.exit (0 : Nat)) [])) := by kernel_rfl
theorem lokr_touches_0 : LoopOK T (Ep (Er_check)) (Ln (Lr_touches)) (loopAt 0 (loops (bodyOf Try.f55))) := by
  refine loop_ok (live := [0, 1, 5, 7]) (outs := []) (rets := [6]) (ks := [.v false [.sl [.int .i64, .str, .str, .str, .int .i64, .str, .str, .str, .int .i64, .str, .str, .str]], .v false [.sl [.sl [.int .i64], .sl [.int .i64]]], .box [.v (.sl [.int .i64]), .v (.sl [.int .i64])], .v false [.int .i64]]) (G := lgr_touches_0) (lkr_touches_0) (lmr_touches_0) (by kernel_rfl) ?_
  rintro ⟨⟨(l : List (RowE [.int .i64, .str, .str, .str, .int .i64, .str, .str, .str, .int .i64, .str, .str, .str])), _⟩, ⟨(some_ : List (RowE [.sl [.int .i64], .sl [.int .i64]])), _⟩, (g : KCs [.v (.sl [.int .i64]), .v (.sl [.int .i64])]), ⟨(i : Int), _⟩, _⟩ x hok hx
  refine Leads.of_eq (ltr_touches_0 l some_ g i) ?_
  obtain ⟨h0, h1, h2, h3, h4⟩ := hok
  obtain ⟨m, rfl⟩ := Int.eq_ofNat_of_zero_le h0
  simp only [lgr_touches_0, Int.toNat_natCast] at hx
  rcases drop_cases some_ m with ⟨hle, hd⟩ | ⟨x1, hlt, hd, hb⟩
  · rw [hd] at hx
    exact Leads.brD (fun q => by omega) (fun _ => Leads.one (Goes.out (Out_leaf (Out_ff hx))))
  rw [hd, List.any_cons] at hx
  rw [getR_of hb, wrap64 (x := (m : Int) + 1) (by omega) (by omega)]
  refine Leads.brD (fun _ => Leads.chk (by omega) fun _ => Leads.chk ⟨h3 x1 (List.mem_of_getElem? hb), h4⟩ fun _ => Leads.br (fun w => Leads.one (Goes.out ?_)) (fun w => Leads.one ?_)) (fun q => by omega)
  · have w : touchR l x1 g = true := w
    rw [w, Bool.true_or] at hx
    exact Out_leaf (Out_tt hx)
  · have w : touchR l x1 g = false := w
    rw [w, Bool.false_or] at hx
    refine Goes.again (ks := [.v false [.sl [.int .i64, .str, .str, .str, .int .i64, .str, .str, .str, .int .i64, .str, .str, .str]], .v false [.sl [.sl [.int .i64], .sl [.int .i64]]], .box [.v (.sl [.int .i64]), .v (.sl [.int .i64])], .v false [.int .i64]]) ((_, ()), (_, ()), _, (_, ()), ()) rfl ?_ ?_ ?_
    · exact ⟨by omega, by omega, h2, h3, h4⟩
    · simp only [lmr_touches_0]; omega
    · simp only [lgr_touches_0, toNat_add1]; exact hx
theorem tr_touches (l : List (RowE [.int .i64, .str, .str, .str, .int .i64, .str, .str, .str, .int .i64, .str, .str, .str])) (some_ : List (RowE [.sl [.int .i64], .sl [.int .i64]])) (g : RowE grS) : evF T (Ep (Er_check)) (Ln (Lr_touches)) Try.f55 [.d (.sl [.int .i64, .str, .str, .str, .int .i64, .str, .str, .str, .int .i64, .str, .str, .str] l), .d (.sl [.sl [.int .i64], .sl [.int .i64]] some_), .agg (rowD grS g)] =
    chk (lkr_touches_0 ((l, ()), (some_, ()), g, ((0 : Int), ()), ())) (br ((List.drop (Int.toNat (0 : Int)) some_).any fun x => touchR l x g) (some (SV.val (AV.d (D.bool true)))) (some (SV.val (AV.d (D.bool false))))) := by kernel_rfl
theorem satr_touches : Sat P 55 (Sr_touches) := by
  refine sat_mk (LT := Ln (Lr_touches)) hC (SatE.ep okr_check) mixed Try.func55 (by kernel_rfl) (c := bodyOf Try.f55) (by kernel_rfl) (by kernel_rfl) ?_ (loops1 (by kernel_rfl) (lokr_touches_0))
  rintro ⟨⟨(l : List (RowE [.int .i64, .str, .str, .str, .int .i64, .str, .str, .str, .int .i64, .str, .str, .str])), _⟩, ⟨(some_ : List (RowE [.sl [.int .i64], .sl [.int .i64]])), _⟩, (g : RowE grS), _⟩ sv h
  refine Leads.eq (Leads.of_eq (tr_touches l some_ g) ?_)
  obtain ⟨⟨h1, h2, h3⟩, h⟩ := h
  obtain rfl := Out_leaf h
  unfold touchesP
  refine Leads.chk ⟨by omega, Int.natCast_nonneg _, h1, h2, h3⟩ fun _ => Leads.br (fun w => Leads.one ?_) (fun w => Leads.one ?_)
  · rw [show (some_.any fun x => touchR l x g) = true from w]
  · rw [show (some_.any fun x => touchR l x g) = false from w]
def Er_touches : Es := (55, (Sr_touches)) :: Er_check
theorem okr_touches : SatE P (En (Er_touches)) := SatE.cons (satr_touches) okr_check
/-! ### legation/legationref20.next -/
def lkr_next_0 : St [.v false [.sl [.int .i64, .str, .str, .str, .int .i64, .str, .str, .str, .int .i64, .str, .str, .str]], .v false [.sl [.sl [.int .i64], .sl [.int .i64]]], .v false [.sl [.sl [.int .i64], .sl [.int .i64]]], .v false [.int .i64]] → Prop := fun ⟨⟨(l : List (RowE [.int .i64, .str, .str, .str, .int .i64, .str, .str, .str, .int .i64, .str, .str, .str])), _⟩, ⟨(taken : List (RowE [.sl [.int .i64], .sl [.int .i64]])), _⟩, ⟨(left : List (RowE [.sl [.int .i64], .sl [.int .i64]])), _⟩, ⟨(i : Int), _⟩, _⟩ => 0 ≤ i ∧ i ≤ (left.length : Int) ∧ left.length ≤ 2000000 ∧ taken.length ≤ 2000000 ∧ (∀ x ∈ taken, szGr x) ∧ ∀ x ∈ left, szGr x
def lgr_next_0 : St [.v false [.sl [.int .i64, .str, .str, .str, .int .i64, .str, .str, .str, .int .i64, .str, .str, .str]], .v false [.sl [.sl [.int .i64], .sl [.int .i64]]], .v false [.sl [.sl [.int .i64], .sl [.int .i64]]], .v false [.int .i64]] → Tr (Ex × List SV) := fun ⟨⟨(l : List (RowE [.int .i64, .str, .str, .str, .int .i64, .str, .str, .str, .int .i64, .str, .str, .str])), _⟩, ⟨(taken : List (RowE [.sl [.int .i64], .sl [.int .i64]])), _⟩, ⟨(left : List (RowE [.sl [.int .i64], .sl [.int .i64]])), _⟩, ⟨(i : Int), _⟩, _⟩ => .br ((left.drop i.toNat).any (touchesP l taken)) (.leaf (.ret, [.val (.d (.int .i64 (firstG (touchesP l taken) (left.drop i.toNat) i)))])) (.leaf (.exit 0, []))
def lmr_next_0 : St [.v false [.sl [.int .i64, .str, .str, .str, .int .i64, .str, .str, .str, .int .i64, .str, .str, .str]], .v false [.sl [.sl [.int .i64], .sl [.int .i64]]], .v false [.sl [.sl [.int .i64], .sl [.int .i64]]], .v false [.int .i64]] → Nat := fun ⟨⟨(l : List (RowE [.int .i64, .str, .str, .str, .int .i64, .str, .str, .str, .int .i64, .str, .str, .str])), _⟩, ⟨(taken : List (RowE [.sl [.int .i64], .sl [.int .i64]])), _⟩, ⟨(left : List (RowE [.sl [.int .i64], .sl [.int .i64]])), _⟩, ⟨(i : Int), _⟩, _⟩ => left.length - i.toNat
def lsr_next_0 : LoopS := mkR [0, 1, 2, 7] [] [6] [.v false [.sl [.int .i64, .str, .str, .str, .int .i64, .str, .str, .str, .int .i64, .str, .str, .str]], .v false [.sl [.sl [.int .i64], .sl [.int .i64]]], .v false [.sl [.sl [.int .i64], .sl [.int .i64]]], .v false [.int .i64]] (fun r => .chk (lkr_next_0 r) (lgr_next_0 r))
def Lr_next : Ls := [(2, lsr_next_0)]
def Sr_next := mkS [(false, [.sl [.int .i64, .str, .str, .str, .int .i64, .str, .str, .str, .int .i64, .str, .str, .str]]), (false, [.sl [.sl [.int .i64], .sl [.int .i64]]]), (false, [.sl [.sl [.int .i64], .sl [.int .i64]]])] fun ⟨⟨(l : List (RowE [.int .i64, .str, .str, .str, .int .i64, .str, .str, .str, .int .i64, .str, .str, .str])), _⟩, ⟨(taken : List (RowE [.sl [.int .i64], .sl [.int .i64]])), _⟩, ⟨(left : List (RowE [.sl [.int .i64], .sl [.int .i64]])), _⟩, _⟩ => .chk (left.length ≤ 2000000 ∧ taken.length ≤ 2000000 ∧ (∀ x ∈ taken, szGr x) ∧ ∀ x ∈ left, szGr x) (.leaf (.val (.d (.int .i64 (nextP l taken left)))))
theorem ltr_next_0 (l : List (RowE [.int .i64, .str, .str, .str, .int .i64, .str, .str, .str, .int .i64, .str, .str, .str])) (taken : List (RowE [.sl [.int .i64], .sl [.int .i64]])) (left : List (RowE [.sl [.int .i64], .sl [.int .i64]])) (i : Int) : evRound T (Ep (Er_touches)) (Ln (Lr_next)) (loopAt 0 (loops (bodyOf Try.f41))) (lsr_next_0) [.val (.d (.sl [.int .i64, .str, .str, .str, .int .i64, .str, .str, .str, .int .i64, .str, .str, .str] l)), .val (.d (.sl [.sl [.int .i64], .sl [.int .i64]] taken)), .val (.d (.sl [.sl [.int .i64], .sl [.int .i64]] left)), .val (.d (.int .i64 i))] =
    br (decide (i < (↑left.length : Int))) (chk ((0 : Int) ≤ i ∧ i < (↑left.length : Int)) (chk (taken.length ≤ (2000000 : Nat) ∧ (∀ (x : RowE grS), x ∈ taken → szGr x) ∧ szGr (getR grS left i)) (br (touchesP l taken (getR grS left i)) (some (Rnd.out Ex.ret [SV.val (AV.d (D.int IntKind.i64 i))])) (some (Rnd.again [SV.val (AV.d (D.sl t3S l)), SV.val (AV.d (D.sl grS taken)), SV.val (AV.d (D.sl grS left)), SV.val (AV.d (D.int IntKind.i64 (IntKind.i64.wrap (i + (1 : Int)))))]))))) (some (Rnd.out (Ex.exit (0 : Nat)) [])) := by kernel_rfl
theorem lokr_next_0 : LoopOK T (Ep (Er_touches)) (Ln (Lr_next)) (loopAt 0 (loops (bodyOf Try.f41))) := by
  refine loop_ok (live := [0, 1, 2, 7]) (outs := []) (rets := [6]) (ks := [.v false [.sl [.int .i64, .str, .str, .str, .int .i64, .str, .str, .str, .int .i64, .str, .str, .str]], .v false [.sl [.sl [.int .i64], .sl [.int .i64]]], .v false [.sl [.sl [.int .i64], .sl [.int .i64]]], .v false [.int .i64]]) (G := lgr_next_0) (lkr_next_0) (lmr_next_0) (by kernel_rfl) ?_
  rintro ⟨⟨(l : List (RowE [.int .i64, .str, .str, .str, .int .i64, .str, .str, .str, .int .i64, .str, .str, .str])), _⟩, ⟨(taken : List (RowE [.sl [.int .i64], .sl [.int .i64]])), _⟩, ⟨(left : List (RowE [.sl [.int .i64], .sl [.int .i64]])), _⟩, ⟨(i : Int), _⟩, _⟩ x hok hx
  refine Leads.of_eq (ltr_next_0 l taken left i) ?_
  obtain ⟨h0, h1, h2, h3, h4, h5⟩ := hok
  obtain ⟨m, rfl⟩ := Int.eq_ofNat_of_zero_le h0
  simp only [lgr_next_0, Int.toNat_natCast] at hx
  rcases drop_cases left m with ⟨hle, hd⟩ | ⟨x1, hlt, hd, hb⟩
  · rw [hd] at hx
    exact Leads.brD (fun q => by omega) (fun _ => Leads.one (Goes.out (Out_leaf (Out_ff hx))))
  rw [hd, firstG, List.any_cons] at hx
  rw [getR_of hb, wrap64 (x := (m : Int) + 1) (by omega) (by omega)]
  refine Leads.brD (fun _ => Leads.chk (by omega) fun _ => Leads.chk ⟨h3, h4, h5 x1 (List.mem_of_getElem? hb)⟩ fun _ => Leads.br (fun w => Leads.one (Goes.out ?_)) (fun w => Leads.one ?_)) (fun q => by omega)
  · have w : touchesP l taken x1 = true := w
    rw [if_pos w, w, Bool.true_or] at hx
    exact Out_leaf (Out_tt hx)
  · have w : touchesP l taken x1 = false := w
    rw [if_neg (by rw [w]; simp), w, Bool.false_or] at hx
    refine Goes.again (ks := [.v false [.sl [.int .i64, .str, .str, .str, .int .i64, .str, .str, .str, .int .i64, .str, .str, .str]], .v false [.sl [.sl [.int .i64], .sl [.int .i64]]], .v false [.sl [.sl [.int .i64], .sl [.int .i64]]], .v false [.int .i64]]) ((_, ()), (_, ()), (_, ()), (_, ()), ()) rfl ?_ ?_ ?_
    · exact ⟨by omega, by omega, h2, h3, h4, h5⟩
    · simp only [lmr_next_0]; omega
    · simp only [lgr_next_0, toNat_add1]; exact hx
theorem tr_next (l : List (RowE [.int .i64, .str, .str, .str, .int .i64, .str, .str, .str, .int .i64, .str, .str, .str])) (taken : List (RowE [.sl [.int .i64], .sl [.int .i64]])) (left : List (RowE [.sl [.int .i64], .sl [.int .i64]])) : evF T (Ep (Er_touches)) (Ln (Lr_next)) Try.f41 [.d (.sl [.int .i64, .str, .str, .str, .int .i64, .str, .str, .str, .int .i64, .str, .str, .str] l), .d (.sl [.sl [.int .i64], .sl [.int .i64]] taken), .d (.sl [.sl [.int .i64], .sl [.int .i64]] left)] =
    chk (lkr_next_0 ((l, ()), (taken, ()), (left, ()), ((0 : Int), ()), ())) (br ((List.drop (Int.toNat (0 : Int)) left).any (touchesP l taken)) (some (SV.val (AV.d (D.int IntKind.i64 (firstG (touchesP l taken) (List.drop (Int.toNat (0 : Int)) left) (0 : Int)))))) (some (SV.val (AV.d (D.int IntKind.i64 (0 : Int)))))) := by kernel_rfl
theorem satr_next : Sat P 41 (Sr_next) := by
  refine sat_mk (LT := Ln (Lr_next)) hC (SatE.ep okr_touches) mixed Try.func41 (by kernel_rfl) (c := bodyOf Try.f41) (by kernel_rfl) (by kernel_rfl) ?_ (loops1 (by kernel_rfl) (lokr_next_0))
  rintro ⟨⟨(l : List (RowE [.int .i64, .str, .str, .str, .int .i64, .str, .str, .str, .int .i64, .str, .str, .str])), _⟩, ⟨(taken : List (RowE [.sl [.int .i64], .sl [.int .i64]])), _⟩, ⟨(left : List (RowE [.sl [.int .i64], .sl [.int .i64]])), _⟩, _⟩ sv h
  refine Leads.eq (Leads.of_eq (tr_next l taken left) ?_)
  obtain ⟨⟨h1, h2, h3, h4⟩, h⟩ := h
  obtain rfl := Out_leaf h
  unfold nextP
  refine Leads.chk ⟨by omega, Int.natCast_nonneg _, h1, h2, h3, h4⟩ fun _ => Leads.br (fun w => Leads.one ?_) (fun w => Leads.one ?_)
  · rw [show left.any (touchesP l taken) = true from w]; rfl
  · rw [show left.any (touchesP l taken) = false from w]; rfl
def Er_next : Es := (41, (Sr_next)) :: Er_touches
theorem okr_next : SatE P (En (Er_next)) := SatE.cons (satr_next) okr_touches
/-! ### legation/legationref20.Arrange -/
def lkr_arrange_0 : St [.v false [.sl [.sl [.int .i64], .sl [.int .i64]]], .v false [.bool], .a grS, .v false [.int .i64]] → Prop := fun ⟨⟨(groups : List (RowE [.sl [.int .i64], .sl [.int .i64]])), _⟩, ⟨(reverse : Bool), _⟩, (left : List (RowE grS)), ⟨(i : Int), _⟩, _⟩ => 0 ≤ i ∧ i ≤ (groups.length : Int) ∧ groups.length ≤ 2000000 ∧ (left.length : Int) ≤ i
def lgr_arrange_0 : St [.v false [.sl [.sl [.int .i64], .sl [.int .i64]]], .v false [.bool], .a grS, .v false [.int .i64]] → Tr (Ex × List SV) := fun ⟨⟨(groups : List (RowE [.sl [.int .i64], .sl [.int .i64]])), _⟩, ⟨(reverse : Bool), _⟩, (left : List (RowE grS)), ⟨(i : Int), _⟩, _⟩ => .leaf (.exit 0, [.app grS (left ++ (lefts groups reverse).drop i.toNat)])
def lmr_arrange_0 : St [.v false [.sl [.sl [.int .i64], .sl [.int .i64]]], .v false [.bool], .a grS, .v false [.int .i64]] → Nat := fun ⟨⟨(groups : List (RowE [.sl [.int .i64], .sl [.int .i64]])), _⟩, ⟨(reverse : Bool), _⟩, (left : List (RowE grS)), ⟨(i : Int), _⟩, _⟩ => groups.length - i.toNat
def lsr_arrange_0 : LoopS := mkR [1, 2, 7, 8] [7] [] [.v false [.sl [.sl [.int .i64], .sl [.int .i64]]], .v false [.bool], .a grS, .v false [.int .i64]] (fun r => .chk (lkr_arrange_0 r) (lgr_arrange_0 r))
def lkr_arrange_1 : St [.v false [.sl [.int .i64, .str, .str, .str, .int .i64, .str, .str, .str, .int .i64, .str, .str, .str]], .a grS, .a grS] → Prop := fun ⟨⟨(l : List (RowE [.int .i64, .str, .str, .str, .int .i64, .str, .str, .str, .int .i64, .str, .str, .str])), _⟩, (left : List (RowE grS)), (out : List (RowE grS)), _⟩ => left.length + out.length ≤ 2000000 ∧ (∀ x ∈ left, szGr x) ∧ ∀ x ∈ out, szGr x
def lgr_arrange_1 : St [.v false [.sl [.int .i64, .str, .str, .str, .int .i64, .str, .str, .str, .int .i64, .str, .str, .str]], .a grS, .a grS] → Tr (Ex × List SV) := fun ⟨⟨(l : List (RowE [.int .i64, .str, .str, .str, .int .i64, .str, .str, .str, .int .i64, .str, .str, .str])), _⟩, (left : List (RowE grS)), (out : List (RowE grS)), _⟩ => .leaf (.exit 2, [.app grS (refArr l left.length left out)])
def lmr_arrange_1 : St [.v false [.sl [.int .i64, .str, .str, .str, .int .i64, .str, .str, .str, .int .i64, .str, .str, .str]], .a grS, .a grS] → Nat := fun ⟨⟨(l : List (RowE [.int .i64, .str, .str, .str, .int .i64, .str, .str, .str, .int .i64, .str, .str, .str])), _⟩, (left : List (RowE grS)), (out : List (RowE grS)), _⟩ => left.length
def lsr_arrange_1 : LoopS := mkR [0, 7, 9] [9] [] [.v false [.sl [.int .i64, .str, .str, .str, .int .i64, .str, .str, .str, .int .i64, .str, .str, .str]], .a grS, .a grS] (fun r => .chk (lkr_arrange_1 r) (lgr_arrange_1 r))
def Lr_arrange : Ls := [(3, lsr_arrange_0), (9, lsr_arrange_1)]
def Sr_arrange := mkS [(false, [.sl [.int .i64, .str, .str, .str, .int .i64, .str, .str, .str, .int .i64, .str, .str, .str]]), (false, [.sl [.sl [.int .i64], .sl [.int .i64]]]), (false, [.bool])] fun ⟨⟨(l : List (RowE [.int .i64, .str, .str, .str, .int .i64, .str, .str, .str, .int .i64, .str, .str, .str])), _⟩, ⟨(groups : List (RowE [.sl [.int .i64], .sl [.int .i64]])), _⟩, ⟨(reverse : Bool), _⟩, _⟩ => .chk (groups.length ≤ 2000000 ∧ ∀ x ∈ groups, szGr x) (.leaf (.app grS (refArr l groups.length (lefts groups reverse) [])))
theorem ltr_arrange_0 (groups : List (RowE [.sl [.int .i64], .sl [.int .i64]])) (reverse : Bool) (left : List (RowE grS)) (i : Int) : evRound T (Ep (Er_next)) (Ln (Lr_arrange)) (loopAt 0 (loops (bodyOf Try.f23))) (lsr_arrange_0) [.val (.d (.sl [.sl [.int .i64], .sl [.int .i64]] groups)), .val (.d (.bool  reverse)), .app grS left, .val (.d (.int .i64 i))] =
    br (decide (i < (↑groups.length : Int))) (br reverse (chk ((0 : Int) ≤ IntKind.i64.wrap (IntKind.i64.wrap ((↑groups.length : Int) - (1 : Int)) - i) ∧ IntKind.i64.wrap (IntKind.i64.wrap ((↑groups.length : Int) - (1 : Int)) - i) < (↑groups.length : Int)) (chk (((↑left.length : Int) + (↑[getR grS groups (IntKind.i64.wrap (IntKind.i64.wrap ((↑groups.length : Int) - (1 : Int)) - i))].length : Int)) * (↑(48 : Nat) : Int) < lim) (some (Rnd.again [SV.val (AV.d (D.sl grS groups)), SV.val (AV.d (D.bool reverse)), SV.app grS (left ++ [getR grS groups (IntKind.i64.wrap (IntKind.i64.wrap ((↑groups.length : Int) - (1 : Int)) - i))]), SV.val (AV.d (D.int IntKind.i64 (IntKind.i64.wrap (i + (1 : Int)))))])))) (chk ((0 : Int) ≤ i ∧ i < (↑groups.length : Int)) (chk (((↑left.length : Int) + (↑[getR grS groups i].length : Int)) * (↑(48 : Nat) : Int) < lim) (some (Rnd.again [SV.val (AV.d (D.sl grS groups)), SV.val (AV.d (D.bool reverse)), SV.app grS (left ++ [getR grS groups i]), SV.val (AV.d (D.int IntKind.i64 (IntKind.i64.wrap (i + (1 : Int)))))]))))) (some (Rnd.out (Ex.exit (0 : Nat)) [SV.app grS left])) := by kernel_rfl
theorem lokr_arrange_0 : LoopOK T (Ep (Er_next)) (Ln (Lr_arrange)) (loopAt 0 (loops (bodyOf Try.f23))) := by
  refine loop_ok (live := [1, 2, 7, 8]) (outs := [7]) (rets := []) (ks := [.v false [.sl [.sl [.int .i64], .sl [.int .i64]]], .v false [.bool], .a grS, .v false [.int .i64]]) (G := lgr_arrange_0) (lkr_arrange_0) (lmr_arrange_0) (by kernel_rfl) ?_
  rintro ⟨⟨(groups : List (RowE [.sl [.int .i64], .sl [.int .i64]])), _⟩, ⟨(reverse : Bool), _⟩, (left : List (RowE grS)), ⟨(i : Int), _⟩, _⟩ x hok hx
  refine Leads.of_eq (ltr_arrange_0 groups reverse left i) ?_
  obtain ⟨h0, h1, h2, h3⟩ := hok
  obtain ⟨m, rfl⟩ := Int.eq_ofNat_of_zero_le h0
  simp only [lgr_arrange_0, Int.toNat_natCast] at hx
  by_cases hm : m < groups.length
  · rw [lefts_at hm] at hx
    rw [wrap64 (x := (m : Int) + 1) (by omega) (by omega), wrap64 (x := (groups.length : Int) - 1) (by omega) (by omega), wrap64 (x := (groups.length : Int) - 1 - (m : Int)) (by omega) (by omega)]
    refine Leads.brD (fun _ => Leads.br (fun w => Leads.chk (by omega) fun _ => Leads.chk (by simp only [lim, List.length_cons, List.length_nil]; omega) fun _ => Leads.one ?_) (fun w => Leads.chk (by omega) fun _ => Leads.chk (by simp only [lim, List.length_cons, List.length_nil]; omega) fun _ => Leads.one ?_)) (fun q => by omega)
    · have w : reverse = true := w
      rw [w, cond_true] at hx
      refine Goes.again (ks := [.v false [.sl [.sl [.int .i64], .sl [.int .i64]]], .v false [.bool], .a grS, .v false [.int .i64]]) ((_, ()), (_, ()), _, (_, ()), ()) rfl ?_ ?_ ?_
      · exact ⟨by omega, by omega, h2, by rw [List.length_append]; simp only [List.length_cons, List.length_nil]; omega⟩
      · simp only [lmr_arrange_0]; omega
      · simp only [lgr_arrange_0, toNat_add1]; rw [List.append_assoc, w]; exact hx
    · have w : reverse = false := w
      rw [w, cond_false] at hx
      refine Goes.again (ks := [.v false [.sl [.sl [.int .i64], .sl [.int .i64]]], .v false [.bool], .a grS, .v false [.int .i64]]) ((_, ()), (_, ()), _, (_, ()), ()) rfl ?_ ?_ ?_
      · exact ⟨by omega, by omega, h2, by rw [List.length_append]; simp only [List.length_cons, List.length_nil]; omega⟩
      · simp only [lmr_arrange_0]; omega
      · simp only [lgr_arrange_0, toNat_add1]; rw [List.append_assoc, w]; exact hx
  · rw [List.drop_of_length_le (by unfold lefts; cases reverse <;> simp <;> omega), List.append_nil] at hx
    exact Leads.brD (fun q => by omega) (fun _ => Leads.one (Goes.out (Out_leaf hx)))
theorem ltr_arrange_1 (l : List (RowE [.int .i64, .str, .str, .str, .int .i64, .str, .str, .str, .int .i64, .str, .str, .str])) (left : List (RowE grS)) (out : List (RowE grS)) : evRound T (Ep (Er_next)) (Ln (Lr_arrange)) (loopAt 1 (loops (bodyOf Try.f23))) (lsr_arrange_1) [.val (.d (.sl [.int .i64, .str, .str, .str, .int .i64, .str, .str, .str, .int .i64, .str, .str, .str] l)), .app grS left, .app grS out] =
    br (decide ((↑left.length : Int) > (0 : Int))) (chk (left.length ≤ (2000000 : Nat) ∧ out.length ≤ (2000000 : Nat) ∧ (∀ (x : RowE grS), x ∈ out → szGr x) ∧ ∀ (x : RowE grS), x ∈ left → szGr x) (chk ((0 : Int) ≤ nextP l out left ∧ nextP l out left < (↑left.length : Int)) (chk (((↑out.length : Int) + (↑[getR grS left (nextP l out left)].length : Int)) * (↑(48 : Nat) : Int) < lim) (chk ((0 : Int) ≤ nextP l out left ∧ nextP l out left ≤ (↑left.length : Int)) (chk (((↑(List.nil (α := RowE [.int .u8])).length : Int) + (↑(List.take (nextP l out left).toNat left).length : Int)) * (↑(48 : Nat) : Int) < lim) (chk ((0 : Int) ≤ IntKind.i64.wrap (nextP l out left + (1 : Int)) ∧ IntKind.i64.wrap (nextP l out left + (1 : Int)) ≤ (↑left.length : Int)) (chk (((↑([] ++ List.take (nextP l out left).toNat left).length : Int) + (↑(List.drop (IntKind.i64.wrap (nextP l out left + (1 : Int))).toNat left).length : Int)) * (↑(48 : Nat) : Int) < lim) (some (Rnd.again [SV.val (AV.d (D.sl t3S l)), SV.app grS ([] ++ List.take (nextP l out left).toNat left ++ List.drop (IntKind.i64.wrap (nextP l out left + (1 : Int))).toNat left), SV.app grS (out ++ [getR grS left (nextP l out left)])]))))))))) (some (Rnd.out (Ex.exit (2 : Nat)) [SV.app grS out])) := by kernel_rfl
theorem lokr_arrange_1 : LoopOK T (Ep (Er_next)) (Ln (Lr_arrange)) (loopAt 1 (loops (bodyOf Try.f23))) := by
  refine loop_ok (live := [0, 7, 9]) (outs := [9]) (rets := []) (ks := [.v false [.sl [.int .i64, .str, .str, .str, .int .i64, .str, .str, .str, .int .i64, .str, .str, .str]], .a grS, .a grS]) (G := lgr_arrange_1) (lkr_arrange_1) (lmr_arrange_1) (by kernel_rfl) ?_
  rintro ⟨⟨(l : List (RowE [.int .i64, .str, .str, .str, .int .i64, .str, .str, .str, .int .i64, .str, .str, .str])), _⟩, (left : List (RowE grS)), (out : List (RowE grS)), _⟩ x hok hx
  refine Leads.of_eq (ltr_arrange_1 l left out) ?_
  obtain ⟨h1, h2, h3⟩ := hok
  simp only [lgr_arrange_1] at hx
  by_cases hp : 0 < left.length
  · have hn := next_in l out left hp
    rw [refArr_ne l hp] at hx
    obtain ⟨n, hnn⟩ := Int.eq_ofNat_of_zero_le hn.1
    have e1 : [] ++ List.take (nextP l out left).toNat left ++ List.drop (nextP l out left + 1).toNat left = left.eraseIdx (nextP l out left).toNat := by
      rw [List.nil_append, List.eraseIdx_eq_take_drop_succ, hnn]; rfl
    rw [wrap64 (x := nextP l out left + 1) (by omega) (by omega)]
    have e2 : (left.eraseIdx (nextP l out left).toNat).length + 1 = left.length := by
      rw [List.length_eraseIdx, if_pos (by omega)]; omega
    refine Leads.brD (fun _ => Leads.chk ⟨by omega, by omega, h3, h2⟩ fun _ => Leads.chk hn fun _ => Leads.chk (by simp only [lim, List.length_cons, List.length_nil]; omega) fun _ => Leads.chk (by omega) fun _ => Leads.chk (by simp only [lim, List.length_nil, List.length_take]; omega) fun _ => Leads.chk (by omega) fun _ => Leads.chk (by simp only [lim, List.length_append, List.length_nil, List.length_take, List.length_drop]; omega) fun _ => Leads.one ?_) (fun q => by omega)
    rw [e1]
    refine Goes.again (ks := [.v false [.sl [.int .i64, .str, .str, .str, .int .i64, .str, .str, .str, .int .i64, .str, .str, .str]], .a grS, .a grS]) ((_, ()), _, _, ()) rfl ?_ ?_ ?_
    · refine ⟨by rw [List.length_append]; simp only [List.length_cons, List.length_nil]; omega, fun x hx => h2 x (List.mem_of_mem_eraseIdx hx), fun x hx => ?_⟩
      rcases List.mem_append.1 hx with hx | hx
      · exact h3 x hx
      · rw [List.mem_singleton.1 hx]; exact h2 _ (getR_mem hn.1 hn.2)
    · simp only [lmr_arrange_1]; omega
    · simp only [lgr_arrange_1]; exact hx
  · have hz : left.length = 0 := by omega
    rw [hz, refArr] at hx
    exact Leads.brD (fun q => by omega) (fun _ => Leads.one (Goes.out (Out_leaf hx)))
theorem tr_arrange (l : List (RowE [.int .i64, .str, .str, .str, .int .i64, .str, .str, .str, .int .i64, .str, .str, .str])) (groups : List (RowE [.sl [.int .i64], .sl [.int .i64]])) (reverse : Bool) : evF T (Ep (Er_next)) (Ln (Lr_arrange)) Try.f23 [.d (.sl [.int .i64, .str, .str, .str, .int .i64, .str, .str, .str, .int .i64, .str, .str, .str] l), .d (.sl [.sl [.int .i64], .sl [.int .i64]] groups), .d (.bool reverse)] =
    chk (lkr_arrange_0 ((groups, ()), (reverse, ()), [], ((0 : Int), ()), ())) (chk (lkr_arrange_1 ((l, ()), [] ++ List.drop (Int.toNat (0 : Int)) (lefts groups reverse), [], ())) (some (SV.app grS (refArr l ([] ++ List.drop (Int.toNat (0 : Int)) (lefts groups reverse)).length ([] ++ List.drop (Int.toNat (0 : Int)) (lefts groups reverse)) [])))) := by kernel_rfl
theorem satr_arrange : Sat P 23 (Sr_arrange) := by
  refine sat_mk (LT := Ln (Lr_arrange)) hC (SatE.ep okr_next) mixed Try.func23 (by kernel_rfl) (c := bodyOf Try.f23) (by kernel_rfl) (by kernel_rfl) ?_ (loops2 (by kernel_rfl) (lokr_arrange_0) (lokr_arrange_1))
  rintro ⟨⟨(l : List (RowE [.int .i64, .str, .str, .str, .int .i64, .str, .str, .str, .int .i64, .str, .str, .str])), _⟩, ⟨(groups : List (RowE [.sl [.int .i64], .sl [.int .i64]])), _⟩, ⟨(reverse : Bool), _⟩, _⟩ sv h
  refine Leads.eq (Leads.of_eq (tr_arrange l groups reverse) ?_)
  obtain ⟨⟨h1, h2⟩, h⟩ := h
  obtain rfl := Out_leaf h
  have hl : (lefts groups reverse).length = groups.length := by unfold lefts; cases reverse <;> simp
  refine Leads.chk ⟨by omega, Int.natCast_nonneg _, h1, by simp⟩ fun _ => ?_
  rw [List.nil_append, show List.drop (Int.toNat (0 : Int)) (lefts groups reverse) = lefts groups reverse from rfl, hl]
  refine Leads.chk ⟨by rw [hl]; simpa using h1, fun x hx => h2 x ?_, by simp⟩ fun _ => Leads.one rfl
  unfold lefts at hx
  cases reverse
  · exact hx
  · exact List.mem_reverse.1 hx
def Er_arrange : Es := (23, (Sr_arrange)) :: Er_next
theorem okr_arrange : SatE P (En (Er_arrange)) := SatE.cons (satr_arrange) okr_next
end Go.Proofs.Ytgcjhcefpkbheaa.T20
