/- Part of a proof of the seat's statements: no statement by itself. -/
import Derived.Test.YtoopcfjmmhmamaaQ6E
import Derived.Test.YtoopcfjmmhmamaaSpL
section
set_option maxRecDepth 100000
open Go.Proofs.Ytoopcfjmmhmamaa.Lg Go Go.Proofs.Ytoopcfjmmhmamaa.Sp
open Go.Proofs
namespace Go.Proofs.Ytoopcfjmmhmamaa.T6


abbrev tkS : List Sh := [.int .i64, .str, .int .i64, .str, .str, .str, .int .i64]
def tokR (x : Tok × Nat) : Tr SV := .leaf (.val (.tup [.agg (rowD tkS x.1), .d (.int .i64 (x.2 : Nat))]))
/-! ### legation/legationref05.Space -/
def Lr5_Space : Ls := []
def Sr5_Space := mkS [(false, [.int .u8])] fun ⟨⟨(b : Int), _⟩, _⟩ => bl (spaceI b)
theorem tr5_Space (b : Int) : evF T (En (Er1_Prefix)) (Ln (Lr5_Space)) Try.f42 [.d (.int .u8 b)] =
    br (b == (32 : Int)) (some (SV.val (AV.d (D.bool true)))) (br (b == (9 : Int)) (some (SV.val (AV.d (D.bool true)))) (some (SV.val (AV.d (D.bool (b == (10 : Int))))))) := by kernel_rfl
theorem satr5_Space : Sat P 42 (Sr5_Space) := by
  refine sat_mk (LT := Ln (Lr5_Space)) hC okr1_Prefix mixed Try.func42 (by kernel_rfl) (c := bodyOf Try.f42) (by kernel_rfl) (by kernel_rfl) ?_ (loops0 (by kernel_rfl))
  rintro ⟨⟨(b : Int), _⟩, _⟩ sv h
  refine Leads.eq (Leads.of_eq (tr5_Space b) ?_)
  have h := Out_leaf h
  repeat' (first | refine Leads.brD (fun _ => ?_) (fun _ => ?_) | refine Leads.brE (fun _ => ?_) (fun _ => ?_) | refine Leads.brN (fun _ => ?_) (fun _ => ?_) | refine Leads.brM (fun _ => ?_) (fun _ => ?_) | refine Leads.brG (fun _ => ?_) (fun _ => ?_) | refine Leads.br (fun _ => ?_) (fun _ => ?_) | refine Leads.chk ?_ (fun _ => ?_) | refine Leads.one ?_ | refine Leads.brP (fun _ => ?_) (fun _ => ?_))
  all_goals (rw [h]; refine congrArg (fun z => SV.val (.d (.bool z))) ?_; rw [Bool.eq_iff_iff]; simp [spaceI] at *; try omega)
def Er5_Space : Es := (42, Sr5_Space) :: Er1_Prefix
theorem okr5_Space : SatE P (En (Er5_Space)) := SatE.cons (satr5_Space) okr1_Prefix
/-! ### legation/legationref05.Letter -/
def Lr5_Letter : Ls := []
def Sr5_Letter := mkS [(false, [.int .u8])] fun ⟨⟨(b : Int), _⟩, _⟩ => bl (letterI b)
theorem tr5_Letter (b : Int) : evF T (En (Er5_Space)) (Ln (Lr5_Letter)) Try.f43 [.d (.int .u8 b)] =
    br (betw b (97 : Int) (122 : Int)) (some (SV.val (AV.d (D.bool true)))) (some (SV.val (AV.d (D.bool (betw b (65 : Int) (90 : Int)))))) := by kernel_rfl
theorem satr5_Letter : Sat P 43 (Sr5_Letter) := by
  refine sat_mk (LT := Ln (Lr5_Letter)) hC okr5_Space mixed Try.func43 (by kernel_rfl) (c := bodyOf Try.f43) (by kernel_rfl) (by kernel_rfl) ?_ (loops0 (by kernel_rfl))
  rintro ⟨⟨(b : Int), _⟩, _⟩ sv h
  refine Leads.eq (Leads.of_eq (tr5_Letter b) ?_)
  have h := Out_leaf h
  repeat' (first | refine Leads.brD (fun _ => ?_) (fun _ => ?_) | refine Leads.brE (fun _ => ?_) (fun _ => ?_) | refine Leads.brN (fun _ => ?_) (fun _ => ?_) | refine Leads.brM (fun _ => ?_) (fun _ => ?_) | refine Leads.brG (fun _ => ?_) (fun _ => ?_) | refine Leads.br (fun _ => ?_) (fun _ => ?_) | refine Leads.chk ?_ (fun _ => ?_) | refine Leads.one ?_ | refine Leads.brP (fun _ => ?_) (fun _ => ?_))
  all_goals (rw [h]; refine congrArg (fun z => SV.val (.d (.bool z))) ?_; rw [Bool.eq_iff_iff]; simp [letterI, betw] at *; try omega)
def Er5_Letter : Es := (43, Sr5_Letter) :: Er5_Space
theorem okr5_Letter : SatE P (En (Er5_Letter)) := SatE.cons (satr5_Letter) okr5_Space
/-! ### legation/legationref05.Digit -/
def Lr5_Digit : Ls := []
def Sr5_Digit := mkS [(false, [.int .u8])] fun ⟨⟨(b : Int), _⟩, _⟩ => bl (digitI b)
theorem tr5_Digit (b : Int) : evF T (En (Er5_Letter)) (Ln (Lr5_Digit)) Try.f44 [.d (.int .u8 b)] =
    some (SV.val (AV.d (D.bool (betw b (48 : Int) (57 : Int))))) := by kernel_rfl
theorem satr5_Digit : Sat P 44 (Sr5_Digit) := by
  refine sat_mk (LT := Ln (Lr5_Digit)) hC okr5_Letter mixed Try.func44 (by kernel_rfl) (c := bodyOf Try.f44) (by kernel_rfl) (by kernel_rfl) ?_ (loops0 (by kernel_rfl))
  rintro ⟨⟨(b : Int), _⟩, _⟩ sv h
  refine Leads.eq (Leads.of_eq (tr5_Digit b) ?_)
  have h := Out_leaf h
  repeat' (first | refine Leads.brD (fun _ => ?_) (fun _ => ?_) | refine Leads.brE (fun _ => ?_) (fun _ => ?_) | refine Leads.brN (fun _ => ?_) (fun _ => ?_) | refine Leads.brM (fun _ => ?_) (fun _ => ?_) | refine Leads.brG (fun _ => ?_) (fun _ => ?_) | refine Leads.br (fun _ => ?_) (fun _ => ?_) | refine Leads.chk ?_ (fun _ => ?_) | refine Leads.one ?_ | refine Leads.brP (fun _ => ?_) (fun _ => ?_))
  all_goals (rw [h]; refine congrArg (fun z => SV.val (.d (.bool z))) ?_; rw [Bool.eq_iff_iff]; simp [digitI, betw] at *; try omega)
def Er5_Digit : Es := (44, Sr5_Digit) :: Er5_Letter
theorem okr5_Digit : SatE P (En (Er5_Digit)) := SatE.cons (satr5_Digit) okr5_Letter
/-! ### legation/legationref05.Run -/
def lkr5_Run_0 : St [.v false [.str], .v false [.int .i64], .v false [.int .i64], .v false [.int .i64]] → Prop := fun ⟨⟨(s : List UInt8), _⟩, ⟨(at_ : Int), _⟩, ⟨(kind : Int), _⟩, ⟨(n : Int), _⟩, _⟩ => 0 ≤ at_ ∧ 0 ≤ n ∧ at_ + n ≤ (s.length : Int) ∧ s.length ≤ 1152921504606846976 ∧ (kind = 1 ∨ kind = 2 ∨ kind = 3)
def lgr5_Run_0 : St [.v false [.str], .v false [.int .i64], .v false [.int .i64], .v false [.int .i64]] → Tr (Ex × List SV) := fun ⟨⟨(s : List UInt8), _⟩, ⟨(at_ : Int), _⟩, ⟨(kind : Int), _⟩, ⟨(n : Int), _⟩, _⟩ => .brP (many (runI kind) (s.drop (at_ + n).toNat) < (s.drop (at_ + n).toNat).length) (.leaf (.ret, [.val (.d (.int .i64 (n + (many (runI kind) (s.drop (at_ + n).toNat) : Nat))))])) (.leaf (.exit 0, [.val (.d (.int .i64 (n + (many (runI kind) (s.drop (at_ + n).toNat) : Nat))))]))
def lmr5_Run_0 : St [.v false [.str], .v false [.int .i64], .v false [.int .i64], .v false [.int .i64]] → Nat := fun ⟨⟨(s : List UInt8), _⟩, ⟨(at_ : Int), _⟩, ⟨(kind : Int), _⟩, ⟨(n : Int), _⟩, _⟩ => s.length - (at_ + n).toNat
def lsr5_Run_0 : LoopS := mkR [0, 1, 2, 7] [7] [6] [.v false [.str], .v false [.int .i64], .v false [.int .i64], .v false [.int .i64]] (fun r => .chk (lkr5_Run_0 r) (lgr5_Run_0 r))
def Lr5_Run : Ls := [(2, lsr5_Run_0)]
def Sr5_Run := mkS [(false, [.str]), (false, [.int .i64]), (false, [.int .i64])] fun ⟨⟨(s : List UInt8), _⟩, ⟨(at_ : Int), _⟩, ⟨(kind : Int), _⟩, _⟩ => .chk (s.length ≤ 1152921504606846976 ∧ 0 ≤ at_ ∧ at_ ≤ (s.length : Int) ∧ (kind = 1 ∨ kind = 2 ∨ kind = 3)) (ii (many (runI kind) (s.drop at_.toNat)))
theorem ltr5_Run_0 (s : List UInt8) (at_ : Int) (kind : Int) (n : Int) : evRound T (En (Er5_Digit)) (Ln (Lr5_Run)) (loopAt 0 (loops (bodyOf Try.f28))) (lsr5_Run_0) [.val (.d (.str  s)), .val (.d (.int .i64 at_)), .val (.d (.int .i64 kind)), .val (.d (.int .i64 n))] =
    br (decide (IntKind.i64.wrap (at_ + n) < (↑s.length : Int))) (chk ((0 : Int) ≤ IntKind.i64.wrap (at_ + n) ∧ IntKind.i64.wrap (at_ + n) < (↑s.length : Int)) (br (kind == (1 : Int)) (br (!spaceI (byteAt s (IntKind.i64.wrap (at_ + n)))) (some (Rnd.out Ex.ret [SV.val (AV.d (D.int IntKind.i64 n))])) (br (kind == (2 : Int)) (br (!letterI (byteAt s (IntKind.i64.wrap (at_ + n)))) (some (Rnd.out Ex.ret [SV.val (AV.d (D.int IntKind.i64 n))])) (br (kind == (3 : Int)) (br (!digitI (byteAt s (IntKind.i64.wrap (at_ + n)))) (some (Rnd.out Ex.ret [SV.val (AV.d (D.int IntKind.i64 n))])) (some (Rnd.again [SV.val (AV.d (D.str s)), SV.val (AV.d (D.int IntKind.i64 at_)), SV.val (AV.d (D.int IntKind.i64 kind)), SV.val (AV.d (D.int IntKind.i64 (IntKind.i64.wrap (n + (1 : Int)))))]))) (some (Rnd.again [SV.val (AV.d (D.str s)), SV.val (AV.d (D.int IntKind.i64 at_)), SV.val (AV.d (D.int IntKind.i64 kind)), SV.val (AV.d (D.int IntKind.i64 (IntKind.i64.wrap (n + (1 : Int)))))])))) (br (kind == (3 : Int)) (br (!digitI (byteAt s (IntKind.i64.wrap (at_ + n)))) (some (Rnd.out Ex.ret [SV.val (AV.d (D.int IntKind.i64 n))])) (some (Rnd.again [SV.val (AV.d (D.str s)), SV.val (AV.d (D.int IntKind.i64 at_)), SV.val (AV.d (D.int IntKind.i64 kind)), SV.val (AV.d (D.int IntKind.i64 (IntKind.i64.wrap (n + (1 : Int)))))]))) (some (Rnd.again [SV.val (AV.d (D.str s)), SV.val (AV.d (D.int IntKind.i64 at_)), SV.val (AV.d (D.int IntKind.i64 kind)), SV.val (AV.d (D.int IntKind.i64 (IntKind.i64.wrap (n + (1 : Int)))))]))))) (br (kind == (2 : Int)) (br (!letterI (byteAt s (IntKind.i64.wrap (at_ + n)))) (some (Rnd.out Ex.ret [SV.val (AV.d (D.int IntKind.i64 n))])) (br (kind == (3 : Int)) (br (!digitI (byteAt s (IntKind.i64.wrap (at_ + n)))) (some (Rnd.out Ex.ret [SV.val (AV.d (D.int IntKind.i64 n))])) (some (Rnd.again [SV.val (AV.d (D.str s)), SV.val (AV.d (D.int IntKind.i64 at_)), SV.val (AV.d (D.int IntKind.i64 kind)), SV.val (AV.d (D.int IntKind.i64 (IntKind.i64.wrap (n + (1 : Int)))))]))) (some (Rnd.again [SV.val (AV.d (D.str s)), SV.val (AV.d (D.int IntKind.i64 at_)), SV.val (AV.d (D.int IntKind.i64 kind)), SV.val (AV.d (D.int IntKind.i64 (IntKind.i64.wrap (n + (1 : Int)))))])))) (br (kind == (3 : Int)) (br (!digitI (byteAt s (IntKind.i64.wrap (at_ + n)))) (some (Rnd.out Ex.ret [SV.val (AV.d (D.int IntKind.i64 n))])) (some (Rnd.again [SV.val (AV.d (D.str s)), SV.val (AV.d (D.int IntKind.i64 at_)), SV.val (AV.d (D.int IntKind.i64 kind)), SV.val (AV.d (D.int IntKind.i64 (IntKind.i64.wrap (n + (1 : Int)))))]))) (some (Rnd.again [SV.val (AV.d (D.str s)), SV.val (AV.d (D.int IntKind.i64 at_)), SV.val (AV.d (D.int IntKind.i64 kind)), SV.val (AV.d (D.int IntKind.i64 (IntKind.i64.wrap (n + (1 : Int)))))])))))) (some (Rnd.out (Ex.exit (0 : Nat)) [SV.val (AV.d (D.int IntKind.i64 n))])) := by kernel_rfl
theorem lokr5_Run_0 : LoopOK T (En (Er5_Digit)) (Ln (Lr5_Run)) (loopAt 0 (loops (bodyOf Try.f28))) := by
  refine loop_ok (live := [0, 1, 2, 7]) (outs := [7]) (rets := [6]) (ks := [.v false [.str], .v false [.int .i64], .v false [.int .i64], .v false [.int .i64]]) (G := lgr5_Run_0) (lkr5_Run_0) (lmr5_Run_0) (by kernel_rfl) ?_
  rintro ⟨⟨(s : List UInt8), _⟩, ⟨(at_ : Int), _⟩, ⟨(kind : Int), _⟩, ⟨(n : Int), _⟩, _⟩ x hok hx
  refine Leads.of_eq (ltr5_Run_0 s at_ kind n) ?_
  obtain ⟨h0, h1, h2, h3, hk⟩ := hok
  obtain ⟨a, rfl⟩ := Int.eq_ofNat_of_zero_le h0
  obtain ⟨m, rfl⟩ := Int.eq_ofNat_of_zero_le h1
  have e : ((a : Int) + (m : Int)) = ((a + m : Nat) : Int) := by omega
  simp only [lgr5_Run_0, e, Int.toNat_natCast] at hx
  rw [wrap64 (x := (a : Int) + m) (by omega) (by omega), e, wrap64 (by omega) (by omega)]
  have e2 : ((a : Int) + ((m : Int) + 1)).toNat = a + m + 1 := by omega
  rcases drop_cases s (a + m) with ⟨hle, hd⟩ | ⟨b, hlt, hd, hb⟩
  · refine Leads.brD (fun q => by omega) (fun _ => Leads.one (Goes.out ?_))
    rw [hd] at hx
    have := Out_leaf (Out_neg (by simp) hx)
    simpa [many] using this
  · rw [byteAt_u hb]
    rw [hd] at hx
    have key : runI kind (u b) = true → Goes [.v false [.str], .v false [.int .i64], .v false [.int .i64], .v false [.int .i64]] lgr5_Run_0 lkr5_Run_0 lmr5_Run_0 ((s, ()), ((a : Int), ()), (kind, ()), ((m : Int), ()), ()) x (.again [.val (.d (.str s)), .val (.d (.int .i64 (a : Int))), .val (.d (.int .i64 kind)), .val (.d (.int .i64 ((m : Int) + 1)))]) := by
      intro q
      simp only [many, q, if_true, List.length_cons] at hx
      refine Goes.again (ks := [.v false [.str], .v false [.int .i64], .v false [.int .i64], .v false [.int .i64]]) ((_, ()), (_, ()), (_, ()), (_, ()), ()) rfl ?_ ?_ ?_
      · exact ⟨by omega, by omega, by show (a : Int) + ((m : Int) + 1) ≤ (s.length : Int); omega, h3, hk⟩
      · show s.length - ((a : Int) + ((m : Int) + 1)).toNat < s.length - ((a : Int) + (m : Int)).toNat
        rw [e2, e]; simp only [Int.toNat_natCast]; omega
      · simp only [lgr5_Run_0, e2]
        rcases Out_brP hx with ⟨w, hx⟩ | ⟨w, hx⟩
        · refine .inl ⟨by omega, ?_⟩
          rw [show (m : Int) + 1 + ((many (runI kind) (s.drop (a + m + 1)) : Nat) : Int) = (m : Int) + ((many (runI kind) (s.drop (a + m + 1)) + 1 : Nat) : Int) by omega]
          exact hx
        · refine .inr ⟨by omega, ?_⟩
          rw [show (m : Int) + 1 + ((many (runI kind) (s.drop (a + m + 1)) : Nat) : Int) = (m : Int) + ((many (runI kind) (s.drop (a + m + 1)) + 1 : Nat) : Int) by omega]
          exact hx
    have stop : runI kind (u b) = false → x = (Ex.ret, [.val (.d (.int .i64 (m : Int)))]) := by
      intro q
      simp only [many, q, Bool.false_eq_true, if_false] at hx
      have := Out_leaf (Out_pos (by simp) hx)
      simpa using this
    rcases hk with rfl | rfl | rfl
    all_goals simp only [runI1, runI2, runI3] at key stop
    all_goals (repeat' (first | refine Leads.brD (fun _ => ?_) (fun _ => ?_) | refine Leads.brE (fun _ => ?_) (fun _ => ?_) | refine Leads.brN (fun _ => ?_) (fun _ => ?_) | refine Leads.brM (fun _ => ?_) (fun _ => ?_) | refine Leads.brG (fun _ => ?_) (fun _ => ?_) | refine Leads.br (fun _ => ?_) (fun _ => ?_) | refine Leads.chk ?_ (fun _ => ?_) | refine Leads.one ?_ | refine Leads.brP (fun _ => ?_) (fun _ => ?_)))
    all_goals first | omega | (exfalso; omega) | (exact Goes.out (stop (by assumption))) | (exact key (by assumption)) | skip
theorem tr5_Run (s : List UInt8) (at_ : Int) (kind : Int) : evF T (En (Er5_Digit)) (Ln (Lr5_Run)) Try.f28 [.d (.str s), .d (.int .i64 at_), .d (.int .i64 kind)] =
    chk (lkr5_Run_0 ((s, ()), (at_, ()), (kind, ()), ((0 : Int), ()), ())) (brP (many (runI kind) (List.drop (at_ + (0 : Int)).toNat s) < (List.drop (at_ + (0 : Int)).toNat s).length) (some (SV.val (AV.d (D.int IntKind.i64 ((0 : Int) + (↑(many (runI kind) (List.drop (at_ + (0 : Int)).toNat s)) : Int)))))) (some (SV.val (AV.d (D.int IntKind.i64 ((0 : Int) + (↑(many (runI kind) (List.drop (at_ + (0 : Int)).toNat s)) : Int))))))) := by kernel_rfl
theorem satr5_Run : Sat P 28 (Sr5_Run) := by
  refine sat_mk (LT := Ln (Lr5_Run)) hC okr5_Digit mixed Try.func28 (by kernel_rfl) (c := bodyOf Try.f28) (by kernel_rfl) (by kernel_rfl) ?_ (loops1 (by kernel_rfl) (lokr5_Run_0))
  rintro ⟨⟨(s : List UInt8), _⟩, ⟨(at_ : Int), _⟩, ⟨(kind : Int), _⟩, _⟩ sv h
  refine Leads.eq (Leads.of_eq (tr5_Run s at_ kind) ?_)
  obtain ⟨⟨hs, h0, h1, hk⟩, h⟩ := h
  have h := Out_leaf h
  have e : (at_ + 0).toNat = at_.toNat := by omega
  rw [e]
  exact Leads.chk ⟨h0, by omega, by omega, hs, hk⟩ fun _ => Leads.brP (fun _ => Leads.one (by rw [h]; simp)) (fun _ => Leads.one (by rw [h]; simp))
def Er5_Run : Es := (28, Sr5_Run) :: Er5_Digit
theorem okr5_Run : SatE P (En (Er5_Run)) := SatE.cons (satr5_Run) okr5_Digit
/-! ### legation/legationref05.sign -/
def Lr5_sign : Ls := []
def Sr5_sign := mkS [(false, [.str])] fun ⟨⟨(s : List UInt8), _⟩, _⟩ => .chk (s.length ≤ 1152921504606846976 ∧ 0 < s.length) (ii (signS s).length)
theorem tr5_sign (s : List UInt8) : evF T (En (Er5_Run)) (Ln (Lr5_sign)) Try.f58 [.d (.str s)] =
    br (decide ((↑s.length : Int) ≥ (2 : Int))) (chk ((0 : Int) ≤ (2 : Int) ∧ (2 : Int) ≤ (↑s.length : Int)) (br (List.take (Int.toNat (2 : Int)) s == [(60 : UInt8), (61 : UInt8)]) (some (SV.val (AV.d (D.int IntKind.i64 (2 : Int))))) (br (List.take (Int.toNat (2 : Int)) s == [(62 : UInt8), (61 : UInt8)]) (some (SV.val (AV.d (D.int IntKind.i64 (2 : Int))))) (br (List.take (Int.toNat (2 : Int)) s == [(33 : UInt8), (61 : UInt8)]) (some (SV.val (AV.d (D.int IntKind.i64 (2 : Int))))) (br (List.take (Int.toNat (2 : Int)) s == [(38 : UInt8), (38 : UInt8)]) (some (SV.val (AV.d (D.int IntKind.i64 (2 : Int))))) (br (List.take (Int.toNat (2 : Int)) s == [(124 : UInt8), (124 : UInt8)]) (some (SV.val (AV.d (D.int IntKind.i64 (2 : Int))))) (chk ((0 : Int) ≤ (0 : Int) ∧ (0 : Int) < (↑s.length : Int)) (chk ([(123 : UInt8), (125 : UInt8), (40 : UInt8), (41 : UInt8), (46 : UInt8), (44 : UInt8), (42 : UInt8), (43 : UInt8), (45 : UInt8), (47 : UInt8), (61 : UInt8), (60 : UInt8), (62 : UInt8), (33 : UInt8)].length ≤ Big) (br (isIn (byteAt s (0 : Int)) [(123 : UInt8), (125 : UInt8), (40 : UInt8), (41 : UInt8), (46 : UInt8), (44 : UInt8), (42 : UInt8), (43 : UInt8), (45 : UInt8), (47 : UInt8), (61 : UInt8), (60 : UInt8), (62 : UInt8), (33 : UInt8)]) (some (SV.val (AV.d (D.int IntKind.i64 (1 : Int))))) (some (SV.val (AV.d (D.int IntKind.i64 (0 : Int)))))))))))))) (chk ((0 : Int) ≤ (0 : Int) ∧ (0 : Int) < (↑s.length : Int)) (chk ([(123 : UInt8), (125 : UInt8), (40 : UInt8), (41 : UInt8), (46 : UInt8), (44 : UInt8), (42 : UInt8), (43 : UInt8), (45 : UInt8), (47 : UInt8), (61 : UInt8), (60 : UInt8), (62 : UInt8), (33 : UInt8)].length ≤ Big) (br (isIn (byteAt s (0 : Int)) [(123 : UInt8), (125 : UInt8), (40 : UInt8), (41 : UInt8), (46 : UInt8), (44 : UInt8), (42 : UInt8), (43 : UInt8), (45 : UInt8), (47 : UInt8), (61 : UInt8), (60 : UInt8), (62 : UInt8), (33 : UInt8)]) (some (SV.val (AV.d (D.int IntKind.i64 (1 : Int))))) (some (SV.val (AV.d (D.int IntKind.i64 (0 : Int)))))))) := by kernel_rfl
theorem satr5_sign : Sat P 58 (Sr5_sign) := by
  refine sat_mk (LT := Ln (Lr5_sign)) hC okr5_Run mixed Try.func58 (by kernel_rfl) (c := bodyOf Try.f58) (by kernel_rfl) (by kernel_rfl) ?_ (loops0 (by kernel_rfl))
  rintro ⟨⟨(s : List UInt8), _⟩, _⟩ sv h
  refine Leads.eq (Leads.of_eq (tr5_sign s) ?_)
  obtain ⟨⟨hs, h0⟩, h⟩ := h
  have h := Out_leaf h
  rw [signs_ne s (by intro e; simp [e] at h0)] at h
  have hs1 : ([123, 125, 40, 41, 46, 44, 42, 43, 45, 47, 61, 60, 62, 33] : List UInt8) = signs1 := rfl
  rw [hs1]
  have hB : signs1.length ≤ Big := by decide
  have t2 : 2 ≤ s.length → two s = true → sv = .val (.d (.int .i64 2)) := fun l q => by rw [h, if_pos q, List.length_take, show min 2 s.length = 2 by omega]; rfl
  have one : two s = false → Leads (R := SV) ((chk ((0 : Int) ≤ (0 : Int) ∧ (0 : Int) < (↑s.length : Int)) (chk ([(123 : UInt8), (125 : UInt8), (40 : UInt8), (41 : UInt8), (46 : UInt8), (44 : UInt8), (42 : UInt8), (43 : UInt8), (45 : UInt8), (47 : UInt8), (61 : UInt8), (60 : UInt8), (62 : UInt8), (33 : UInt8)].length ≤ Big) (br (isIn (byteAt s (0 : Int)) [(123 : UInt8), (125 : UInt8), (40 : UInt8), (41 : UInt8), (46 : UInt8), (44 : UInt8), (42 : UInt8), (43 : UInt8), (45 : UInt8), (47 : UInt8), (61 : UInt8), (60 : UInt8), (62 : UInt8), (33 : UInt8)]) (some (SV.val (AV.d (D.int IntKind.i64 (1 : Int))))) (some (SV.val (AV.d (D.int IntKind.i64 (0 : Int))))))))) (fun z => z = sv) := by
    intro q
    rw [q] at h
    simp only [Bool.false_eq_true, if_false] at h
    refine Leads.chk (by omega) fun _ => Leads.chk hB fun _ => Leads.br (fun z => Leads.one ?_) (fun z => Leads.one ?_)
    · have z : isIn (byteAt s 0) signs1 = true := z
      rw [h, if_pos z, List.length_take, show min 1 s.length = 1 by omega]; rfl
    · have z : isIn (byteAt s 0) signs1 = false := z
      rw [h, if_neg (by rw [z]; simp)]; rfl
  refine Leads.brD (fun l => Leads.chk (by omega) fun _ => ?_) (fun l => one ?_)
  · rw [show Int.toNat 2 = 2 from rfl]
    refine Leads.brE (fun q => Leads.one ?_) (fun q1 => Leads.brE (fun q => Leads.one ?_) (fun q2 => Leads.brE (fun q => Leads.one ?_) (fun q3 => Leads.brE (fun q => Leads.one ?_) (fun q4 => Leads.brE (fun q => Leads.one ?_) (fun q5 => one ?_)))))
    · rw [t2 (by omega) (by simp [two, q])]
    · rw [t2 (by omega) (by simp [two, q])]
    · rw [t2 (by omega) (by simp [two, q])]
    · rw [t2 (by omega) (by simp [two, q])]
    · rw [t2 (by omega) (by simp [two, q])]
    · simp [two, q1, q2, q3, q4, q5]
  · match s, l with
    | [], _ => rfl
    | [_], _ => simp [two]
    | _ :: _ :: _, l => simp at l; omega
def Er5_sign : Es := (58, Sr5_sign) :: Er5_Run
theorem okr5_sign : SatE P (En (Er5_sign)) := SatE.cons (satr5_sign) okr5_Run

end Go.Proofs.Ytoopcfjmmhmamaa.T6
end

section
set_option maxRecDepth 100000
open Go.Proofs.Ytoopcfjmmhmamaa.Lg Go Go.Proofs.Ytoopcfjmmhmamaa.Sp
open Go.Proofs
namespace Go.Proofs.Ytoopcfjmmhmamaa.T6


/-! ### legation/legationref05.word -/
def Lr5_word : Ls := []
def Sr5_word := mkS [(false, [.str])] fun ⟨⟨(s : List UInt8), _⟩, _⟩ => .chk (s.length ≤ 140737488351232 ∧ 0 < s.length) (tokR (wordS s))
theorem tr5_word (s : List UInt8) : evF T (En (Er5_sign)) (Ln (Lr5_word)) Try.f45 [.d (.str s)] =
    chk (s.length ≤ (1152921504606846976 : Nat))
  (br (decide ((prefixS s).snd.snd.snd.snd > (0 : Int)))
    (br ((prefixS s).fst == (4 : Int)) (some (SV.val (AV.tup [AV.agg [D.int IntKind.i64 (2 : Int), D.str (prefixS s).snd.fst, D.int IntKind.i64 (CE.dflt (Sh.int IntKind.i64)), D.str (CE.dflt Sh.str), D.str (CE.dflt Sh.str), D.str (CE.dflt Sh.str), D.int IntKind.i64 (CE.dflt (Sh.int IntKind.i64))], AV.d (D.int IntKind.i64 (prefixS s).snd.snd.snd.snd)])))
      (br (decide ((prefixS s).snd.snd.snd.snd > (0 : Int))) (some (SV.val (AV.tup [AV.agg [D.int IntKind.i64 (3 : Int), D.str (CE.dflt Sh.str), D.int IntKind.i64 (prefixS s).fst, D.str (prefixS s).snd.fst, D.str (prefixS s).snd.snd.fst, D.str (prefixS s).snd.snd.snd.fst, D.int IntKind.i64 (CE.dflt (Sh.int IntKind.i64))], AV.d (D.int IntKind.i64 (prefixS s).snd.snd.snd.snd)])))
        (chk (s.length ≤ (1152921504606846976 : Nat) ∧ (0 : Int) ≤ (0 : Int) ∧ (0 : Int) ≤ (↑s.length : Int) ∧ ((2 : Int) = (1 : Int) ∨ (2 : Int) = (2 : Int) ∨ (2 : Int) = (3 : Int)))
          (br (decide ((↑(many (runI (2 : Int)) (List.drop (Int.toNat (0 : Int)) s)) : Int) > (0 : Int))) (chk ((0 : Int) ≤ (↑(many (runI (2 : Int)) (List.drop (Int.toNat (0 : Int)) s)) : Int) ∧ (↑(many (runI (2 : Int)) (List.drop (Int.toNat (0 : Int)) s)) : Int) ≤ (↑s.length : Int)) (some (SV.val (AV.tup [AV.agg [D.int IntKind.i64 (1 : Int), D.str (List.take (↑(many (runI (2 : Int)) (List.drop (Int.toNat (0 : Int)) s)) : Int).toNat s), D.int IntKind.i64 (CE.dflt (Sh.int IntKind.i64)), D.str (CE.dflt Sh.str), D.str (CE.dflt Sh.str), D.str (CE.dflt Sh.str), D.int IntKind.i64 (CE.dflt (Sh.int IntKind.i64))], AV.d (D.int IntKind.i64 (↑(many (runI (2 : Int)) (List.drop (Int.toNat (0 : Int)) s)) : Int))]))))
            (chk (s.length ≤ (1152921504606846976 : Nat) ∧ (0 : Int) ≤ (0 : Int) ∧ (0 : Int) ≤ (↑s.length : Int) ∧ ((3 : Int) = (1 : Int) ∨ (3 : Int) = (2 : Int) ∨ (3 : Int) = (3 : Int)))
              (br (decide ((↑(many (runI (3 : Int)) (List.drop (Int.toNat (0 : Int)) s)) : Int) > (0 : Int)))
                (br (decide ((↑(many (runI (3 : Int)) (List.drop (Int.toNat (0 : Int)) s)) : Int) < (↑s.length : Int)))
                  (chk ((0 : Int) ≤ (↑(many (runI (3 : Int)) (List.drop (Int.toNat (0 : Int)) s)) : Int) ∧ (↑(many (runI (3 : Int)) (List.drop (Int.toNat (0 : Int)) s)) : Int) < (↑s.length : Int))
                    (br (byteAt s (↑(many (runI (3 : Int)) (List.drop (Int.toNat (0 : Int)) s)) : Int) == (46 : Int)) (chk (s.length ≤ (1152921504606846976 : Nat) ∧ (0 : Int) ≤ IntKind.i64.wrap ((↑(many (runI (3 : Int)) (List.drop (Int.toNat (0 : Int)) s)) : Int) + (1 : Int)) ∧ IntKind.i64.wrap ((↑(many (runI (3 : Int)) (List.drop (Int.toNat (0 : Int)) s)) : Int) + (1 : Int)) ≤ (↑s.length : Int) ∧ ((3 : Int) = (1 : Int) ∨ (3 : Int) = (2 : Int) ∨ (3 : Int) = (3 : Int))) (br (decide ((↑(many (runI (3 : Int)) (List.drop (IntKind.i64.wrap ((↑(many (runI (3 : Int)) (List.drop (Int.toNat (0 : Int)) s)) : Int) + (1 : Int))).toNat s)) : Int) > (0 : Int))) (chk (s.length ≤ (1152921504606846976 : Nat) ∧ (0 : Int) ≤ IntKind.i64.wrap ((↑(many (runI (3 : Int)) (List.drop (Int.toNat (0 : Int)) s)) : Int) + (1 : Int)) ∧ IntKind.i64.wrap ((↑(many (runI (3 : Int)) (List.drop (Int.toNat (0 : Int)) s)) : Int) + (1 : Int)) ≤ (↑s.length : Int) ∧ ((3 : Int) = (1 : Int) ∨ (3 : Int) = (2 : Int) ∨ (3 : Int) = (3 : Int))) (chk ((0 : Int) ≤ IntKind.i64.wrap (IntKind.i64.wrap ((↑(many (runI (3 : Int)) (List.drop (Int.toNat (0 : Int)) s)) : Int) + (1 : Int)) + (↑(many (runI (3 : Int)) (List.drop (IntKind.i64.wrap ((↑(many (runI (3 : Int)) (List.drop (Int.toNat (0 : Int)) s)) : Int) + (1 : Int))).toNat s)) : Int)) ∧ IntKind.i64.wrap (IntKind.i64.wrap ((↑(many (runI (3 : Int)) (List.drop (Int.toNat (0 : Int)) s)) : Int) + (1 : Int)) + (↑(many (runI (3 : Int)) (List.drop (IntKind.i64.wrap ((↑(many (runI (3 : Int)) (List.drop (Int.toNat (0 : Int)) s)) : Int) + (1 : Int))).toNat s)) : Int)) ≤ (↑s.length : Int)) (some (SV.val (AV.tup [AV.agg [D.int IntKind.i64 (3 : Int), D.str (CE.dflt Sh.str), D.int IntKind.i64 (2 : Int), D.str (List.take (IntKind.i64.wrap (IntKind.i64.wrap ((↑(many (runI (3 : Int)) (List.drop (Int.toNat (0 : Int)) s)) : Int) + (1 : Int)) + (↑(many (runI (3 : Int)) (List.drop (IntKind.i64.wrap ((↑(many (runI (3 : Int)) (List.drop (Int.toNat (0 : Int)) s)) : Int) + (1 : Int))).toNat s)) : Int))).toNat s), D.str [(104 : UInt8), (116 : UInt8), (116 : UInt8), (112 : UInt8), (58 : UInt8), (47 : UInt8), (47 : UInt8), (119 : UInt8), (119 : UInt8), (119 : UInt8), (46 : UInt8), (119 : UInt8), (51 : UInt8), (46 : UInt8), (111 : UInt8), (114 : UInt8), (103 : UInt8), (47 : UInt8), (50 : UInt8), (48 : UInt8), (48 : UInt8), (49 : UInt8), (47 : UInt8), (88 : UInt8), (77 : UInt8), (76 : UInt8), (83 : UInt8), (99 : UInt8), (104 : UInt8), (101 : UInt8), (109 : UInt8), (97 : UInt8), (35 : UInt8), (100 : UInt8), (101 : UInt8), (99 : UInt8), (105 : UInt8), (109 : UInt8), (97 : UInt8), (108 : UInt8)], D.str (CE.dflt Sh.str), D.int IntKind.i64 (CE.dflt (Sh.int IntKind.i64))], AV.d (D.int IntKind.i64 (IntKind.i64.wrap (IntKind.i64.wrap ((↑(many (runI (3 : Int)) (List.drop (Int.toNat (0 : Int)) s)) : Int) + (1 : Int)) + (↑(many (runI (3 : Int)) (List.drop (IntKind.i64.wrap ((↑(many (runI (3 : Int)) (List.drop (Int.toNat (0 : Int)) s)) : Int) + (1 : Int))).toNat s)) : Int))))]))))) (chk ((0 : Int) ≤ (↑(many (runI (3 : Int)) (List.drop (Int.toNat (0 : Int)) s)) : Int) ∧ (↑(many (runI (3 : Int)) (List.drop (Int.toNat (0 : Int)) s)) : Int) ≤ (↑s.length : Int)) (some (SV.val (AV.tup [AV.agg [D.int IntKind.i64 (4 : Int), D.str (List.take (↑(many (runI (3 : Int)) (List.drop (Int.toNat (0 : Int)) s)) : Int).toNat s), D.int IntKind.i64 (CE.dflt (Sh.int IntKind.i64)), D.str (CE.dflt Sh.str), D.str (CE.dflt Sh.str), D.str (CE.dflt Sh.str), D.int IntKind.i64 (CE.dflt (Sh.int IntKind.i64))], AV.d (D.int IntKind.i64 (↑(many (runI (3 : Int)) (List.drop (Int.toNat (0 : Int)) s)) : Int))]))))))
                      (chk ((0 : Int) ≤ (↑(many (runI (3 : Int)) (List.drop (Int.toNat (0 : Int)) s)) : Int) ∧ (↑(many (runI (3 : Int)) (List.drop (Int.toNat (0 : Int)) s)) : Int) ≤ (↑s.length : Int)) (some (SV.val (AV.tup [AV.agg [D.int IntKind.i64 (4 : Int), D.str (List.take (↑(many (runI (3 : Int)) (List.drop (Int.toNat (0 : Int)) s)) : Int).toNat s), D.int IntKind.i64 (CE.dflt (Sh.int IntKind.i64)), D.str (CE.dflt Sh.str), D.str (CE.dflt Sh.str), D.str (CE.dflt Sh.str), D.int IntKind.i64 (CE.dflt (Sh.int IntKind.i64))], AV.d (D.int IntKind.i64 (↑(many (runI (3 : Int)) (List.drop (Int.toNat (0 : Int)) s)) : Int))]))))))
                  (chk ((0 : Int) ≤ (↑(many (runI (3 : Int)) (List.drop (Int.toNat (0 : Int)) s)) : Int) ∧ (↑(many (runI (3 : Int)) (List.drop (Int.toNat (0 : Int)) s)) : Int) ≤ (↑s.length : Int)) (some (SV.val (AV.tup [AV.agg [D.int IntKind.i64 (4 : Int), D.str (List.take (↑(many (runI (3 : Int)) (List.drop (Int.toNat (0 : Int)) s)) : Int).toNat s), D.int IntKind.i64 (CE.dflt (Sh.int IntKind.i64)), D.str (CE.dflt Sh.str), D.str (CE.dflt Sh.str), D.str (CE.dflt Sh.str), D.int IntKind.i64 (CE.dflt (Sh.int IntKind.i64))], AV.d (D.int IntKind.i64 (↑(many (runI (3 : Int)) (List.drop (Int.toNat (0 : Int)) s)) : Int))])))))
                (chk (s.length ≤ (1152921504606846976 : Nat) ∧ (0 : Nat) < s.length) (chk ((0 : Int) ≤ (↑(List.length (signS s)) : Int) ∧ (↑(List.length (signS s)) : Int) ≤ (↑s.length : Int)) (some (SV.val (AV.tup [AV.agg [D.int IntKind.i64 (5 : Int), D.str (List.take (↑(List.length (signS s)) : Int).toNat s), D.int IntKind.i64 (CE.dflt (Sh.int IntKind.i64)), D.str (CE.dflt Sh.str), D.str (CE.dflt Sh.str), D.str (CE.dflt Sh.str), D.int IntKind.i64 (CE.dflt (Sh.int IntKind.i64))], AV.d (D.int IntKind.i64 (↑(List.length (signS s)) : Int))])))))))))))
    (br (decide ((prefixS s).snd.snd.snd.snd > (0 : Int))) (some (SV.val (AV.tup [AV.agg [D.int IntKind.i64 (3 : Int), D.str (CE.dflt Sh.str), D.int IntKind.i64 (prefixS s).fst, D.str (prefixS s).snd.fst, D.str (prefixS s).snd.snd.fst, D.str (prefixS s).snd.snd.snd.fst, D.int IntKind.i64 (CE.dflt (Sh.int IntKind.i64))], AV.d (D.int IntKind.i64 (prefixS s).snd.snd.snd.snd)])))
      (chk (s.length ≤ (1152921504606846976 : Nat) ∧ (0 : Int) ≤ (0 : Int) ∧ (0 : Int) ≤ (↑s.length : Int) ∧ ((2 : Int) = (1 : Int) ∨ (2 : Int) = (2 : Int) ∨ (2 : Int) = (3 : Int)))
        (br (decide ((↑(many (runI (2 : Int)) (List.drop (Int.toNat (0 : Int)) s)) : Int) > (0 : Int))) (chk ((0 : Int) ≤ (↑(many (runI (2 : Int)) (List.drop (Int.toNat (0 : Int)) s)) : Int) ∧ (↑(many (runI (2 : Int)) (List.drop (Int.toNat (0 : Int)) s)) : Int) ≤ (↑s.length : Int)) (some (SV.val (AV.tup [AV.agg [D.int IntKind.i64 (1 : Int), D.str (List.take (↑(many (runI (2 : Int)) (List.drop (Int.toNat (0 : Int)) s)) : Int).toNat s), D.int IntKind.i64 (CE.dflt (Sh.int IntKind.i64)), D.str (CE.dflt Sh.str), D.str (CE.dflt Sh.str), D.str (CE.dflt Sh.str), D.int IntKind.i64 (CE.dflt (Sh.int IntKind.i64))], AV.d (D.int IntKind.i64 (↑(many (runI (2 : Int)) (List.drop (Int.toNat (0 : Int)) s)) : Int))]))))
          (chk (s.length ≤ (1152921504606846976 : Nat) ∧ (0 : Int) ≤ (0 : Int) ∧ (0 : Int) ≤ (↑s.length : Int) ∧ ((3 : Int) = (1 : Int) ∨ (3 : Int) = (2 : Int) ∨ (3 : Int) = (3 : Int)))
            (br (decide ((↑(many (runI (3 : Int)) (List.drop (Int.toNat (0 : Int)) s)) : Int) > (0 : Int)))
              (br (decide ((↑(many (runI (3 : Int)) (List.drop (Int.toNat (0 : Int)) s)) : Int) < (↑s.length : Int)))
                (chk ((0 : Int) ≤ (↑(many (runI (3 : Int)) (List.drop (Int.toNat (0 : Int)) s)) : Int) ∧ (↑(many (runI (3 : Int)) (List.drop (Int.toNat (0 : Int)) s)) : Int) < (↑s.length : Int))
                  (br (byteAt s (↑(many (runI (3 : Int)) (List.drop (Int.toNat (0 : Int)) s)) : Int) == (46 : Int)) (chk (s.length ≤ (1152921504606846976 : Nat) ∧ (0 : Int) ≤ IntKind.i64.wrap ((↑(many (runI (3 : Int)) (List.drop (Int.toNat (0 : Int)) s)) : Int) + (1 : Int)) ∧ IntKind.i64.wrap ((↑(many (runI (3 : Int)) (List.drop (Int.toNat (0 : Int)) s)) : Int) + (1 : Int)) ≤ (↑s.length : Int) ∧ ((3 : Int) = (1 : Int) ∨ (3 : Int) = (2 : Int) ∨ (3 : Int) = (3 : Int))) (br (decide ((↑(many (runI (3 : Int)) (List.drop (IntKind.i64.wrap ((↑(many (runI (3 : Int)) (List.drop (Int.toNat (0 : Int)) s)) : Int) + (1 : Int))).toNat s)) : Int) > (0 : Int))) (chk (s.length ≤ (1152921504606846976 : Nat) ∧ (0 : Int) ≤ IntKind.i64.wrap ((↑(many (runI (3 : Int)) (List.drop (Int.toNat (0 : Int)) s)) : Int) + (1 : Int)) ∧ IntKind.i64.wrap ((↑(many (runI (3 : Int)) (List.drop (Int.toNat (0 : Int)) s)) : Int) + (1 : Int)) ≤ (↑s.length : Int) ∧ ((3 : Int) = (1 : Int) ∨ (3 : Int) = (2 : Int) ∨ (3 : Int) = (3 : Int))) (chk ((0 : Int) ≤ IntKind.i64.wrap (IntKind.i64.wrap ((↑(many (runI (3 : Int)) (List.drop (Int.toNat (0 : Int)) s)) : Int) + (1 : Int)) + (↑(many (runI (3 : Int)) (List.drop (IntKind.i64.wrap ((↑(many (runI (3 : Int)) (List.drop (Int.toNat (0 : Int)) s)) : Int) + (1 : Int))).toNat s)) : Int)) ∧ IntKind.i64.wrap (IntKind.i64.wrap ((↑(many (runI (3 : Int)) (List.drop (Int.toNat (0 : Int)) s)) : Int) + (1 : Int)) + (↑(many (runI (3 : Int)) (List.drop (IntKind.i64.wrap ((↑(many (runI (3 : Int)) (List.drop (Int.toNat (0 : Int)) s)) : Int) + (1 : Int))).toNat s)) : Int)) ≤ (↑s.length : Int)) (some (SV.val (AV.tup [AV.agg [D.int IntKind.i64 (3 : Int), D.str (CE.dflt Sh.str), D.int IntKind.i64 (2 : Int), D.str (List.take (IntKind.i64.wrap (IntKind.i64.wrap ((↑(many (runI (3 : Int)) (List.drop (Int.toNat (0 : Int)) s)) : Int) + (1 : Int)) + (↑(many (runI (3 : Int)) (List.drop (IntKind.i64.wrap ((↑(many (runI (3 : Int)) (List.drop (Int.toNat (0 : Int)) s)) : Int) + (1 : Int))).toNat s)) : Int))).toNat s), D.str [(104 : UInt8), (116 : UInt8), (116 : UInt8), (112 : UInt8), (58 : UInt8), (47 : UInt8), (47 : UInt8), (119 : UInt8), (119 : UInt8), (119 : UInt8), (46 : UInt8), (119 : UInt8), (51 : UInt8), (46 : UInt8), (111 : UInt8), (114 : UInt8), (103 : UInt8), (47 : UInt8), (50 : UInt8), (48 : UInt8), (48 : UInt8), (49 : UInt8), (47 : UInt8), (88 : UInt8), (77 : UInt8), (76 : UInt8), (83 : UInt8), (99 : UInt8), (104 : UInt8), (101 : UInt8), (109 : UInt8), (97 : UInt8), (35 : UInt8), (100 : UInt8), (101 : UInt8), (99 : UInt8), (105 : UInt8), (109 : UInt8), (97 : UInt8), (108 : UInt8)], D.str (CE.dflt Sh.str), D.int IntKind.i64 (CE.dflt (Sh.int IntKind.i64))], AV.d (D.int IntKind.i64 (IntKind.i64.wrap (IntKind.i64.wrap ((↑(many (runI (3 : Int)) (List.drop (Int.toNat (0 : Int)) s)) : Int) + (1 : Int)) + (↑(many (runI (3 : Int)) (List.drop (IntKind.i64.wrap ((↑(many (runI (3 : Int)) (List.drop (Int.toNat (0 : Int)) s)) : Int) + (1 : Int))).toNat s)) : Int))))]))))) (chk ((0 : Int) ≤ (↑(many (runI (3 : Int)) (List.drop (Int.toNat (0 : Int)) s)) : Int) ∧ (↑(many (runI (3 : Int)) (List.drop (Int.toNat (0 : Int)) s)) : Int) ≤ (↑s.length : Int)) (some (SV.val (AV.tup [AV.agg [D.int IntKind.i64 (4 : Int), D.str (List.take (↑(many (runI (3 : Int)) (List.drop (Int.toNat (0 : Int)) s)) : Int).toNat s), D.int IntKind.i64 (CE.dflt (Sh.int IntKind.i64)), D.str (CE.dflt Sh.str), D.str (CE.dflt Sh.str), D.str (CE.dflt Sh.str), D.int IntKind.i64 (CE.dflt (Sh.int IntKind.i64))], AV.d (D.int IntKind.i64 (↑(many (runI (3 : Int)) (List.drop (Int.toNat (0 : Int)) s)) : Int))]))))))
                    (chk ((0 : Int) ≤ (↑(many (runI (3 : Int)) (List.drop (Int.toNat (0 : Int)) s)) : Int) ∧ (↑(many (runI (3 : Int)) (List.drop (Int.toNat (0 : Int)) s)) : Int) ≤ (↑s.length : Int)) (some (SV.val (AV.tup [AV.agg [D.int IntKind.i64 (4 : Int), D.str (List.take (↑(many (runI (3 : Int)) (List.drop (Int.toNat (0 : Int)) s)) : Int).toNat s), D.int IntKind.i64 (CE.dflt (Sh.int IntKind.i64)), D.str (CE.dflt Sh.str), D.str (CE.dflt Sh.str), D.str (CE.dflt Sh.str), D.int IntKind.i64 (CE.dflt (Sh.int IntKind.i64))], AV.d (D.int IntKind.i64 (↑(many (runI (3 : Int)) (List.drop (Int.toNat (0 : Int)) s)) : Int))]))))))
                (chk ((0 : Int) ≤ (↑(many (runI (3 : Int)) (List.drop (Int.toNat (0 : Int)) s)) : Int) ∧ (↑(many (runI (3 : Int)) (List.drop (Int.toNat (0 : Int)) s)) : Int) ≤ (↑s.length : Int)) (some (SV.val (AV.tup [AV.agg [D.int IntKind.i64 (4 : Int), D.str (List.take (↑(many (runI (3 : Int)) (List.drop (Int.toNat (0 : Int)) s)) : Int).toNat s), D.int IntKind.i64 (CE.dflt (Sh.int IntKind.i64)), D.str (CE.dflt Sh.str), D.str (CE.dflt Sh.str), D.str (CE.dflt Sh.str), D.int IntKind.i64 (CE.dflt (Sh.int IntKind.i64))], AV.d (D.int IntKind.i64 (↑(many (runI (3 : Int)) (List.drop (Int.toNat (0 : Int)) s)) : Int))])))))
              (chk (s.length ≤ (1152921504606846976 : Nat) ∧ (0 : Nat) < s.length) (chk ((0 : Int) ≤ (↑(List.length (signS s)) : Int) ∧ (↑(List.length (signS s)) : Int) ≤ (↑s.length : Int)) (some (SV.val (AV.tup [AV.agg [D.int IntKind.i64 (5 : Int), D.str (List.take (↑(List.length (signS s)) : Int).toNat s), D.int IntKind.i64 (CE.dflt (Sh.int IntKind.i64)), D.str (CE.dflt Sh.str), D.str (CE.dflt Sh.str), D.str (CE.dflt Sh.str), D.int IntKind.i64 (CE.dflt (Sh.int IntKind.i64))], AV.d (D.int IntKind.i64 (↑(List.length (signS s)) : Int))]))))))))))) := by kernel_rfl
theorem satr5_word : Sat P 45 (Sr5_word) := by
  refine sat_mk (LT := Ln (Lr5_word)) hC okr5_sign mixed Try.func45 (by kernel_rfl) (c := bodyOf Try.f45) (by kernel_rfl) (by kernel_rfl) ?_ (loops0 (by kernel_rfl))
  rintro ⟨⟨(s : List UInt8), _⟩, _⟩ sv h
  refine Leads.eq (Leads.of_eq (tr5_word s) ?_)
  obtain ⟨⟨hs, hs0⟩, h⟩ := h
  have h := Out_leaf h
  have hB : s.length ≤ 1152921504606846976 := by omega
  have hml := many_le letterI s
  have hmd := many_le digitI s
  have hm2 := many_le digitI (s.drop (many digitI s + 1))
  rw [List.length_drop] at hm2
  have hsl := signS_le s
  have rest : ¬ 0 < (prefixS s).2.2.2.2 → Leads (R := SV) ((chk (s.length ≤ (1152921504606846976 : Nat) ∧ (0 : Int) ≤ (0 : Int) ∧ (0 : Int) ≤ (↑s.length : Int) ∧ ((2 : Int) = (1 : Int) ∨ (2 : Int) = (2 : Int) ∨ (2 : Int) = (3 : Int)))
          (br (decide ((↑(many (runI (2 : Int)) (List.drop (Int.toNat (0 : Int)) s)) : Int) > (0 : Int))) (chk ((0 : Int) ≤ (↑(many (runI (2 : Int)) (List.drop (Int.toNat (0 : Int)) s)) : Int) ∧ (↑(many (runI (2 : Int)) (List.drop (Int.toNat (0 : Int)) s)) : Int) ≤ (↑s.length : Int)) (some (SV.val (AV.tup [AV.agg [D.int IntKind.i64 (1 : Int), D.str (List.take (↑(many (runI (2 : Int)) (List.drop (Int.toNat (0 : Int)) s)) : Int).toNat s), D.int IntKind.i64 (CE.dflt (Sh.int IntKind.i64)), D.str (CE.dflt Sh.str), D.str (CE.dflt Sh.str), D.str (CE.dflt Sh.str), D.int IntKind.i64 (CE.dflt (Sh.int IntKind.i64))], AV.d (D.int IntKind.i64 (↑(many (runI (2 : Int)) (List.drop (Int.toNat (0 : Int)) s)) : Int))]))))
            (chk (s.length ≤ (1152921504606846976 : Nat) ∧ (0 : Int) ≤ (0 : Int) ∧ (0 : Int) ≤ (↑s.length : Int) ∧ ((3 : Int) = (1 : Int) ∨ (3 : Int) = (2 : Int) ∨ (3 : Int) = (3 : Int)))
              (br (decide ((↑(many (runI (3 : Int)) (List.drop (Int.toNat (0 : Int)) s)) : Int) > (0 : Int)))
                (br (decide ((↑(many (runI (3 : Int)) (List.drop (Int.toNat (0 : Int)) s)) : Int) < (↑s.length : Int)))
                  (chk ((0 : Int) ≤ (↑(many (runI (3 : Int)) (List.drop (Int.toNat (0 : Int)) s)) : Int) ∧ (↑(many (runI (3 : Int)) (List.drop (Int.toNat (0 : Int)) s)) : Int) < (↑s.length : Int))
                    (br (byteAt s (↑(many (runI (3 : Int)) (List.drop (Int.toNat (0 : Int)) s)) : Int) == (46 : Int)) (chk (s.length ≤ (1152921504606846976 : Nat) ∧ (0 : Int) ≤ IntKind.i64.wrap ((↑(many (runI (3 : Int)) (List.drop (Int.toNat (0 : Int)) s)) : Int) + (1 : Int)) ∧ IntKind.i64.wrap ((↑(many (runI (3 : Int)) (List.drop (Int.toNat (0 : Int)) s)) : Int) + (1 : Int)) ≤ (↑s.length : Int) ∧ ((3 : Int) = (1 : Int) ∨ (3 : Int) = (2 : Int) ∨ (3 : Int) = (3 : Int))) (br (decide ((↑(many (runI (3 : Int)) (List.drop (IntKind.i64.wrap ((↑(many (runI (3 : Int)) (List.drop (Int.toNat (0 : Int)) s)) : Int) + (1 : Int))).toNat s)) : Int) > (0 : Int))) (chk (s.length ≤ (1152921504606846976 : Nat) ∧ (0 : Int) ≤ IntKind.i64.wrap ((↑(many (runI (3 : Int)) (List.drop (Int.toNat (0 : Int)) s)) : Int) + (1 : Int)) ∧ IntKind.i64.wrap ((↑(many (runI (3 : Int)) (List.drop (Int.toNat (0 : Int)) s)) : Int) + (1 : Int)) ≤ (↑s.length : Int) ∧ ((3 : Int) = (1 : Int) ∨ (3 : Int) = (2 : Int) ∨ (3 : Int) = (3 : Int))) (chk ((0 : Int) ≤ IntKind.i64.wrap (IntKind.i64.wrap ((↑(many (runI (3 : Int)) (List.drop (Int.toNat (0 : Int)) s)) : Int) + (1 : Int)) + (↑(many (runI (3 : Int)) (List.drop (IntKind.i64.wrap ((↑(many (runI (3 : Int)) (List.drop (Int.toNat (0 : Int)) s)) : Int) + (1 : Int))).toNat s)) : Int)) ∧ IntKind.i64.wrap (IntKind.i64.wrap ((↑(many (runI (3 : Int)) (List.drop (Int.toNat (0 : Int)) s)) : Int) + (1 : Int)) + (↑(many (runI (3 : Int)) (List.drop (IntKind.i64.wrap ((↑(many (runI (3 : Int)) (List.drop (Int.toNat (0 : Int)) s)) : Int) + (1 : Int))).toNat s)) : Int)) ≤ (↑s.length : Int)) (some (SV.val (AV.tup [AV.agg [D.int IntKind.i64 (3 : Int), D.str (CE.dflt Sh.str), D.int IntKind.i64 (2 : Int), D.str (List.take (IntKind.i64.wrap (IntKind.i64.wrap ((↑(many (runI (3 : Int)) (List.drop (Int.toNat (0 : Int)) s)) : Int) + (1 : Int)) + (↑(many (runI (3 : Int)) (List.drop (IntKind.i64.wrap ((↑(many (runI (3 : Int)) (List.drop (Int.toNat (0 : Int)) s)) : Int) + (1 : Int))).toNat s)) : Int))).toNat s), D.str [(104 : UInt8), (116 : UInt8), (116 : UInt8), (112 : UInt8), (58 : UInt8), (47 : UInt8), (47 : UInt8), (119 : UInt8), (119 : UInt8), (119 : UInt8), (46 : UInt8), (119 : UInt8), (51 : UInt8), (46 : UInt8), (111 : UInt8), (114 : UInt8), (103 : UInt8), (47 : UInt8), (50 : UInt8), (48 : UInt8), (48 : UInt8), (49 : UInt8), (47 : UInt8), (88 : UInt8), (77 : UInt8), (76 : UInt8), (83 : UInt8), (99 : UInt8), (104 : UInt8), (101 : UInt8), (109 : UInt8), (97 : UInt8), (35 : UInt8), (100 : UInt8), (101 : UInt8), (99 : UInt8), (105 : UInt8), (109 : UInt8), (97 : UInt8), (108 : UInt8)], D.str (CE.dflt Sh.str), D.int IntKind.i64 (CE.dflt (Sh.int IntKind.i64))], AV.d (D.int IntKind.i64 (IntKind.i64.wrap (IntKind.i64.wrap ((↑(many (runI (3 : Int)) (List.drop (Int.toNat (0 : Int)) s)) : Int) + (1 : Int)) + (↑(many (runI (3 : Int)) (List.drop (IntKind.i64.wrap ((↑(many (runI (3 : Int)) (List.drop (Int.toNat (0 : Int)) s)) : Int) + (1 : Int))).toNat s)) : Int))))]))))) (chk ((0 : Int) ≤ (↑(many (runI (3 : Int)) (List.drop (Int.toNat (0 : Int)) s)) : Int) ∧ (↑(many (runI (3 : Int)) (List.drop (Int.toNat (0 : Int)) s)) : Int) ≤ (↑s.length : Int)) (some (SV.val (AV.tup [AV.agg [D.int IntKind.i64 (4 : Int), D.str (List.take (↑(many (runI (3 : Int)) (List.drop (Int.toNat (0 : Int)) s)) : Int).toNat s), D.int IntKind.i64 (CE.dflt (Sh.int IntKind.i64)), D.str (CE.dflt Sh.str), D.str (CE.dflt Sh.str), D.str (CE.dflt Sh.str), D.int IntKind.i64 (CE.dflt (Sh.int IntKind.i64))], AV.d (D.int IntKind.i64 (↑(many (runI (3 : Int)) (List.drop (Int.toNat (0 : Int)) s)) : Int))]))))))
                      (chk ((0 : Int) ≤ (↑(many (runI (3 : Int)) (List.drop (Int.toNat (0 : Int)) s)) : Int) ∧ (↑(many (runI (3 : Int)) (List.drop (Int.toNat (0 : Int)) s)) : Int) ≤ (↑s.length : Int)) (some (SV.val (AV.tup [AV.agg [D.int IntKind.i64 (4 : Int), D.str (List.take (↑(many (runI (3 : Int)) (List.drop (Int.toNat (0 : Int)) s)) : Int).toNat s), D.int IntKind.i64 (CE.dflt (Sh.int IntKind.i64)), D.str (CE.dflt Sh.str), D.str (CE.dflt Sh.str), D.str (CE.dflt Sh.str), D.int IntKind.i64 (CE.dflt (Sh.int IntKind.i64))], AV.d (D.int IntKind.i64 (↑(many (runI (3 : Int)) (List.drop (Int.toNat (0 : Int)) s)) : Int))]))))))
                  (chk ((0 : Int) ≤ (↑(many (runI (3 : Int)) (List.drop (Int.toNat (0 : Int)) s)) : Int) ∧ (↑(many (runI (3 : Int)) (List.drop (Int.toNat (0 : Int)) s)) : Int) ≤ (↑s.length : Int)) (some (SV.val (AV.tup [AV.agg [D.int IntKind.i64 (4 : Int), D.str (List.take (↑(many (runI (3 : Int)) (List.drop (Int.toNat (0 : Int)) s)) : Int).toNat s), D.int IntKind.i64 (CE.dflt (Sh.int IntKind.i64)), D.str (CE.dflt Sh.str), D.str (CE.dflt Sh.str), D.str (CE.dflt Sh.str), D.int IntKind.i64 (CE.dflt (Sh.int IntKind.i64))], AV.d (D.int IntKind.i64 (↑(many (runI (3 : Int)) (List.drop (Int.toNat (0 : Int)) s)) : Int))])))))
                (chk (s.length ≤ (1152921504606846976 : Nat) ∧ (0 : Nat) < s.length) (chk ((0 : Int) ≤ (↑(List.length (signS s)) : Int) ∧ (↑(List.length (signS s)) : Int) ≤ (↑s.length : Int)) (some (SV.val (AV.tup [AV.agg [D.int IntKind.i64 (5 : Int), D.str (List.take (↑(List.length (signS s)) : Int).toNat s), D.int IntKind.i64 (CE.dflt (Sh.int IntKind.i64)), D.str (CE.dflt Sh.str), D.str (CE.dflt Sh.str), D.str (CE.dflt Sh.str), D.int IntKind.i64 (CE.dflt (Sh.int IntKind.i64))], AV.d (D.int IntKind.i64 (↑(List.length (signS s)) : Int))])))))))))) (fun z => z = sv) := by
    intro q
    rw [wordS] at h; rw [if_neg q] at h
    simp only [runI2, runI3, show List.drop (Int.toNat 0) s = s from rfl]
    rw [wrap64 (x := ((many digitI s : Nat) : Int) + 1) (by omega) (by omega), show ((many digitI s : Nat) : Int) + 1 = ((many digitI s + 1 : Nat) : Int) by omega, Int.toNat_natCast, Int.toNat_natCast, Int.toNat_natCast, Int.toNat_natCast]
    rw [wrap64 (x := ((many digitI s + 1 : Nat) : Int) + ((many digitI (s.drop (many digitI s + 1)) : Nat) : Int)) (by omega) (by omega), show ((many digitI s + 1 : Nat) : Int) + ((many digitI (s.drop (many digitI s + 1)) : Nat) : Int) = ((many digitI s + 1 + many digitI (s.drop (many digitI s + 1)) : Nat) : Int) by omega, Int.toNat_natCast, take_signS]
    have no : ¬ ((s.drop (many digitI s)).head? = some 46 ∧ 0 < many digitI (s.drop (many digitI s + 1))) → numS s = ((4, s.take (many digitI s), 0, [], [], [], 0, ()), many digitI s) := fun q => by rw [numS, if_neg q]
    refine Leads.chk ⟨hB, by omega, by omega, by simp⟩ fun _ => Leads.brD (fun q1 => Leads.chk (by omega) fun _ => Leads.one ?_) (fun q1 => Leads.chk ⟨hB, by omega, by omega, by simp⟩ fun _ => Leads.brD (fun q2 => Leads.brD (fun q3 => Leads.chk (by omega) fun _ => Leads.brE (fun q4 => Leads.chk ⟨hB, by omega, by omega, by simp⟩ fun _ => Leads.brD (fun q5 => Leads.chk ⟨hB, by omega, by omega, by simp⟩ fun _ => Leads.chk (by omega) fun _ => Leads.one ?_) (fun q5 => Leads.chk (by omega) fun _ => Leads.one ?_)) (fun q4 => Leads.chk (by omega) fun _ => Leads.one ?_)) (fun q3 => Leads.chk (by omega) fun _ => Leads.one ?_)) (fun q2 => Leads.chk ⟨hB, hs0⟩ fun _ => Leads.chk (by omega) fun _ => Leads.one ?_))
    · rw [h, if_pos (by omega)]; rfl
    · rw [h, if_neg (by omega), if_pos (by omega), numS, if_pos ⟨by rw [head_byte (by omega)]; exact q4, by omega⟩]; rfl
    · rw [h, if_neg (by omega), if_pos (by omega), no (fun z => by omega)]; rfl
    · rw [h, if_neg (by omega), if_pos (by omega), no (fun z => q4 (by rw [← head_byte (by omega)]; exact z.1))]; rfl
    · rw [h, if_neg (by omega), if_pos (by omega), no (fun z => by rw [List.drop_of_length_le (by omega)] at z; simp at z)]; rfl
    · rw [h, if_neg (by omega), if_neg (by omega)]; rfl
  refine Leads.chk hB fun _ => Leads.brD (fun q => Leads.brE (fun q1 => Leads.one ?_) (fun q1 => Leads.brD (fun _ => Leads.one ?_) (fun z => absurd q z))) (fun q => Leads.brD (fun z => absurd z q) (fun z => rest z))
  · have q : 0 < (prefixS s).2.2.2.2 := q
    rw [h, wordS]; rw [if_pos q, if_pos (show (prefixS s).1 = 4 from q1)]
    simp only [CE.dflt]; rw [show (((prefixS s).2.2.2.2.toNat : Nat) : Int) = (prefixS s).2.2.2.2 from Int.toNat_of_nonneg (Int.le_of_lt q)]; rfl
  · have q : 0 < (prefixS s).2.2.2.2 := q
    rw [h, wordS]; rw [if_pos q, if_neg (show ¬ (prefixS s).1 = 4 from q1)]
    simp only [CE.dflt]; rw [show (((prefixS s).2.2.2.2.toNat : Nat) : Int) = (prefixS s).2.2.2.2 from Int.toNat_of_nonneg (Int.le_of_lt q)]; rfl
def Er5_word : Es := (45, Sr5_word) :: Er5_sign
theorem okr5_word : SatE P (En (Er5_word)) := SatE.cons (satr5_word) okr5_sign
/-! ### legation/legationref05.Next -/
def Lr5_Next : Ls := []
def Sr5_Next := mkS [(false, [.str]), (false, [.int .i64])] fun ⟨⟨(s : List UInt8), _⟩, ⟨(at_ : Int), _⟩, _⟩ => .chk (s.length ≤ 140737488351232) (.leaf (.val (.tup [.agg (rowD tkS (nextS s at_).1), .d (.int .i64 (nextS s at_).2.1), .d (.int .i64 (nextS s at_).2.2)])))
theorem tr5_Next (s : List UInt8) (at_ : Int) : evF T (En (Er5_word)) (Ln (Lr5_Next)) Try.f29 [.d (.str s), .d (.int .i64 at_)] =
    br (decide (at_ < (0 : Int))) (some (SV.val (AV.tup [AV.agg [D.int IntKind.i64 (CE.dflt (Sh.int IntKind.i64)), D.str (CE.dflt Sh.str), D.int IntKind.i64 (CE.dflt (Sh.int IntKind.i64)), D.str (CE.dflt Sh.str), D.str (CE.dflt Sh.str), D.str (CE.dflt Sh.str), D.int IntKind.i64 (CE.dflt (Sh.int IntKind.i64))], AV.d (D.int IntKind.i64 (0 : Int)), AV.d (D.int IntKind.i64 (2 : Int))]))) (br (decide (at_ > (↑s.length : Int))) (some (SV.val (AV.tup [AV.agg [D.int IntKind.i64 (CE.dflt (Sh.int IntKind.i64)), D.str (CE.dflt Sh.str), D.int IntKind.i64 (CE.dflt (Sh.int IntKind.i64)), D.str (CE.dflt Sh.str), D.str (CE.dflt Sh.str), D.str (CE.dflt Sh.str), D.int IntKind.i64 (CE.dflt (Sh.int IntKind.i64))], AV.d (D.int IntKind.i64 (0 : Int)), AV.d (D.int IntKind.i64 (2 : Int))]))) (chk (s.length ≤ (1152921504606846976 : Nat) ∧ (0 : Int) ≤ at_ ∧ at_ ≤ (↑s.length : Int) ∧ ((1 : Int) = (1 : Int) ∨ (1 : Int) = (2 : Int) ∨ (1 : Int) = (3 : Int))) (br (IntKind.i64.wrap (at_ + (↑(many (runI (1 : Int)) (List.drop at_.toNat s)) : Int)) == (↑s.length : Int)) (some (SV.val (AV.tup [AV.agg [D.int IntKind.i64 (CE.dflt (Sh.int IntKind.i64)), D.str (CE.dflt Sh.str), D.int IntKind.i64 (CE.dflt (Sh.int IntKind.i64)), D.str (CE.dflt Sh.str), D.str (CE.dflt Sh.str), D.str (CE.dflt Sh.str), D.int IntKind.i64 (CE.dflt (Sh.int IntKind.i64))], AV.d (D.int IntKind.i64 (IntKind.i64.wrap (at_ + (↑(many (runI (1 : Int)) (List.drop at_.toNat s)) : Int)))), AV.d (D.int IntKind.i64 (0 : Int))]))) (chk ((0 : Int) ≤ IntKind.i64.wrap (at_ + (↑(many (runI (1 : Int)) (List.drop at_.toNat s)) : Int)) ∧ IntKind.i64.wrap (at_ + (↑(many (runI (1 : Int)) (List.drop at_.toNat s)) : Int)) ≤ (↑s.length : Int)) (chk ((List.drop (IntKind.i64.wrap (at_ + (↑(many (runI (1 : Int)) (List.drop at_.toNat s)) : Int))).toNat s).length ≤ (140737488351232 : Nat) ∧ (0 : Nat) < (List.drop (IntKind.i64.wrap (at_ + (↑(many (runI (1 : Int)) (List.drop at_.toNat s)) : Int))).toNat s).length) (br ((↑(wordS (List.drop (IntKind.i64.wrap (at_ + (↑(many (runI (1 : Int)) (List.drop at_.toNat s)) : Int))).toNat s)).snd : Int) == (0 : Int)) (some (SV.val (AV.tup [AV.agg [D.int IntKind.i64 (CE.dflt (Sh.int IntKind.i64)), D.str (CE.dflt Sh.str), D.int IntKind.i64 (CE.dflt (Sh.int IntKind.i64)), D.str (CE.dflt Sh.str), D.str (CE.dflt Sh.str), D.str (CE.dflt Sh.str), D.int IntKind.i64 (CE.dflt (Sh.int IntKind.i64))], AV.d (D.int IntKind.i64 (0 : Int)), AV.d (D.int IntKind.i64 (2 : Int))]))) (some (SV.val (AV.tup [AV.agg [D.int IntKind.i64 (wordS (List.drop (IntKind.i64.wrap (at_ + (↑(many (runI (1 : Int)) (List.drop at_.toNat s)) : Int))).toNat s)).fst.fst, D.str (wordS (List.drop (IntKind.i64.wrap (at_ + (↑(many (runI (1 : Int)) (List.drop at_.toNat s)) : Int))).toNat s)).fst.snd.fst, D.int IntKind.i64 (wordS (List.drop (IntKind.i64.wrap (at_ + (↑(many (runI (1 : Int)) (List.drop at_.toNat s)) : Int))).toNat s)).fst.snd.snd.fst, D.str (wordS (List.drop (IntKind.i64.wrap (at_ + (↑(many (runI (1 : Int)) (List.drop at_.toNat s)) : Int))).toNat s)).fst.snd.snd.snd.fst, D.str (wordS (List.drop (IntKind.i64.wrap (at_ + (↑(many (runI (1 : Int)) (List.drop at_.toNat s)) : Int))).toNat s)).fst.snd.snd.snd.snd.fst, D.str (wordS (List.drop (IntKind.i64.wrap (at_ + (↑(many (runI (1 : Int)) (List.drop at_.toNat s)) : Int))).toNat s)).fst.snd.snd.snd.snd.snd.fst, D.int IntKind.i64 (IntKind.i64.wrap (at_ + (↑(many (runI (1 : Int)) (List.drop at_.toNat s)) : Int)))], AV.d (D.int IntKind.i64 (IntKind.i64.wrap (IntKind.i64.wrap (at_ + (↑(many (runI (1 : Int)) (List.drop at_.toNat s)) : Int)) + (↑(wordS (List.drop (IntKind.i64.wrap (at_ + (↑(many (runI (1 : Int)) (List.drop at_.toNat s)) : Int))).toNat s)).snd : Int)))), AV.d (D.int IntKind.i64 (0 : Int))]))))))))) := by kernel_rfl
theorem satr5_Next : Sat P 29 (Sr5_Next) := by
  refine sat_mk (LT := Ln (Lr5_Next)) hC okr5_word mixed Try.func29 (by kernel_rfl) (c := bodyOf Try.f29) (by kernel_rfl) (by kernel_rfl) ?_ (loops0 (by kernel_rfl))
  rintro ⟨⟨(s : List UInt8), _⟩, ⟨(at_ : Int), _⟩, _⟩ sv h
  refine Leads.eq (Leads.of_eq (tr5_Next s at_) ?_)
  obtain ⟨hs, h⟩ := h
  have h := Out_leaf h
  refine Leads.brD (fun q => Leads.one ?_) (fun q => Leads.brD (fun q1 => Leads.one ?_) (fun q1 => ?_))
  · rw [h, nextS, if_pos (.inl q)]; rfl
  · rw [h, nextS, if_pos (.inr q1)]; rfl
  · rw [nextS, if_neg (by rintro (z | z) <;> contradiction)] at h
    obtain ⟨a, rfl⟩ := Int.eq_ofNat_of_zero_le (Int.not_lt.1 q)
    have q1 : ¬ (a : Int) > (s.length : Int) := q1
    have hm := many_le spaceI (s.drop a)
    rw [List.length_drop] at hm
    simp only [Int.toNat_natCast, runI1] at h ⊢
    rw [wrap64 (x := (a : Int) + _) (by omega) (by omega), show (a : Int) + ((many spaceI (s.drop a) : Nat) : Int) = ((a + many spaceI (s.drop a) : Nat) : Int) by omega, Int.toNat_natCast]
    generalize hp : a + many spaceI (s.drop a) = p at *
    have hw := wordS_le (s.drop p)
    rw [List.length_drop] at hw
    refine Leads.chk ⟨by omega, by omega, by omega, by simp⟩ fun _ =>  Leads.brE (fun q2 => Leads.one ?_) (fun q2 => Leads.chk (by omega) fun _ => Leads.chk ⟨by rw [List.length_drop]; omega, by rw [List.length_drop]; omega⟩ fun _ => Leads.brE (fun q3 => Leads.one ?_) (fun q3 => Leads.one ?_))
    · have q2 : p = s.length := by omega
      rw [h, if_pos q2]; rfl
    · rw [h, if_neg (by omega), if_pos (by omega)]; rfl
    · rw [h, if_neg (by omega), if_neg (by omega), wrap64 (by omega) (by omega)]
      simp [atT, rowD, toD]
def Er5_Next : Es := (29, Sr5_Next) :: Er5_word
theorem okr5_Next : SatE P (En (Er5_Next)) := SatE.cons (satr5_Next) okr5_word
end Go.Proofs.Ytoopcfjmmhmamaa.T6
end

section
set_option maxRecDepth 100000
open Go.Proofs.Ytoopcfjmmhmamaa.Lg Go Go.Proofs.Ytoopcfjmmhmamaa.Sp
open Go.Proofs
namespace Go.Proofs.Ytoopcfjmmhmamaa.T6


/-! ### legation/legationref05.Lex -/
def lkr5_Lex_0 : St [.v false [.str], .a tkS, .v false [.int .i64]] → Prop := fun ⟨⟨(s : List UInt8), _⟩, (out : List (RowE tkS)), ⟨(at_ : Int), _⟩, _⟩ => 0 ≤ at_ ∧ at_ ≤ (s.length : Int) ∧ s.length ≤ 4096 ∧ (out.length : Int) ≤ at_ ∧ many spaceI (s.drop at_.toNat) = 0
def lgr5_Lex_0 : St [.v false [.str], .a tkS, .v false [.int .i64]] → Tr (Ex × List SV) := fun ⟨⟨(s : List UInt8), _⟩, (out : List (RowE tkS)), ⟨(at_ : Int), _⟩, _⟩ => .br (lexR s at_.toNat).2.isNone (.leaf (.exit 0, [.app tkS (out ++ (lexR s at_.toNat).1)])) (.leaf (.ret, [.app tkS ([]), .val (.d (.int .i64 (((lexR s at_.toNat).2.getD 0 : Nat)))), .val (.d (.int .i64 (2)))]))
def lmr5_Lex_0 : St [.v false [.str], .a tkS, .v false [.int .i64]] → Nat := fun ⟨⟨(s : List UInt8), _⟩, (out : List (RowE tkS)), ⟨(at_ : Int), _⟩, _⟩ => s.length - at_.toNat
def lsr5_Lex_0 : LoopS := mkR [0, 5, 6] [5] [2, 3, 4] [.v false [.str], .a tkS, .v false [.int .i64]] (fun r => .chk (lkr5_Lex_0 r) (lgr5_Lex_0 r))
def Lr5_Lex : Ls := [(5, lsr5_Lex_0)]
def Sr5_Lex := mkS [(false, [.str])] fun ⟨⟨(s : List UInt8), _⟩, _⟩ => .chk (s.length ≤ 140737488351232) (.leaf (.val (.tup [.d (.sl tkS (lexS s).1), .d (.int .i64 (lexS s).2.1), .d (.int .i64 (lexS s).2.2)])))
theorem ltr5_Lex_0 (s : List UInt8) (out : List (RowE tkS)) (at_ : Int) : evRound T (En (Er5_Next)) (Ln (Lr5_Lex)) (loopAt 0 (loops (bodyOf Try.f15))) (lsr5_Lex_0) [.val (.d (.str  s)), .app tkS out, .val (.d (.int .i64 at_))] =
    br (decide (at_ < (↑s.length : Int))) (chk (s.length ≤ (140737488351232 : Nat)) (br ((nextS s at_).snd.snd != (0 : Int)) (some (Rnd.out Ex.ret [SV.app tkS [], SV.val (AV.d (D.int IntKind.i64 at_)), SV.val (AV.d (D.int IntKind.i64 (nextS s at_).snd.snd))])) (br (decide ((↑out.length : Int) ≥ (4096 : Int))) (some (Rnd.out Ex.ret [SV.app tkS [], SV.val (AV.d (D.int IntKind.i64 at_)), SV.val (AV.d (D.int IntKind.i64 (3 : Int)))])) (chk (((↑out.length : Int) + (↑[((nextS s at_).fst.fst, (nextS s at_).fst.snd.fst, (nextS s at_).fst.snd.snd.fst, (nextS s at_).fst.snd.snd.snd.fst, (nextS s at_).fst.snd.snd.snd.snd.fst, (nextS s at_).fst.snd.snd.snd.snd.snd.fst, (nextS s at_).fst.snd.snd.snd.snd.snd.snd.fst, ())].length : Int)) * (↑(88 : Nat) : Int) < lim) (chk (s.length ≤ (1152921504606846976 : Nat) ∧ (0 : Int) ≤ (nextS s at_).snd.fst ∧ (nextS s at_).snd.fst ≤ (↑s.length : Int) ∧ ((1 : Int) = (1 : Int) ∨ (1 : Int) = (2 : Int) ∨ (1 : Int) = (3 : Int))) (some (Rnd.again [SV.val (AV.d (D.str s)), SV.app tkS (out ++ [((nextS s at_).fst.fst, (nextS s at_).fst.snd.fst, (nextS s at_).fst.snd.snd.fst, (nextS s at_).fst.snd.snd.snd.fst, (nextS s at_).fst.snd.snd.snd.snd.fst, (nextS s at_).fst.snd.snd.snd.snd.snd.fst, (nextS s at_).fst.snd.snd.snd.snd.snd.snd.fst, ())]), SV.val (AV.d (D.int IntKind.i64 (IntKind.i64.wrap ((nextS s at_).snd.fst + (↑(many (runI (1 : Int)) (List.drop (nextS s at_).snd.fst.toNat s)) : Int)))))]))))))) (some (Rnd.out (Ex.exit (0 : Nat)) [SV.app tkS out])) := by kernel_rfl
theorem lokr5_Lex_0 : LoopOK T (En (Er5_Next)) (Ln (Lr5_Lex)) (loopAt 0 (loops (bodyOf Try.f15))) := by
  refine loop_ok (live := [0, 5, 6]) (outs := [5]) (rets := [2, 3, 4]) (ks := [.v false [.str], .a tkS, .v false [.int .i64]]) (G := lgr5_Lex_0) (lkr5_Lex_0) (lmr5_Lex_0) (by kernel_rfl) ?_
  rintro ⟨⟨(s : List UInt8), _⟩, (out : List (RowE tkS)), ⟨(at_ : Int), _⟩, _⟩ x hok hx
  refine Leads.of_eq (ltr5_Lex_0 s out at_) ?_
  obtain ⟨h0, h1, h2, h3, h4⟩ := hok
  obtain ⟨p, rfl⟩ := Int.eq_ofNat_of_zero_le h0
  have ha : p ≤ s.length := by omega
  simp only [lgr5_Lex_0, Int.toNat_natCast] at hx h4
  rw [lexR_step s p ha, h4, Nat.add_zero] at hx
  rw [nextS_nat s p ha, h4, Nat.add_zero]
  have hw := wordS_le (s.drop p)
  rw [List.length_drop] at hw
  by_cases q : p = s.length
  · rw [if_pos q] at hx
    refine Leads.brD (fun z => by omega) (fun _ => Leads.one (Goes.out ?_))
    have := Out_leaf (Out_tt hx)
    simpa using this
  · rw [if_neg q] at hx ⊢
    refine Leads.brD (fun _ => Leads.chk (by omega) fun _ => ?_) (fun z => by omega)
    by_cases q2 : (wordS (s.drop p)).2 = 0
    · rw [if_pos q2] at hx ⊢
      exact Leads.brN (fun z => absurd z (by decide)) (fun _ => Leads.one (Goes.out (Out_leaf (Out_ff hx))))
    · rw [if_neg q2] at hx ⊢
      dsimp only
      generalize hn : p + (wordS (s.drop p)).2 = n at *
      have hm := many_le spaceI (s.drop n)
      rw [List.length_drop] at hm
      rw [runI1, Int.toNat_natCast, wrap64 (x := (n : Int) + _) (by omega) (by omega), show (n : Int) + ((many spaceI (s.drop n) : Nat) : Int) = ((n + many spaceI (s.drop n) : Nat) : Int) by omega]
      refine Leads.brN (fun _ => Leads.brD (fun z => ?_) (fun _ => Leads.chk ?_ fun _ => Leads.chk ⟨by omega, by omega, by omega, by simp⟩ fun _ => Leads.one ?_)) (fun z => absurd rfl z)
      · exfalso; omega
      · simp only [lim, List.length_cons, List.length_nil]; omega
      · refine Goes.again (ks := [.v false [.str], .a tkS, .v false [.int .i64]]) ((_, ()), _, (_, ()), ()) rfl ?_ ?_ ?_
        · exact ⟨by show (0 : Int) ≤ ((n + many spaceI (s.drop n) : Nat) : Int); omega, by show ((n + many spaceI (s.drop n) : Nat) : Int) ≤ (s.length : Int); omega, h2, by rw [List.length_append]; show _ ≤ ((n + many spaceI (s.drop n) : Nat) : Int); simp only [List.length_cons, List.length_nil]; omega, by rw [Int.toNat_natCast]; exact many_skip _ _ _⟩
        · simp only [lmr5_Lex_0, Int.toNat_natCast]; omega
        · simp only [lgr5_Lex_0, Int.toNat_natCast]
          rw [lexR_skip s n (by omega)]
          cases hr : (lexR s n).2 with
          | none => rw [hr] at hx; have := Out_leaf (Out_tt hx); exact .inl ⟨rfl, by show _ = x; simpa [atT, List.append_assoc] using this.symm⟩
          | some z => rw [hr] at hx; exact .inr ⟨rfl, (Out_leaf (Out_ff hx)).symm⟩
theorem tr5_Lex (s : List UInt8) : evF T (En (Er5_Next)) (Ln (Lr5_Lex)) Try.f15 [.d (.str s)] =
    br (decide ((↑s.length : Int) > (4096 : Int))) (some (SV.val (AV.tup [AV.d (D.sl tkS []), AV.d (D.int IntKind.i64 (0 : Int)), AV.d (D.int IntKind.i64 (3 : Int))]))) (chk (s.length ≤ (1152921504606846976 : Nat) ∧ (0 : Int) ≤ (0 : Int) ∧ (0 : Int) ≤ (↑s.length : Int) ∧ ((1 : Int) = (1 : Int) ∨ (1 : Int) = (2 : Int) ∨ (1 : Int) = (3 : Int))) (chk (lkr5_Lex_0 ((s, ()), [], ((↑(many (runI (1 : Int)) (List.drop (Int.toNat (0 : Int)) s)) : Int), ()), ())) (br (lexR s (↑(many (runI (1 : Int)) (List.drop (Int.toNat (0 : Int)) s)) : Int).toNat).snd.isNone (some (SV.val (AV.tup [AV.d (D.sl tkS ([] ++ (lexR s (↑(many (runI (1 : Int)) (List.drop (Int.toNat (0 : Int)) s)) : Int).toNat).fst)), AV.d (D.int IntKind.i64 (0 : Int)), AV.d (D.int IntKind.i64 (0 : Int))]))) (some (SV.val (AV.tup [AV.d (D.sl tkS []), AV.d (D.int IntKind.i64 (↑((lexR s (↑(many (runI (1 : Int)) (List.drop (Int.toNat (0 : Int)) s)) : Int).toNat).snd.getD (0 : Nat)) : Int)), AV.d (D.int IntKind.i64 (2 : Int))])))))) := by kernel_rfl
theorem satr5_Lex : Sat P 15 (Sr5_Lex) := by
  refine sat_mk (LT := Ln (Lr5_Lex)) hC okr5_Next mixed Try.func15 (by kernel_rfl) (c := bodyOf Try.f15) (by kernel_rfl) (by kernel_rfl) ?_ (loops1 (by kernel_rfl) (lokr5_Lex_0))
  rintro ⟨⟨(s : List UInt8), _⟩, _⟩ sv h
  refine Leads.eq (Leads.of_eq (tr5_Lex s) ?_)
  obtain ⟨hs, h⟩ := h
  have h := Out_leaf h
  refine Leads.brD (fun q => Leads.one (by rw [h, lexS, if_pos (by omega)])) (fun q => ?_)
  have hl : s.length ≤ 4096 := by omega
  have hm := many_le spaceI s
  have hsk := many_skip spaceI s 0
  have hls := lexR_skip s 0 (by omega)
  simp only [List.drop_zero, Nat.zero_add] at hsk hls
  rw [lexS_eq s hl] at h
  rw [show List.drop (Int.toNat 0) s = s from rfl, runI1, Int.toNat_natCast, hls]
  refine Leads.chk ⟨by omega, by decide, by omega, by simp⟩ fun _ => Leads.chk ⟨by omega, by omega, hl, by simp, by simpa using hsk⟩ fun _ => ?_
  cases hr : (lexR s 0).2 with
  | none => rw [hr] at h; exact Leads.br (fun _ => Leads.one (by rw [h]; simp)) (fun z => by cases z)
  | some p => rw [hr] at h; exact Leads.br (fun z => by cases z) (fun _ => Leads.one (by rw [h]; simp))
def Er5_Lex : Es := (15, Sr5_Lex) :: Er5_Next
theorem okr5_Lex : SatE P (En (Er5_Lex)) := SatE.cons (satr5_Lex) okr5_Next

end Go.Proofs.Ytoopcfjmmhmamaa.T6
end
