/- Part of a proof of the seat's statements: no statement by itself. -/
import Derived.Test.YtcmdlllcjpbbkaaQ5D
import Derived.Test.YtcmdlllcjpbbkaaSpL
set_option maxRecDepth 100000
open Go.Proofs.Ytcmdlllcjpbbkaa.Lg Go Go.Proofs.Ytcmdlllcjpbbkaa.Sp
open Go.Proofs
namespace Go.Proofs.Ytcmdlllcjpbbkaa.T5


abbrev tkS : List Sh := [.int .i64, .str, .int .i64, .str, .str, .str, .int .i64]
def tokR (x : Tok × Nat) : Tr SV := .leaf (.val (.tup [.agg (rowD tkS x.1), .d (.int .i64 (x.2 : Nat))]))
/-! ### legation/lex.space -/
def Llx_space : Ls := []
def Slx_space := mkS [(false, [.int .u8])] fun ⟨⟨(b : Int), _⟩, _⟩ => bl (spaceI b)
theorem tlx_space (b : Int) : evF T (En (Er1_Prefix)) (Ln (Llx_space)) Try.f18 [.d (.int .u8 b)] =
    br (b == (32 : Int)) (some (SV.val (AV.d (D.bool true)))) (br (b == (9 : Int)) (some (SV.val (AV.d (D.bool true)))) (some (SV.val (AV.d (D.bool (b == (10 : Int))))))) := by kernel_rfl
theorem satlx_space : Sat P 18 (Slx_space) := by
  refine sat_mk (LT := Ln (Llx_space)) hC okr1_Prefix mixed Try.func18 (by kernel_rfl) (c := bodyOf Try.f18) (by kernel_rfl) (by kernel_rfl) ?_ (loops0 (by kernel_rfl))
  rintro ⟨⟨(b : Int), _⟩, _⟩ sv h
  refine Leads.eq (Leads.of_eq (tlx_space b) ?_)
  have h := Out_leaf h
  repeat' (first | refine Leads.brD (fun _ => ?_) (fun _ => ?_) | refine Leads.brE (fun _ => ?_) (fun _ => ?_) | refine Leads.brN (fun _ => ?_) (fun _ => ?_) | refine Leads.brM (fun _ => ?_) (fun _ => ?_) | refine Leads.brG (fun _ => ?_) (fun _ => ?_) | refine Leads.br (fun _ => ?_) (fun _ => ?_) | refine Leads.chk ?_ (fun _ => ?_) | refine Leads.one ?_ | refine Leads.brP (fun _ => ?_) (fun _ => ?_))
  all_goals (rw [h]; refine congrArg (fun z => SV.val (.d (.bool z))) ?_; rw [Bool.eq_iff_iff]; simp [spaceI] at *; try omega)
def Elx_space : Es := (18, Slx_space) :: Er1_Prefix
theorem oklx_space : SatE P (En (Elx_space)) := SatE.cons (satlx_space) okr1_Prefix
/-! ### legation/lex.letter -/
def Llx_letter : Ls := []
def Slx_letter := mkS [(false, [.int .u8])] fun ⟨⟨(b : Int), _⟩, _⟩ => bl (letterI b)
theorem tlx_letter (b : Int) : evF T (En (Elx_space)) (Ln (Llx_letter)) Try.f27 [.d (.int .u8 b)] =
    br (decide (b ≥ (97 : Int))) (br (decide (b ≤ (122 : Int))) (some (SV.val (AV.d (D.bool true)))) (br (decide (b ≥ (65 : Int))) (some (SV.val (AV.d (D.bool (decide (b ≤ (90 : Int))))))) (some (SV.val (AV.d (D.bool false)))))) (br (decide (b ≥ (65 : Int))) (some (SV.val (AV.d (D.bool (decide (b ≤ (90 : Int))))))) (some (SV.val (AV.d (D.bool false))))) := by kernel_rfl
theorem satlx_letter : Sat P 27 (Slx_letter) := by
  refine sat_mk (LT := Ln (Llx_letter)) hC oklx_space mixed Try.func27 (by kernel_rfl) (c := bodyOf Try.f27) (by kernel_rfl) (by kernel_rfl) ?_ (loops0 (by kernel_rfl))
  rintro ⟨⟨(b : Int), _⟩, _⟩ sv h
  refine Leads.eq (Leads.of_eq (tlx_letter b) ?_)
  have h := Out_leaf h
  repeat' (first | refine Leads.brD (fun _ => ?_) (fun _ => ?_) | refine Leads.brE (fun _ => ?_) (fun _ => ?_) | refine Leads.brN (fun _ => ?_) (fun _ => ?_) | refine Leads.brM (fun _ => ?_) (fun _ => ?_) | refine Leads.brG (fun _ => ?_) (fun _ => ?_) | refine Leads.br (fun _ => ?_) (fun _ => ?_) | refine Leads.chk ?_ (fun _ => ?_) | refine Leads.one ?_ | refine Leads.brP (fun _ => ?_) (fun _ => ?_))
  all_goals (rw [h]; refine congrArg (fun z => SV.val (.d (.bool z))) ?_; rw [Bool.eq_iff_iff]; simp [letterI] at *; try omega)
def Elx_letter : Es := (27, Slx_letter) :: Elx_space
theorem oklx_letter : SatE P (En (Elx_letter)) := SatE.cons (satlx_letter) oklx_space
/-! ### legation/lex.digit -/
def Llx_digit : Ls := []
def Slx_digit := mkS [(false, [.int .u8])] fun ⟨⟨(b : Int), _⟩, _⟩ => bl (digitI b)
theorem tlx_digit (b : Int) : evF T (En (Elx_letter)) (Ln (Llx_digit)) Try.f28 [.d (.int .u8 b)] =
    br (decide (b ≥ (48 : Int))) (some (SV.val (AV.d (D.bool (decide (b ≤ (57 : Int))))))) (some (SV.val (AV.d (D.bool false)))) := by kernel_rfl
theorem satlx_digit : Sat P 28 (Slx_digit) := by
  refine sat_mk (LT := Ln (Llx_digit)) hC oklx_letter mixed Try.func28 (by kernel_rfl) (c := bodyOf Try.f28) (by kernel_rfl) (by kernel_rfl) ?_ (loops0 (by kernel_rfl))
  rintro ⟨⟨(b : Int), _⟩, _⟩ sv h
  refine Leads.eq (Leads.of_eq (tlx_digit b) ?_)
  have h := Out_leaf h
  repeat' (first | refine Leads.brD (fun _ => ?_) (fun _ => ?_) | refine Leads.brE (fun _ => ?_) (fun _ => ?_) | refine Leads.brN (fun _ => ?_) (fun _ => ?_) | refine Leads.brM (fun _ => ?_) (fun _ => ?_) | refine Leads.brG (fun _ => ?_) (fun _ => ?_) | refine Leads.br (fun _ => ?_) (fun _ => ?_) | refine Leads.chk ?_ (fun _ => ?_) | refine Leads.one ?_ | refine Leads.brP (fun _ => ?_) (fun _ => ?_))
  all_goals (rw [h]; refine congrArg (fun z => SV.val (.d (.bool z))) ?_; rw [Bool.eq_iff_iff]; simp [digitI] at *; try omega)
def Elx_digit : Es := (28, Slx_digit) :: Elx_letter
theorem oklx_digit : SatE P (En (Elx_digit)) := SatE.cons (satlx_digit) oklx_letter
/-! ### legation/legationref05.Space -/
def Lr5_Space : Ls := []
def Sr5_Space := mkS [(false, [.int .u8])] fun ⟨⟨(b : Int), _⟩, _⟩ => bl (spaceI b)
theorem tr5_Space (b : Int) : evF T (En (Elx_digit)) (Ln (Lr5_Space)) Try.f21 [.d (.int .u8 b)] =
    br (b == (32 : Int)) (some (SV.val (AV.d (D.bool true)))) (br (b == (9 : Int)) (some (SV.val (AV.d (D.bool true)))) (some (SV.val (AV.d (D.bool (b == (10 : Int))))))) := by kernel_rfl
theorem satr5_Space : Sat P 21 (Sr5_Space) := by
  refine sat_mk (LT := Ln (Lr5_Space)) hC oklx_digit mixed Try.func21 (by kernel_rfl) (c := bodyOf Try.f21) (by kernel_rfl) (by kernel_rfl) ?_ (loops0 (by kernel_rfl))
  rintro ⟨⟨(b : Int), _⟩, _⟩ sv h
  refine Leads.eq (Leads.of_eq (tr5_Space b) ?_)
  have h := Out_leaf h
  repeat' (first | refine Leads.brD (fun _ => ?_) (fun _ => ?_) | refine Leads.brE (fun _ => ?_) (fun _ => ?_) | refine Leads.brN (fun _ => ?_) (fun _ => ?_) | refine Leads.brM (fun _ => ?_) (fun _ => ?_) | refine Leads.brG (fun _ => ?_) (fun _ => ?_) | refine Leads.br (fun _ => ?_) (fun _ => ?_) | refine Leads.chk ?_ (fun _ => ?_) | refine Leads.one ?_ | refine Leads.brP (fun _ => ?_) (fun _ => ?_))
  all_goals (rw [h]; refine congrArg (fun z => SV.val (.d (.bool z))) ?_; rw [Bool.eq_iff_iff]; simp [spaceI] at *; try omega)
def Er5_Space : Es := (21, Sr5_Space) :: Elx_digit
theorem okr5_Space : SatE P (En (Er5_Space)) := SatE.cons (satr5_Space) oklx_digit
/-! ### legation/legationref05.Letter -/
def Lr5_Letter : Ls := []
def Sr5_Letter := mkS [(false, [.int .u8])] fun ⟨⟨(b : Int), _⟩, _⟩ => bl (letterI b)
theorem tr5_Letter (b : Int) : evF T (En (Er5_Space)) (Ln (Lr5_Letter)) Try.f22 [.d (.int .u8 b)] =
    br (betw b (97 : Int) (122 : Int)) (some (SV.val (AV.d (D.bool true)))) (some (SV.val (AV.d (D.bool (betw b (65 : Int) (90 : Int)))))) := by kernel_rfl
theorem satr5_Letter : Sat P 22 (Sr5_Letter) := by
  refine sat_mk (LT := Ln (Lr5_Letter)) hC okr5_Space mixed Try.func22 (by kernel_rfl) (c := bodyOf Try.f22) (by kernel_rfl) (by kernel_rfl) ?_ (loops0 (by kernel_rfl))
  rintro ⟨⟨(b : Int), _⟩, _⟩ sv h
  refine Leads.eq (Leads.of_eq (tr5_Letter b) ?_)
  have h := Out_leaf h
  repeat' (first | refine Leads.brD (fun _ => ?_) (fun _ => ?_) | refine Leads.brE (fun _ => ?_) (fun _ => ?_) | refine Leads.brN (fun _ => ?_) (fun _ => ?_) | refine Leads.brM (fun _ => ?_) (fun _ => ?_) | refine Leads.brG (fun _ => ?_) (fun _ => ?_) | refine Leads.br (fun _ => ?_) (fun _ => ?_) | refine Leads.chk ?_ (fun _ => ?_) | refine Leads.one ?_ | refine Leads.brP (fun _ => ?_) (fun _ => ?_))
  all_goals (rw [h]; refine congrArg (fun z => SV.val (.d (.bool z))) ?_; rw [Bool.eq_iff_iff]; simp [letterI, betw] at *; try omega)
def Er5_Letter : Es := (22, Sr5_Letter) :: Er5_Space
theorem okr5_Letter : SatE P (En (Er5_Letter)) := SatE.cons (satr5_Letter) okr5_Space
/-! ### legation/legationref05.Digit -/
def Lr5_Digit : Ls := []
def Sr5_Digit := mkS [(false, [.int .u8])] fun ⟨⟨(b : Int), _⟩, _⟩ => bl (digitI b)
theorem tr5_Digit (b : Int) : evF T (En (Er5_Letter)) (Ln (Lr5_Digit)) Try.f23 [.d (.int .u8 b)] =
    some (SV.val (AV.d (D.bool (betw b (48 : Int) (57 : Int))))) := by kernel_rfl
theorem satr5_Digit : Sat P 23 (Sr5_Digit) := by
  refine sat_mk (LT := Ln (Lr5_Digit)) hC okr5_Letter mixed Try.func23 (by kernel_rfl) (c := bodyOf Try.f23) (by kernel_rfl) (by kernel_rfl) ?_ (loops0 (by kernel_rfl))
  rintro ⟨⟨(b : Int), _⟩, _⟩ sv h
  refine Leads.eq (Leads.of_eq (tr5_Digit b) ?_)
  have h := Out_leaf h
  repeat' (first | refine Leads.brD (fun _ => ?_) (fun _ => ?_) | refine Leads.brE (fun _ => ?_) (fun _ => ?_) | refine Leads.brN (fun _ => ?_) (fun _ => ?_) | refine Leads.brM (fun _ => ?_) (fun _ => ?_) | refine Leads.brG (fun _ => ?_) (fun _ => ?_) | refine Leads.br (fun _ => ?_) (fun _ => ?_) | refine Leads.chk ?_ (fun _ => ?_) | refine Leads.one ?_ | refine Leads.brP (fun _ => ?_) (fun _ => ?_))
  all_goals (rw [h]; refine congrArg (fun z => SV.val (.d (.bool z))) ?_; rw [Bool.eq_iff_iff]; simp [digitI, betw] at *; try omega)
def Er5_Digit : Es := (23, Sr5_Digit) :: Er5_Letter
theorem okr5_Digit : SatE P (En (Er5_Digit)) := SatE.cons (satr5_Digit) okr5_Letter
/-! ### legation/lex.many -/
def lklx_many_space_0 : St [.v false [.str], .f 18, .v false [.int .i64]] → Prop := fun ⟨⟨(s : List UInt8), _⟩, _, ⟨(n : Int), _⟩, _⟩ => 0 ≤ n ∧ n ≤ (s.length : Int) ∧ s.length ≤ 1152921504606846976
def lglx_many_space_0 : St [.v false [.str], .f 18, .v false [.int .i64]] → Tr (Ex × List SV) := fun ⟨⟨(s : List UInt8), _⟩, _, ⟨(n : Int), _⟩, _⟩ => .leaf (.exit 0, [.val (.d (.int .i64 (n + (many spaceI (s.drop n.toNat) : Nat))))])
def lmlx_many_space_0 : St [.v false [.str], .f 18, .v false [.int .i64]] → Nat := fun ⟨⟨(s : List UInt8), _⟩, _, ⟨(n : Int), _⟩, _⟩ => s.length - n.toNat
def lslx_many_space_0 : LoopS := mkR [0, 1, 5] [5] [] [.v false [.str], .f 18, .v false [.int .i64]] (fun r => .chk (lklx_many_space_0 r) (lglx_many_space_0 r))
def Llx_many_space : Ls := [(2, lslx_many_space_0)]
def Slx_many_space := mkF 1 18 (mkS [(false, [.str])] fun ⟨⟨(s : List UInt8), _⟩, _⟩ => .chk (s.length ≤ 1152921504606846976) (ii (many spaceI s)))
theorem ltlx_many_space_0 (s : List UInt8)  (n : Int) : evRound T (En (Er5_Digit)) (Ln (Llx_many_space)) (loopAt 0 (loops (bodyOf Try.f17))) (lslx_many_space_0) [.val (.d (.str  s)), .val (.fn 18 []), .val (.d (.int .i64 n))] =
    br (decide (n < (↑s.length : Int))) (chk ((0 : Int) ≤ n ∧ n < (↑s.length : Int)) (br (spaceI (byteAt s n)) (some (Rnd.again [SV.val (AV.d (D.str s)), SV.val (AV.fn (18 : Nat) []), SV.val (AV.d (D.int IntKind.i64 (IntKind.i64.wrap (n + (1 : Int)))))])) (some (Rnd.out (Ex.exit (0 : Nat)) [SV.val (AV.d (D.int IntKind.i64 n))])))) (some (Rnd.out (Ex.exit (0 : Nat)) [SV.val (AV.d (D.int IntKind.i64 n))])) := by kernel_rfl
theorem loklx_many_space_0 : LoopOK T (En (Er5_Digit)) (Ln (Llx_many_space)) (loopAt 0 (loops (bodyOf Try.f17))) := by
  refine loop_ok (live := [0, 1, 5]) (outs := [5]) (rets := []) (ks := [.v false [.str], .f 18, .v false [.int .i64]]) (G := lglx_many_space_0) (lklx_many_space_0) (lmlx_many_space_0) (by kernel_rfl) ?_
  rintro ⟨⟨(s : List UInt8), _⟩, _, ⟨(n : Int), _⟩, _⟩ x hok hx
  refine Leads.of_eq (ltlx_many_space_0 s n) ?_
  obtain ⟨h0, h1, h2⟩ := hok
  obtain rfl := Out_leaf hx
  obtain ⟨m, rfl⟩ := Int.eq_ofNat_of_zero_le h0
  simp only [Int.toNat_natCast]
  rcases drop_cases s m with ⟨hle, hd⟩ | ⟨b, hlt, hd, hb⟩
  · refine Leads.brD (fun q => by omega) (fun _ => Leads.one (Goes.out ?_))
    rw [hd]; simp [many]
  · rw [byteAt_u hb, wrap64 (by omega) (by omega), hd]
    refine Leads.brD (fun _ => Leads.chk (by omega) fun _ => Leads.br (fun q => Leads.one ?_) (fun q => Leads.one (Goes.out ?_))) (fun q => by omega)
    · refine Goes.again (ks := [.v false [.str], .f 18, .v false [.int .i64]]) ((_, ()), (), (_, ()), ()) rfl ?_ ?_ ?_
      · exact ⟨by omega, by omega, h2⟩
      · simp only [lmlx_many_space_0]; omega
      · simp only [lglx_many_space_0, toNat_add1, many, q, if_true]
        show _ = _
        rw [show (m : Int) + 1 + ((many spaceI (s.drop (m + 1)) : Nat) : Int) = (m : Int) + ((many spaceI (s.drop (m + 1)) + 1 : Nat) : Int) by omega]
    · simp [many, q]
theorem tlx_many_space (s : List UInt8) : evF T (En (Er5_Digit)) (Ln (Llx_many_space)) Try.f17 [.d (.str s), .fn 18 []] =
    chk (lklx_many_space_0 ((s, ()), (), ((0 : Int), ()), ())) (some (SV.val (AV.d (D.int IntKind.i64 ((0 : Int) + (↑(many spaceI (List.drop (Int.toNat (0 : Int)) s)) : Int)))))) := by kernel_rfl
theorem satlx_many_space : Sat P 17 (Slx_many_space) := by
  refine sat_mkF (LT := Ln (Llx_many_space)) hC okr5_Digit mixed Try.func17 (by kernel_rfl) (c := bodyOf Try.f17) (by kernel_rfl) (by kernel_rfl) ?_ (loops1 (by kernel_rfl) (loklx_many_space_0))
  rintro ⟨⟨(s : List UInt8), _⟩, _⟩ sv h
  refine Leads.eq (Leads.of_eq (tlx_many_space s) ?_)
  obtain ⟨hs, h⟩ := h
  obtain rfl := Out_leaf h
  exact Leads.chk ⟨by omega, by omega, hs⟩ fun _ => Leads.one (by simp)
/-! ### legation/lex.many -/
def lklx_many_letter_0 : St [.v false [.str], .f 27, .v false [.int .i64]] → Prop := fun ⟨⟨(s : List UInt8), _⟩, _, ⟨(n : Int), _⟩, _⟩ => 0 ≤ n ∧ n ≤ (s.length : Int) ∧ s.length ≤ 1152921504606846976
def lglx_many_letter_0 : St [.v false [.str], .f 27, .v false [.int .i64]] → Tr (Ex × List SV) := fun ⟨⟨(s : List UInt8), _⟩, _, ⟨(n : Int), _⟩, _⟩ => .leaf (.exit 0, [.val (.d (.int .i64 (n + (many letterI (s.drop n.toNat) : Nat))))])
def lmlx_many_letter_0 : St [.v false [.str], .f 27, .v false [.int .i64]] → Nat := fun ⟨⟨(s : List UInt8), _⟩, _, ⟨(n : Int), _⟩, _⟩ => s.length - n.toNat
def lslx_many_letter_0 : LoopS := mkR [0, 1, 5] [5] [] [.v false [.str], .f 27, .v false [.int .i64]] (fun r => .chk (lklx_many_letter_0 r) (lglx_many_letter_0 r))
def Llx_many_letter : Ls := [(2, lslx_many_letter_0)]
def Slx_many_letter := mkF 1 27 (mkS [(false, [.str])] fun ⟨⟨(s : List UInt8), _⟩, _⟩ => .chk (s.length ≤ 1152921504606846976) (ii (many letterI s)))
theorem ltlx_many_letter_0 (s : List UInt8)  (n : Int) : evRound T (En (Er5_Digit)) (Ln (Llx_many_letter)) (loopAt 0 (loops (bodyOf Try.f17))) (lslx_many_letter_0) [.val (.d (.str  s)), .val (.fn 27 []), .val (.d (.int .i64 n))] =
    br (decide (n < (↑s.length : Int))) (chk ((0 : Int) ≤ n ∧ n < (↑s.length : Int)) (br (letterI (byteAt s n)) (some (Rnd.again [SV.val (AV.d (D.str s)), SV.val (AV.fn (27 : Nat) []), SV.val (AV.d (D.int IntKind.i64 (IntKind.i64.wrap (n + (1 : Int)))))])) (some (Rnd.out (Ex.exit (0 : Nat)) [SV.val (AV.d (D.int IntKind.i64 n))])))) (some (Rnd.out (Ex.exit (0 : Nat)) [SV.val (AV.d (D.int IntKind.i64 n))])) := by kernel_rfl
theorem loklx_many_letter_0 : LoopOK T (En (Er5_Digit)) (Ln (Llx_many_letter)) (loopAt 0 (loops (bodyOf Try.f17))) := by
  refine loop_ok (live := [0, 1, 5]) (outs := [5]) (rets := []) (ks := [.v false [.str], .f 27, .v false [.int .i64]]) (G := lglx_many_letter_0) (lklx_many_letter_0) (lmlx_many_letter_0) (by kernel_rfl) ?_
  rintro ⟨⟨(s : List UInt8), _⟩, _, ⟨(n : Int), _⟩, _⟩ x hok hx
  refine Leads.of_eq (ltlx_many_letter_0 s n) ?_
  obtain ⟨h0, h1, h2⟩ := hok
  obtain rfl := Out_leaf hx
  obtain ⟨m, rfl⟩ := Int.eq_ofNat_of_zero_le h0
  simp only [Int.toNat_natCast]
  rcases drop_cases s m with ⟨hle, hd⟩ | ⟨b, hlt, hd, hb⟩
  · refine Leads.brD (fun q => by omega) (fun _ => Leads.one (Goes.out ?_))
    rw [hd]; simp [many]
  · rw [byteAt_u hb, wrap64 (by omega) (by omega), hd]
    refine Leads.brD (fun _ => Leads.chk (by omega) fun _ => Leads.br (fun q => Leads.one ?_) (fun q => Leads.one (Goes.out ?_))) (fun q => by omega)
    · refine Goes.again (ks := [.v false [.str], .f 27, .v false [.int .i64]]) ((_, ()), (), (_, ()), ()) rfl ?_ ?_ ?_
      · exact ⟨by omega, by omega, h2⟩
      · simp only [lmlx_many_letter_0]; omega
      · simp only [lglx_many_letter_0, toNat_add1, many, q, if_true]
        show _ = _
        rw [show (m : Int) + 1 + ((many letterI (s.drop (m + 1)) : Nat) : Int) = (m : Int) + ((many letterI (s.drop (m + 1)) + 1 : Nat) : Int) by omega]
    · simp [many, q]
theorem tlx_many_letter (s : List UInt8) : evF T (En (Er5_Digit)) (Ln (Llx_many_letter)) Try.f17 [.d (.str s), .fn 27 []] =
    chk (lklx_many_letter_0 ((s, ()), (), ((0 : Int), ()), ())) (some (SV.val (AV.d (D.int IntKind.i64 ((0 : Int) + (↑(many letterI (List.drop (Int.toNat (0 : Int)) s)) : Int)))))) := by kernel_rfl
theorem satlx_many_letter : Sat P 17 (Slx_many_letter) := by
  refine sat_mkF (LT := Ln (Llx_many_letter)) hC okr5_Digit mixed Try.func17 (by kernel_rfl) (c := bodyOf Try.f17) (by kernel_rfl) (by kernel_rfl) ?_ (loops1 (by kernel_rfl) (loklx_many_letter_0))
  rintro ⟨⟨(s : List UInt8), _⟩, _⟩ sv h
  refine Leads.eq (Leads.of_eq (tlx_many_letter s) ?_)
  obtain ⟨hs, h⟩ := h
  obtain rfl := Out_leaf h
  exact Leads.chk ⟨by omega, by omega, hs⟩ fun _ => Leads.one (by simp)
/-! ### legation/lex.many -/
def lklx_many_digit_0 : St [.v false [.str], .f 28, .v false [.int .i64]] → Prop := fun ⟨⟨(s : List UInt8), _⟩, _, ⟨(n : Int), _⟩, _⟩ => 0 ≤ n ∧ n ≤ (s.length : Int) ∧ s.length ≤ 1152921504606846976
def lglx_many_digit_0 : St [.v false [.str], .f 28, .v false [.int .i64]] → Tr (Ex × List SV) := fun ⟨⟨(s : List UInt8), _⟩, _, ⟨(n : Int), _⟩, _⟩ => .leaf (.exit 0, [.val (.d (.int .i64 (n + (many digitI (s.drop n.toNat) : Nat))))])
def lmlx_many_digit_0 : St [.v false [.str], .f 28, .v false [.int .i64]] → Nat := fun ⟨⟨(s : List UInt8), _⟩, _, ⟨(n : Int), _⟩, _⟩ => s.length - n.toNat
def lslx_many_digit_0 : LoopS := mkR [0, 1, 5] [5] [] [.v false [.str], .f 28, .v false [.int .i64]] (fun r => .chk (lklx_many_digit_0 r) (lglx_many_digit_0 r))
def Llx_many_digit : Ls := [(2, lslx_many_digit_0)]
def Slx_many_digit := mkF 1 28 (mkS [(false, [.str])] fun ⟨⟨(s : List UInt8), _⟩, _⟩ => .chk (s.length ≤ 1152921504606846976) (ii (many digitI s)))
theorem ltlx_many_digit_0 (s : List UInt8)  (n : Int) : evRound T (En (Er5_Digit)) (Ln (Llx_many_digit)) (loopAt 0 (loops (bodyOf Try.f17))) (lslx_many_digit_0) [.val (.d (.str  s)), .val (.fn 28 []), .val (.d (.int .i64 n))] =
    br (decide (n < (↑s.length : Int))) (chk ((0 : Int) ≤ n ∧ n < (↑s.length : Int)) (br (digitI (byteAt s n)) (some (Rnd.again [SV.val (AV.d (D.str s)), SV.val (AV.fn (28 : Nat) []), SV.val (AV.d (D.int IntKind.i64 (IntKind.i64.wrap (n + (1 : Int)))))])) (some (Rnd.out (Ex.exit (0 : Nat)) [SV.val (AV.d (D.int IntKind.i64 n))])))) (some (Rnd.out (Ex.exit (0 : Nat)) [SV.val (AV.d (D.int IntKind.i64 n))])) := by kernel_rfl
theorem loklx_many_digit_0 : LoopOK T (En (Er5_Digit)) (Ln (Llx_many_digit)) (loopAt 0 (loops (bodyOf Try.f17))) := by
  refine loop_ok (live := [0, 1, 5]) (outs := [5]) (rets := []) (ks := [.v false [.str], .f 28, .v false [.int .i64]]) (G := lglx_many_digit_0) (lklx_many_digit_0) (lmlx_many_digit_0) (by kernel_rfl) ?_
  rintro ⟨⟨(s : List UInt8), _⟩, _, ⟨(n : Int), _⟩, _⟩ x hok hx
  refine Leads.of_eq (ltlx_many_digit_0 s n) ?_
  obtain ⟨h0, h1, h2⟩ := hok
  obtain rfl := Out_leaf hx
  obtain ⟨m, rfl⟩ := Int.eq_ofNat_of_zero_le h0
  simp only [Int.toNat_natCast]
  rcases drop_cases s m with ⟨hle, hd⟩ | ⟨b, hlt, hd, hb⟩
  · refine Leads.brD (fun q => by omega) (fun _ => Leads.one (Goes.out ?_))
    rw [hd]; simp [many]
  · rw [byteAt_u hb, wrap64 (by omega) (by omega), hd]
    refine Leads.brD (fun _ => Leads.chk (by omega) fun _ => Leads.br (fun q => Leads.one ?_) (fun q => Leads.one (Goes.out ?_))) (fun q => by omega)
    · refine Goes.again (ks := [.v false [.str], .f 28, .v false [.int .i64]]) ((_, ()), (), (_, ()), ()) rfl ?_ ?_ ?_
      · exact ⟨by omega, by omega, h2⟩
      · simp only [lmlx_many_digit_0]; omega
      · simp only [lglx_many_digit_0, toNat_add1, many, q, if_true]
        show _ = _
        rw [show (m : Int) + 1 + ((many digitI (s.drop (m + 1)) : Nat) : Int) = (m : Int) + ((many digitI (s.drop (m + 1)) + 1 : Nat) : Int) by omega]
    · simp [many, q]
theorem tlx_many_digit (s : List UInt8) : evF T (En (Er5_Digit)) (Ln (Llx_many_digit)) Try.f17 [.d (.str s), .fn 28 []] =
    chk (lklx_many_digit_0 ((s, ()), (), ((0 : Int), ()), ())) (some (SV.val (AV.d (D.int IntKind.i64 ((0 : Int) + (↑(many digitI (List.drop (Int.toNat (0 : Int)) s)) : Int)))))) := by kernel_rfl
theorem satlx_many_digit : Sat P 17 (Slx_many_digit) := by
  refine sat_mkF (LT := Ln (Llx_many_digit)) hC okr5_Digit mixed Try.func17 (by kernel_rfl) (c := bodyOf Try.f17) (by kernel_rfl) (by kernel_rfl) ?_ (loops1 (by kernel_rfl) (loklx_many_digit_0))
  rintro ⟨⟨(s : List UInt8), _⟩, _⟩ sv h
  refine Leads.eq (Leads.of_eq (tlx_many_digit s) ?_)
  obtain ⟨hs, h⟩ := h
  obtain rfl := Out_leaf h
  exact Leads.chk ⟨by omega, by omega, hs⟩ fun _ => Leads.one (by simp)
def Slx_many := orS Slx_many_space (orS Slx_many_letter Slx_many_digit)
def Elx_many : Es := (17, Slx_many) :: Er5_Digit
theorem satlx_many : Sat P 17 Slx_many := sat_or satlx_many_space (sat_or satlx_many_letter satlx_many_digit)
theorem oklx_many : SatE P (En Elx_many) := SatE.cons satlx_many okr5_Digit
/-! ### legation/legationref05.Run -/
def lkr5_Run_0 : St [.v false [.str], .v false [.int .i64], .v false [.int .i64], .v false [.int .i64]] → Prop := fun ⟨⟨(s : List UInt8), _⟩, ⟨(at_ : Int), _⟩, ⟨(kind : Int), _⟩, ⟨(n : Int), _⟩, _⟩ => 0 ≤ at_ ∧ 0 ≤ n ∧ at_ + n ≤ (s.length : Int) ∧ s.length ≤ 1152921504606846976 ∧ (kind = 1 ∨ kind = 2 ∨ kind = 3)
def lgr5_Run_0 : St [.v false [.str], .v false [.int .i64], .v false [.int .i64], .v false [.int .i64]] → Tr (Ex × List SV) := fun ⟨⟨(s : List UInt8), _⟩, ⟨(at_ : Int), _⟩, ⟨(kind : Int), _⟩, ⟨(n : Int), _⟩, _⟩ => .brP (many (runI kind) (s.drop (at_ + n).toNat) < (s.drop (at_ + n).toNat).length) (.leaf (.ret, [.val (.d (.int .i64 (n + (many (runI kind) (s.drop (at_ + n).toNat) : Nat))))])) (.leaf (.exit 0, [.val (.d (.int .i64 (n + (many (runI kind) (s.drop (at_ + n).toNat) : Nat))))]))
def lmr5_Run_0 : St [.v false [.str], .v false [.int .i64], .v false [.int .i64], .v false [.int .i64]] → Nat := fun ⟨⟨(s : List UInt8), _⟩, ⟨(at_ : Int), _⟩, ⟨(kind : Int), _⟩, ⟨(n : Int), _⟩, _⟩ => s.length - (at_ + n).toNat
def lsr5_Run_0 : LoopS := mkR [0, 1, 2, 7] [7] [6] [.v false [.str], .v false [.int .i64], .v false [.int .i64], .v false [.int .i64]] (fun r => .chk (lkr5_Run_0 r) (lgr5_Run_0 r))
def Lr5_Run : Ls := [(2, lsr5_Run_0)]
def Sr5_Run := mkS [(false, [.str]), (false, [.int .i64]), (false, [.int .i64])] fun ⟨⟨(s : List UInt8), _⟩, ⟨(at_ : Int), _⟩, ⟨(kind : Int), _⟩, _⟩ => .chk (s.length ≤ 1152921504606846976 ∧ 0 ≤ at_ ∧ at_ ≤ (s.length : Int) ∧ (kind = 1 ∨ kind = 2 ∨ kind = 3)) (ii (many (runI kind) (s.drop at_.toNat)))
theorem ltr5_Run_0 (s : List UInt8) (at_ : Int) (kind : Int) (n : Int) : evRound T (En (Elx_many)) (Ln (Lr5_Run)) (loopAt 0 (loops (bodyOf Try.f14))) (lsr5_Run_0) [.val (.d (.str  s)), .val (.d (.int .i64 at_)), .val (.d (.int .i64 kind)), .val (.d (.int .i64 n))] =
    br (decide (IntKind.i64.wrap (at_ + n) < (↑s.length : Int))) (chk ((0 : Int) ≤ IntKind.i64.wrap (at_ + n) ∧ IntKind.i64.wrap (at_ + n) < (↑s.length : Int)) (br (kind == (1 : Int)) (br (!spaceI (byteAt s (IntKind.i64.wrap (at_ + n)))) (some (Rnd.out Ex.ret [SV.val (AV.d (D.int IntKind.i64 n))])) (br (kind == (2 : Int)) (br (!letterI (byteAt s (IntKind.i64.wrap (at_ + n)))) (some (Rnd.out Ex.ret [SV.val (AV.d (D.int IntKind.i64 n))])) (br (kind == (3 : Int)) (br (!digitI (byteAt s (IntKind.i64.wrap (at_ + n)))) (some (Rnd.out Ex.ret [SV.val (AV.d (D.int IntKind.i64 n))])) (some (Rnd.again [SV.val (AV.d (D.str s)), SV.val (AV.d (D.int IntKind.i64 at_)), SV.val (AV.d (D.int IntKind.i64 kind)), SV.val (AV.d (D.int IntKind.i64 (IntKind.i64.wrap (n + (1 : Int)))))]))) (some (Rnd.again [SV.val (AV.d (D.str s)), SV.val (AV.d (D.int IntKind.i64 at_)), SV.val (AV.d (D.int IntKind.i64 kind)), SV.val (AV.d (D.int IntKind.i64 (IntKind.i64.wrap (n + (1 : Int)))))])))) (br (kind == (3 : Int)) (br (!digitI (byteAt s (IntKind.i64.wrap (at_ + n)))) (some (Rnd.out Ex.ret [SV.val (AV.d (D.int IntKind.i64 n))])) (some (Rnd.again [SV.val (AV.d (D.str s)), SV.val (AV.d (D.int IntKind.i64 at_)), SV.val (AV.d (D.int IntKind.i64 kind)), SV.val (AV.d (D.int IntKind.i64 (IntKind.i64.wrap (n + (1 : Int)))))]))) (some (Rnd.again [SV.val (AV.d (D.str s)), SV.val (AV.d (D.int IntKind.i64 at_)), SV.val (AV.d (D.int IntKind.i64 kind)), SV.val (AV.d (D.int IntKind.i64 (IntKind.i64.wrap (n + (1 : Int)))))]))))) (br (kind == (2 : Int)) (br (!letterI (byteAt s (IntKind.i64.wrap (at_ + n)))) (some (Rnd.out Ex.ret [SV.val (AV.d (D.int IntKind.i64 n))])) (br (kind == (3 : Int)) (br (!digitI (byteAt s (IntKind.i64.wrap (at_ + n)))) (some (Rnd.out Ex.ret [SV.val (AV.d (D.int IntKind.i64 n))])) (some (Rnd.again [SV.val (AV.d (D.str s)), SV.val (AV.d (D.int IntKind.i64 at_)), SV.val (AV.d (D.int IntKind.i64 kind)), SV.val (AV.d (D.int IntKind.i64 (IntKind.i64.wrap (n + (1 : Int)))))]))) (some (Rnd.again [SV.val (AV.d (D.str s)), SV.val (AV.d (D.int IntKind.i64 at_)), SV.val (AV.d (D.int IntKind.i64 kind)), SV.val (AV.d (D.int IntKind.i64 (IntKind.i64.wrap (n + (1 : Int)))))])))) (br (kind == (3 : Int)) (br (!digitI (byteAt s (IntKind.i64.wrap (at_ + n)))) (some (Rnd.out Ex.ret [SV.val (AV.d (D.int IntKind.i64 n))])) (some (Rnd.again [SV.val (AV.d (D.str s)), SV.val (AV.d (D.int IntKind.i64 at_)), SV.val (AV.d (D.int IntKind.i64 kind)), SV.val (AV.d (D.int IntKind.i64 (IntKind.i64.wrap (n + (1 : Int)))))]))) (some (Rnd.again [SV.val (AV.d (D.str s)), SV.val (AV.d (D.int IntKind.i64 at_)), SV.val (AV.d (D.int IntKind.i64 kind)), SV.val (AV.d (D.int IntKind.i64 (IntKind.i64.wrap (n + (1 : Int)))))])))))) (some (Rnd.out (Ex.exit (0 : Nat)) [SV.val (AV.d (D.int IntKind.i64 n))])) := by kernel_rfl
theorem lokr5_Run_0 : LoopOK T (En (Elx_many)) (Ln (Lr5_Run)) (loopAt 0 (loops (bodyOf Try.f14))) := by
  refine loop_ok (live := [0, 1, 2, 7]) (outs := [7]) (rets := [6]) (ks := [.v false [.str], .v false [.int .i64], .v false [.int .i64], .v false [.int .i64]]) (G := lgr5_Run_0) (lkr5_Run_0) (lmr5_Run_0) (by kernel_rfl) ?_
  rintro ⟨⟨(s : List UInt8), _⟩, ⟨(at_ : Int), _⟩, ⟨(kind : Int), _⟩, ⟨(n : Int), _⟩, _⟩ x hok hx
  refine Leads.of_eq (ltr5_Run_0 s at_ kind n) ?_
  obtain ⟨h0, h1, h2, h3, hk⟩ := hok
  obtain ⟨a, rfl⟩ := Int.eq_ofNat_of_zero_le h0
  obtain ⟨m, rfl⟩ := Int.eq_ofNat_of_zero_le h1
  have e : ((a : Int) + (m : Int)) = ((a + m : Nat) : Int) := by omega
  simp only [lgr5_Run_0, e, Int.toNat_natCast] at hx
  rw [wrap64 (x := (a : Int) + m) (by omega) (by omega), e, wrap64 (by omega) (by omega)]
  have e2 : ((a : Int) + ((m : Int) + 1)).toNat = a + m + 1 := by omega
  rcases drop_cases s (a + m) with ⟨hle, hd⟩ | ⟨b, hlt, hd, hb⟩
  · refine Leads.brD (fun q => by omega) (fun _ => Leads.one (Goes.out ?_))
    rw [hd] at hx
    have := Out_leaf (Out_neg (by simp) hx)
    simpa [many] using this
  · rw [byteAt_u hb]
    rw [hd] at hx
    have key : runI kind (u b) = true → Goes [.v false [.str], .v false [.int .i64], .v false [.int .i64], .v false [.int .i64]] lgr5_Run_0 lkr5_Run_0 lmr5_Run_0 ((s, ()), ((a : Int), ()), (kind, ()), ((m : Int), ()), ()) x (.again [.val (.d (.str s)), .val (.d (.int .i64 (a : Int))), .val (.d (.int .i64 kind)), .val (.d (.int .i64 ((m : Int) + 1)))]) := by
      intro q
      simp only [many, q, if_true, List.length_cons] at hx
      refine Goes.again (ks := [.v false [.str], .v false [.int .i64], .v false [.int .i64], .v false [.int .i64]]) ((_, ()), (_, ()), (_, ()), (_, ()), ()) rfl ?_ ?_ ?_
      · exact ⟨by omega, by omega, by show (a : Int) + ((m : Int) + 1) ≤ (s.length : Int); omega, h3, hk⟩
      · show s.length - ((a : Int) + ((m : Int) + 1)).toNat < s.length - ((a : Int) + (m : Int)).toNat
        rw [e2, e]; simp only [Int.toNat_natCast]; omega
      · simp only [lgr5_Run_0, e2]
        rcases Out_brP hx with ⟨w, hx⟩ | ⟨w, hx⟩
        · refine .inl ⟨by omega, ?_⟩
          rw [show (m : Int) + 1 + ((many (runI kind) (s.drop (a + m + 1)) : Nat) : Int) = (m : Int) + ((many (runI kind) (s.drop (a + m + 1)) + 1 : Nat) : Int) by omega]
          exact hx
        · refine .inr ⟨by omega, ?_⟩
          rw [show (m : Int) + 1 + ((many (runI kind) (s.drop (a + m + 1)) : Nat) : Int) = (m : Int) + ((many (runI kind) (s.drop (a + m + 1)) + 1 : Nat) : Int) by omega]
          exact hx
    have stop : runI kind (u b) = false → x = (Ex.ret, [.val (.d (.int .i64 (m : Int)))]) := by
      intro q
      simp only [many, q, Bool.false_eq_true, if_false] at hx
      have := Out_leaf (Out_pos (by simp) hx)
      simpa using this
    rcases hk with rfl | rfl | rfl
    all_goals simp only [runI1, runI2, runI3] at key stop
    all_goals (repeat' (first | refine Leads.brD (fun _ => ?_) (fun _ => ?_) | refine Leads.brE (fun _ => ?_) (fun _ => ?_) | refine Leads.brN (fun _ => ?_) (fun _ => ?_) | refine Leads.brM (fun _ => ?_) (fun _ => ?_) | refine Leads.brG (fun _ => ?_) (fun _ => ?_) | refine Leads.br (fun _ => ?_) (fun _ => ?_) | refine Leads.chk ?_ (fun _ => ?_) | refine Leads.one ?_ | refine Leads.brP (fun _ => ?_) (fun _ => ?_)))
    all_goals first | omega | (exfalso; omega) | (exact Goes.out (stop (by assumption))) | (exact key (by assumption)) | skip
theorem tr5_Run (s : List UInt8) (at_ : Int) (kind : Int) : evF T (En (Elx_many)) (Ln (Lr5_Run)) Try.f14 [.d (.str s), .d (.int .i64 at_), .d (.int .i64 kind)] =
    chk (lkr5_Run_0 ((s, ()), (at_, ()), (kind, ()), ((0 : Int), ()), ())) (brP (many (runI kind) (List.drop (at_ + (0 : Int)).toNat s) < (List.drop (at_ + (0 : Int)).toNat s).length) (some (SV.val (AV.d (D.int IntKind.i64 ((0 : Int) + (↑(many (runI kind) (List.drop (at_ + (0 : Int)).toNat s)) : Int)))))) (some (SV.val (AV.d (D.int IntKind.i64 ((0 : Int) + (↑(many (runI kind) (List.drop (at_ + (0 : Int)).toNat s)) : Int))))))) := by kernel_rfl
theorem satr5_Run : Sat P 14 (Sr5_Run) := by
  refine sat_mk (LT := Ln (Lr5_Run)) hC oklx_many mixed Try.func14 (by kernel_rfl) (c := bodyOf Try.f14) (by kernel_rfl) (by kernel_rfl) ?_ (loops1 (by kernel_rfl) (lokr5_Run_0))
  rintro ⟨⟨(s : List UInt8), _⟩, ⟨(at_ : Int), _⟩, ⟨(kind : Int), _⟩, _⟩ sv h
  refine Leads.eq (Leads.of_eq (tr5_Run s at_ kind) ?_)
  obtain ⟨⟨hs, h0, h1, hk⟩, h⟩ := h
  have h := Out_leaf h
  have e : (at_ + 0).toNat = at_.toNat := by omega
  rw [e]
  exact Leads.chk ⟨h0, by omega, by omega, hs, hk⟩ fun _ => Leads.brP (fun _ => Leads.one (by rw [h]; simp)) (fun _ => Leads.one (by rw [h]; simp))
def Er5_Run : Es := (14, Sr5_Run) :: Elx_many
theorem okr5_Run : SatE P (En (Er5_Run)) := SatE.cons (satr5_Run) oklx_many
/-! ### legation/lex.sign -/
def lslx_sign_0 : LoopS := mkU 6
def lklx_sign_1 : St [.v false [.str], .sit] → Prop := fun ⟨⟨(s : List UInt8), _⟩, ⟨(x15 : List UInt8), (x15_p : Nat)⟩, _⟩ => 0 < s.length ∧ s.length ≤ 1152921504606846976 ∧ x15 = signs1
def lglx_sign_1 : St [.v false [.str], .sit] → Tr (Ex × List SV) := fun ⟨⟨(s : List UInt8), _⟩, ⟨(x15 : List UInt8), (x15_p : Nat)⟩, _⟩ => .br (isIn (byteAt s 0) (x15.drop x15_p)) (.leaf (.ret, [.val (.d (.str  (s.take 1)))])) (.leaf (.exit 2, []))
def lmlx_sign_1 : St [.v false [.str], .sit] → Nat := fun ⟨⟨(s : List UInt8), _⟩, ⟨(x15 : List UInt8), (x15_p : Nat)⟩, _⟩ => x15.length - x15_p
def lslx_sign_1 : LoopS := mkR [0, 15] [] [2] [.v false [.str], .sit] (fun r => .chk (lklx_sign_1 r) (lglx_sign_1 r))
def Llx_sign : Ls := [(2, lslx_sign_0), (8, lslx_sign_1)]
def Slx_sign := mkS [(false, [.str])] fun ⟨⟨(s : List UInt8), _⟩, _⟩ => .chk (s.length ≤ 1152921504606846976 ∧ 0 < s.length) (.leaf (.val (.d (.str (signS s)))))
theorem ltlx_sign_1 (s : List UInt8) (x15 : List UInt8) (x15_p : Nat) : evRound T (En (Er5_Run)) (Ln (Llx_sign)) (loopAt 1 (loops (bodyOf Try.f30))) (lslx_sign_1) [.val (.d (.str  s)), .sit x15 x15_p] =
    brP (x15_p < x15.length) (chk ((0 : Int) ≤ (0 : Int) ∧ (0 : Int) < (↑s.length : Int)) (chk ((0 : Int) ≤ (↑x15_p : Int) ∧ (↑x15_p : Int) < (↑[(123 : UInt8), (125 : UInt8), (40 : UInt8), (41 : UInt8), (46 : UInt8), (44 : UInt8), (42 : UInt8), (43 : UInt8), (45 : UInt8), (47 : UInt8), (61 : UInt8), (60 : UInt8), (62 : UInt8), (33 : UInt8)].length : Int)) (br (byteAt s (0 : Int) == byteAt [(123 : UInt8), (125 : UInt8), (40 : UInt8), (41 : UInt8), (46 : UInt8), (44 : UInt8), (42 : UInt8), (43 : UInt8), (45 : UInt8), (47 : UInt8), (61 : UInt8), (60 : UInt8), (62 : UInt8), (33 : UInt8)] (↑x15_p : Int)) (chk ((0 : Int) ≤ (1 : Int) ∧ (1 : Int) ≤ (↑s.length : Int)) (some (Rnd.out Ex.ret [SV.val (AV.d (D.str (List.take (Int.toNat (1 : Int)) s)))]))) (some (Rnd.again [SV.val (AV.d (D.str s)), SV.sit x15 (x15_p + (Utf8.decode { data := x15.toArray } x15_p).snd)]))))) (some (Rnd.out (Ex.exit (2 : Nat)) [])) := by kernel_rfl
theorem loklx_sign_1 : LoopOK T (En (Er5_Run)) (Ln (Llx_sign)) (loopAt 1 (loops (bodyOf Try.f30))) := by
  refine loop_ok (live := [0, 15]) (outs := []) (rets := [2]) (ks := [.v false [.str], .sit]) (G := lglx_sign_1) (lklx_sign_1) (lmlx_sign_1) (by kernel_rfl) ?_
  rintro ⟨⟨(s : List UInt8), _⟩, ⟨(x15 : List UInt8), (x15_p : Nat)⟩, _⟩ x hok hx
  refine Leads.of_eq (ltlx_sign_1 s x15 x15_p) ?_
  obtain ⟨h0, h1, h2⟩ := hok
  subst h2
  simp only [lglx_sign_1] at hx
  have hlen : signs1.length = 14 := rfl
  rcases drop_cases signs1 x15_p with ⟨hle, hd⟩ | ⟨b, hlt, hd, hb⟩
  · refine Leads.brP (fun q => by omega) (fun _ => Leads.one (Goes.out ?_))
    rw [hd] at hx
    exact Out_leaf (Out_ff hx)
  · have hb' : byteAt [123, 125, 40, 41, 46, 44, 42, 43, 45, 47, 61, 60, 62, 33] (x15_p : Int) = u b := byteAt_u hb
    have hdc := dec_signs ⟨x15_p, by omega⟩
    rw [hb', hdc]
    rw [hd] at hx
    have hl2 : ([123, 125, 40, 41, 46, 44, 42, 43, 45, 47, 61, 60, 62, 33] : List UInt8).length = 14 := rfl
    refine Leads.brP (fun _ => Leads.chk (by omega) fun _ => Leads.chk (by rw [hl2]; omega) fun _ => Leads.brE (fun q => Leads.chk (by omega) fun _ => Leads.one (Goes.out ?_)) (fun q => Leads.one ?_)) (fun q => absurd hlt q)
    · simp only [isIn, List.any_cons, q, decide_true, Bool.true_or] at hx
      exact Out_leaf (Out_tt hx)
    · refine Goes.again (ks := [.v false [.str], .sit]) ((_, ()), (_, _), ()) rfl ?_ ?_ ?_
      · exact ⟨h0, h1, rfl⟩
      · simp only [lmlx_sign_1]; omega
      · simp only [lglx_sign_1]
        have : isIn (byteAt s 0) (b :: signs1.drop (x15_p + 1)) = isIn (byteAt s 0) (signs1.drop (x15_p + 1)) := by simp [isIn, q]
        rw [this] at hx; exact hx
theorem tlx_sign (s : List UInt8) : evF T (En (Er5_Run)) (Ln (Llx_sign)) Try.f30 [.d (.str s)] =
    chk ((0 : Int) ≤ (0 : Int) ∧ (0 : Int) < (↑(5 : Nat) : Int)) (chk (s.length ≤ Big ∧ [(60 : UInt8), (61 : UInt8)].length ≤ Big) (br (decide (List.take [(60 : UInt8), (61 : UInt8)].length s = [(60 : UInt8), (61 : UInt8)])) (some (SV.val (AV.d (D.str [(60 : UInt8), (61 : UInt8)])))) (chk ((0 : Int) ≤ IntKind.i64.wrap ((0 : Int) + (1 : Int)) ∧ IntKind.i64.wrap ((0 : Int) + (1 : Int)) < (↑(5 : Nat) : Int)) (chk (s.length ≤ Big ∧ [(62 : UInt8), (61 : UInt8)].length ≤ Big) (br (decide (List.take [(62 : UInt8), (61 : UInt8)].length s = [(62 : UInt8), (61 : UInt8)])) (some (SV.val (AV.d (D.str [(62 : UInt8), (61 : UInt8)])))) (chk ((0 : Int) ≤ IntKind.i64.wrap (IntKind.i64.wrap ((0 : Int) + (1 : Int)) + (1 : Int)) ∧ IntKind.i64.wrap (IntKind.i64.wrap ((0 : Int) + (1 : Int)) + (1 : Int)) < (↑(5 : Nat) : Int)) (chk (s.length ≤ Big ∧ [(33 : UInt8), (61 : UInt8)].length ≤ Big) (br (decide (List.take [(33 : UInt8), (61 : UInt8)].length s = [(33 : UInt8), (61 : UInt8)])) (some (SV.val (AV.d (D.str [(33 : UInt8), (61 : UInt8)])))) (chk ((0 : Int) ≤ IntKind.i64.wrap (IntKind.i64.wrap (IntKind.i64.wrap ((0 : Int) + (1 : Int)) + (1 : Int)) + (1 : Int)) ∧ IntKind.i64.wrap (IntKind.i64.wrap (IntKind.i64.wrap ((0 : Int) + (1 : Int)) + (1 : Int)) + (1 : Int)) < (↑(5 : Nat) : Int)) (chk (s.length ≤ Big ∧ [(38 : UInt8), (38 : UInt8)].length ≤ Big) (br (decide (List.take [(38 : UInt8), (38 : UInt8)].length s = [(38 : UInt8), (38 : UInt8)])) (some (SV.val (AV.d (D.str [(38 : UInt8), (38 : UInt8)])))) (chk ((0 : Int) ≤ IntKind.i64.wrap (IntKind.i64.wrap (IntKind.i64.wrap (IntKind.i64.wrap ((0 : Int) + (1 : Int)) + (1 : Int)) + (1 : Int)) + (1 : Int)) ∧ IntKind.i64.wrap (IntKind.i64.wrap (IntKind.i64.wrap (IntKind.i64.wrap ((0 : Int) + (1 : Int)) + (1 : Int)) + (1 : Int)) + (1 : Int)) < (↑(5 : Nat) : Int)) (chk (s.length ≤ Big ∧ [(124 : UInt8), (124 : UInt8)].length ≤ Big) (br (decide (List.take [(124 : UInt8), (124 : UInt8)].length s = [(124 : UInt8), (124 : UInt8)])) (some (SV.val (AV.d (D.str [(124 : UInt8), (124 : UInt8)])))) (chk (lklx_sign_1 ((s, ()), ([(123 : UInt8), (125 : UInt8), (40 : UInt8), (41 : UInt8), (46 : UInt8), (44 : UInt8), (42 : UInt8), (43 : UInt8), (45 : UInt8), (47 : UInt8), (61 : UInt8), (60 : UInt8), (62 : UInt8), (33 : UInt8)], (0 : Nat)), ())) (br (isIn (byteAt s (0 : Int)) (List.drop (0 : Nat) [(123 : UInt8), (125 : UInt8), (40 : UInt8), (41 : UInt8), (46 : UInt8), (44 : UInt8), (42 : UInt8), (43 : UInt8), (45 : UInt8), (47 : UInt8), (61 : UInt8), (60 : UInt8), (62 : UInt8), (33 : UInt8)])) (some (SV.val (AV.d (D.str (List.take (1 : Nat) s))))) (some (SV.val (AV.d (D.str [])))))))))))))))))))) := by kernel_rfl
theorem satlx_sign : Sat P 30 (Slx_sign) := by
  refine sat_mk (LT := Ln (Llx_sign)) hC okr5_Run mixed Try.func30 (by kernel_rfl) (c := bodyOf Try.f30) (by kernel_rfl) (by kernel_rfl) ?_ (loops2 (by kernel_rfl) (loopU (n := 6) (c := loopAt 0 (loops (bodyOf Try.f30))) (by kernel_rfl)) (loklx_sign_1))
  rintro ⟨⟨(s : List UInt8), _⟩, _⟩ sv h
  refine Leads.eq (Leads.of_eq (tlx_sign s) ?_)
  obtain ⟨⟨hs, h0⟩, h⟩ := h
  have h := Out_leaf h
  have w0 : IntKind.i64.wrap (0 + 1) = 1 := rfl
  have w1 : IntKind.i64.wrap (1 + 1) = 2 := rfl
  have w2 : IntKind.i64.wrap (2 + 1) = 3 := rfl
  have w3 : IntKind.i64.wrap (3 + 1) = 4 := rfl
  have w4 : IntKind.i64.wrap (4 + 1) = 5 := rfl
  simp only [w0, w1, w2, w3, w4]
  rw [signs_ne s (by intro e; simp [e] at h0)] at h
  have hB := Big_eq
  have hl : ∀ a b : UInt8, ([a, b] : List UInt8).length = 2 := fun _ _ => rfl
  simp only [hl]
  have t2 : two s = true → sv = .val (.d (.str (s.take 2))) := fun q => by rw [h, if_pos q]
  refine Leads.chk (by decide) fun _ => Leads.chk ⟨by omega, by omega⟩ fun _ => Leads.brD (fun q => Leads.one ?_) (fun q1 => Leads.chk (by decide) fun _ => Leads.chk ⟨by omega, by omega⟩ fun _ => Leads.brD (fun q => Leads.one ?_) (fun q2 => Leads.chk (by decide) fun _ => Leads.chk ⟨by omega, by omega⟩ fun _ => Leads.brD (fun q => Leads.one ?_) (fun q3 => Leads.chk (by decide) fun _ => Leads.chk ⟨by omega, by omega⟩ fun _ => Leads.brD (fun q => Leads.one ?_) (fun q4 => Leads.chk (by decide) fun _ => Leads.chk ⟨by omega, by omega⟩ fun _ => Leads.brD (fun q => Leads.one ?_) (fun q5 => ?_)))))
  · rw [t2 (by simp [two, q]), q]
  · rw [t2 (by simp [two, q]), q]
  · rw [t2 (by simp [two, q]), q]
  · rw [t2 (by simp [two, q]), q]
  · rw [t2 (by simp [two, q]), q]
  · have n2 : two s = false := by simp [two, q1, q2, q3, q4, q5]
    rw [n2] at h
    simp only [Bool.false_eq_true, if_false] at h
    have hs1 : ([123, 125, 40, 41, 46, 44, 42, 43, 45, 47, 61, 60, 62, 33] : List UInt8) = signs1 := rfl
    rw [hs1]
    repeat' (first | refine Leads.brD (fun _ => ?_) (fun _ => ?_) | refine Leads.brE (fun _ => ?_) (fun _ => ?_) | refine Leads.brN (fun _ => ?_) (fun _ => ?_) | refine Leads.brM (fun _ => ?_) (fun _ => ?_) | refine Leads.brG (fun _ => ?_) (fun _ => ?_) | refine Leads.br (fun _ => ?_) (fun _ => ?_) | refine Leads.chk ?_ (fun _ => ?_) | refine Leads.one ?_ | refine Leads.brP (fun _ => ?_) (fun _ => ?_))
    all_goals first | omega | exact ⟨h0, hs, rfl⟩ | skip
    · rename_i q; have q : isIn (byteAt s 0) signs1 = true := q; rw [h, if_pos q]
    · rename_i q; have q : isIn (byteAt s 0) signs1 = false := q; rw [h, if_neg (by rw [q]; simp)]
def Elx_sign : Es := (30, Slx_sign) :: Er5_Run
theorem oklx_sign : SatE P (En (Elx_sign)) := SatE.cons (satlx_sign) okr5_Run
/-! ### legation/legationref05.sign -/
def Lr5_sign : Ls := []
def Sr5_sign := mkS [(false, [.str])] fun ⟨⟨(s : List UInt8), _⟩, _⟩ => .chk (s.length ≤ 1152921504606846976 ∧ 0 < s.length) (ii (signS s).length)
theorem tr5_sign (s : List UInt8) : evF T (En (Elx_sign)) (Ln (Lr5_sign)) Try.f32 [.d (.str s)] =
    br (decide ((↑s.length : Int) ≥ (2 : Int))) (chk ((0 : Int) ≤ (2 : Int) ∧ (2 : Int) ≤ (↑s.length : Int)) (br (List.take (Int.toNat (2 : Int)) s == [(60 : UInt8), (61 : UInt8)]) (some (SV.val (AV.d (D.int IntKind.i64 (2 : Int))))) (br (List.take (Int.toNat (2 : Int)) s == [(62 : UInt8), (61 : UInt8)]) (some (SV.val (AV.d (D.int IntKind.i64 (2 : Int))))) (br (List.take (Int.toNat (2 : Int)) s == [(33 : UInt8), (61 : UInt8)]) (some (SV.val (AV.d (D.int IntKind.i64 (2 : Int))))) (br (List.take (Int.toNat (2 : Int)) s == [(38 : UInt8), (38 : UInt8)]) (some (SV.val (AV.d (D.int IntKind.i64 (2 : Int))))) (br (List.take (Int.toNat (2 : Int)) s == [(124 : UInt8), (124 : UInt8)]) (some (SV.val (AV.d (D.int IntKind.i64 (2 : Int))))) (chk ((0 : Int) ≤ (0 : Int) ∧ (0 : Int) < (↑s.length : Int)) (chk ([(123 : UInt8), (125 : UInt8), (40 : UInt8), (41 : UInt8), (46 : UInt8), (44 : UInt8), (42 : UInt8), (43 : UInt8), (45 : UInt8), (47 : UInt8), (61 : UInt8), (60 : UInt8), (62 : UInt8), (33 : UInt8)].length ≤ Big) (br (isIn (byteAt s (0 : Int)) [(123 : UInt8), (125 : UInt8), (40 : UInt8), (41 : UInt8), (46 : UInt8), (44 : UInt8), (42 : UInt8), (43 : UInt8), (45 : UInt8), (47 : UInt8), (61 : UInt8), (60 : UInt8), (62 : UInt8), (33 : UInt8)]) (some (SV.val (AV.d (D.int IntKind.i64 (1 : Int))))) (some (SV.val (AV.d (D.int IntKind.i64 (0 : Int)))))))))))))) (chk ((0 : Int) ≤ (0 : Int) ∧ (0 : Int) < (↑s.length : Int)) (chk ([(123 : UInt8), (125 : UInt8), (40 : UInt8), (41 : UInt8), (46 : UInt8), (44 : UInt8), (42 : UInt8), (43 : UInt8), (45 : UInt8), (47 : UInt8), (61 : UInt8), (60 : UInt8), (62 : UInt8), (33 : UInt8)].length ≤ Big) (br (isIn (byteAt s (0 : Int)) [(123 : UInt8), (125 : UInt8), (40 : UInt8), (41 : UInt8), (46 : UInt8), (44 : UInt8), (42 : UInt8), (43 : UInt8), (45 : UInt8), (47 : UInt8), (61 : UInt8), (60 : UInt8), (62 : UInt8), (33 : UInt8)]) (some (SV.val (AV.d (D.int IntKind.i64 (1 : Int))))) (some (SV.val (AV.d (D.int IntKind.i64 (0 : Int)))))))) := by kernel_rfl
theorem satr5_sign : Sat P 32 (Sr5_sign) := by
  refine sat_mk (LT := Ln (Lr5_sign)) hC oklx_sign mixed Try.func32 (by kernel_rfl) (c := bodyOf Try.f32) (by kernel_rfl) (by kernel_rfl) ?_ (loops0 (by kernel_rfl))
  rintro ⟨⟨(s : List UInt8), _⟩, _⟩ sv h
  refine Leads.eq (Leads.of_eq (tr5_sign s) ?_)
  obtain ⟨⟨hs, h0⟩, h⟩ := h
  have h := Out_leaf h
  rw [signs_ne s (by intro e; simp [e] at h0)] at h
  have hs1 : ([123, 125, 40, 41, 46, 44, 42, 43, 45, 47, 61, 60, 62, 33] : List UInt8) = signs1 := rfl
  rw [hs1]
  have hB : signs1.length ≤ Big := by decide
  have t2 : 2 ≤ s.length → two s = true → sv = .val (.d (.int .i64 2)) := fun l q => by rw [h, if_pos q, List.length_take, show min 2 s.length = 2 by omega]; rfl
  have one : two s = false → Leads (R := SV) ((chk ((0 : Int) ≤ (0 : Int) ∧ (0 : Int) < (↑s.length : Int)) (chk ([(123 : UInt8), (125 : UInt8), (40 : UInt8), (41 : UInt8), (46 : UInt8), (44 : UInt8), (42 : UInt8), (43 : UInt8), (45 : UInt8), (47 : UInt8), (61 : UInt8), (60 : UInt8), (62 : UInt8), (33 : UInt8)].length ≤ Big) (br (isIn (byteAt s (0 : Int)) [(123 : UInt8), (125 : UInt8), (40 : UInt8), (41 : UInt8), (46 : UInt8), (44 : UInt8), (42 : UInt8), (43 : UInt8), (45 : UInt8), (47 : UInt8), (61 : UInt8), (60 : UInt8), (62 : UInt8), (33 : UInt8)]) (some (SV.val (AV.d (D.int IntKind.i64 (1 : Int))))) (some (SV.val (AV.d (D.int IntKind.i64 (0 : Int))))))))) (fun z => z = sv) := by
    intro q
    rw [q] at h
    simp only [Bool.false_eq_true, if_false] at h
    refine Leads.chk (by omega) fun _ => Leads.chk hB fun _ => Leads.br (fun z => Leads.one ?_) (fun z => Leads.one ?_)
    · have z : isIn (byteAt s 0) signs1 = true := z
      rw [h, if_pos z, List.length_take, show min 1 s.length = 1 by omega]; rfl
    · have z : isIn (byteAt s 0) signs1 = false := z
      rw [h, if_neg (by rw [z]; simp)]; rfl
  refine Leads.brD (fun l => Leads.chk (by omega) fun _ => ?_) (fun l => one ?_)
  · rw [show Int.toNat 2 = 2 from rfl]
    refine Leads.brE (fun q => Leads.one ?_) (fun q1 => Leads.brE (fun q => Leads.one ?_) (fun q2 => Leads.brE (fun q => Leads.one ?_) (fun q3 => Leads.brE (fun q => Leads.one ?_) (fun q4 => Leads.brE (fun q => Leads.one ?_) (fun q5 => one ?_)))))
    · rw [t2 (by omega) (by simp [two, q])]
    · rw [t2 (by omega) (by simp [two, q])]
    · rw [t2 (by omega) (by simp [two, q])]
    · rw [t2 (by omega) (by simp [two, q])]
    · rw [t2 (by omega) (by simp [two, q])]
    · simp [two, q1, q2, q3, q4, q5]
  · match s, l with
    | [], _ => rfl
    | [_], _ => simp [two]
    | _ :: _ :: _, l => simp at l; omega
def Er5_sign : Es := (32, Sr5_sign) :: Elx_sign
theorem okr5_sign : SatE P (En (Er5_sign)) := SatE.cons (satr5_sign) oklx_sign
/-! ### legation/lex.number -/
def Llx_number : Ls := []
def Slx_number := mkS [(false, [.str])] fun ⟨⟨(s : List UInt8), _⟩, _⟩ => .chk (s.length ≤ 1152921504606846976) (tokR (numS s))
theorem tlx_number (s : List UInt8) : evF T (En (Er5_sign)) (Ln (Llx_number)) Try.f29 [.d (.str s)] =
    chk (s.length ≤ (1152921504606846976 : Nat)) (br (decide ((↑(many digitI s) : Int) < (↑s.length : Int))) (chk ((0 : Int) ≤ (↑(many digitI s) : Int) ∧ (↑(many digitI s) : Int) < (↑s.length : Int)) (br (byteAt s (↑(many digitI s) : Int) == (46 : Int)) (chk ((0 : Int) ≤ IntKind.i64.wrap ((↑(many digitI s) : Int) + (1 : Int)) ∧ IntKind.i64.wrap ((↑(many digitI s) : Int) + (1 : Int)) ≤ (↑s.length : Int)) (chk ((List.drop (IntKind.i64.wrap ((↑(many digitI s) : Int) + (1 : Int))).toNat s).length ≤ (1152921504606846976 : Nat)) (br (decide ((↑(many digitI (List.drop (IntKind.i64.wrap ((↑(many digitI s) : Int) + (1 : Int))).toNat s)) : Int) > (0 : Int))) (chk ((0 : Int) ≤ IntKind.i64.wrap ((↑(many digitI s) : Int) + IntKind.i64.wrap ((1 : Int) + (↑(many digitI (List.drop (IntKind.i64.wrap ((↑(many digitI s) : Int) + (1 : Int))).toNat s)) : Int))) ∧ IntKind.i64.wrap ((↑(many digitI s) : Int) + IntKind.i64.wrap ((1 : Int) + (↑(many digitI (List.drop (IntKind.i64.wrap ((↑(many digitI s) : Int) + (1 : Int))).toNat s)) : Int))) ≤ (↑s.length : Int)) (some (SV.val (AV.tup [AV.agg [D.int IntKind.i64 (3 : Int), D.str (CE.dflt Sh.str), D.int IntKind.i64 (2 : Int), D.str (List.take (IntKind.i64.wrap ((↑(many digitI s) : Int) + IntKind.i64.wrap ((1 : Int) + (↑(many digitI (List.drop (IntKind.i64.wrap ((↑(many digitI s) : Int) + (1 : Int))).toNat s)) : Int)))).toNat s), D.str [(104 : UInt8), (116 : UInt8), (116 : UInt8), (112 : UInt8), (58 : UInt8), (47 : UInt8), (47 : UInt8), (119 : UInt8), (119 : UInt8), (119 : UInt8), (46 : UInt8), (119 : UInt8), (51 : UInt8), (46 : UInt8), (111 : UInt8), (114 : UInt8), (103 : UInt8), (47 : UInt8), (50 : UInt8), (48 : UInt8), (48 : UInt8), (49 : UInt8), (47 : UInt8), (88 : UInt8), (77 : UInt8), (76 : UInt8), (83 : UInt8), (99 : UInt8), (104 : UInt8), (101 : UInt8), (109 : UInt8), (97 : UInt8), (35 : UInt8), (100 : UInt8), (101 : UInt8), (99 : UInt8), (105 : UInt8), (109 : UInt8), (97 : UInt8), (108 : UInt8)], D.str (CE.dflt Sh.str), D.int IntKind.i64 (CE.dflt (Sh.int IntKind.i64))], AV.d (D.int IntKind.i64 (IntKind.i64.wrap ((↑(many digitI s) : Int) + IntKind.i64.wrap ((1 : Int) + (↑(many digitI (List.drop (IntKind.i64.wrap ((↑(many digitI s) : Int) + (1 : Int))).toNat s)) : Int)))))])))) (chk ((0 : Int) ≤ (↑(many digitI s) : Int) ∧ (↑(many digitI s) : Int) ≤ (↑s.length : Int)) (some (SV.val (AV.tup [AV.agg [D.int IntKind.i64 (4 : Int), D.str (List.take (↑(many digitI s) : Int).toNat s), D.int IntKind.i64 (CE.dflt (Sh.int IntKind.i64)), D.str (CE.dflt Sh.str), D.str (CE.dflt Sh.str), D.str (CE.dflt Sh.str), D.int IntKind.i64 (CE.dflt (Sh.int IntKind.i64))], AV.d (D.int IntKind.i64 (↑(many digitI s) : Int))]))))))) (chk ((0 : Int) ≤ (↑(many digitI s) : Int) ∧ (↑(many digitI s) : Int) ≤ (↑s.length : Int)) (some (SV.val (AV.tup [AV.agg [D.int IntKind.i64 (4 : Int), D.str (List.take (↑(many digitI s) : Int).toNat s), D.int IntKind.i64 (CE.dflt (Sh.int IntKind.i64)), D.str (CE.dflt Sh.str), D.str (CE.dflt Sh.str), D.str (CE.dflt Sh.str), D.int IntKind.i64 (CE.dflt (Sh.int IntKind.i64))], AV.d (D.int IntKind.i64 (↑(many digitI s) : Int))])))))) (chk ((0 : Int) ≤ (↑(many digitI s) : Int) ∧ (↑(many digitI s) : Int) ≤ (↑s.length : Int)) (some (SV.val (AV.tup [AV.agg [D.int IntKind.i64 (4 : Int), D.str (List.take (↑(many digitI s) : Int).toNat s), D.int IntKind.i64 (CE.dflt (Sh.int IntKind.i64)), D.str (CE.dflt Sh.str), D.str (CE.dflt Sh.str), D.str (CE.dflt Sh.str), D.int IntKind.i64 (CE.dflt (Sh.int IntKind.i64))], AV.d (D.int IntKind.i64 (↑(many digitI s) : Int))]))))) := by kernel_rfl
theorem satlx_number : Sat P 29 (Slx_number) := by
  refine sat_mk (LT := Ln (Llx_number)) hC okr5_sign mixed Try.func29 (by kernel_rfl) (c := bodyOf Try.f29) (by kernel_rfl) (by kernel_rfl) ?_ (loops0 (by kernel_rfl))
  rintro ⟨⟨(s : List UInt8), _⟩, _⟩ sv h
  refine Leads.eq (Leads.of_eq (tlx_number s) ?_)
  obtain ⟨hs, h⟩ := h
  have h := Out_leaf h
  have hm := many_le digitI s
  have hm2 := many_le digitI (s.drop (many digitI s + 1))
  rw [List.length_drop] at hm2
  rw [wrap64 (x := ((many digitI s : Nat) : Int) + 1) (by omega) (by omega), show ((many digitI s : Nat) : Int) + 1 = ((many digitI s + 1 : Nat) : Int) by omega, Int.toNat_natCast, Int.toNat_natCast]
  have no : ¬ ((s.drop (many digitI s)).head? = some 46 ∧ 0 < many digitI (s.drop (many digitI s + 1))) → sv = .val (.tup [.agg (rowD tkS (4, s.take (many digitI s), 0, [], [], [], 0, ())), .d (.int .i64 (many digitI s : Nat))]) := fun q => by rw [h, numS, if_neg q]
  have last : many digitI s < s.length ∨ ¬ many digitI s < s.length := Decidable.em _
  refine Leads.chk hs fun _ => Leads.brD (fun q => Leads.chk (by omega) fun _ => Leads.brE (fun q1 => Leads.chk (by omega) fun _ => Leads.chk (by rw [List.length_drop]; omega) fun _ => Leads.brD (fun q2 => ?_) (fun q2 => Leads.chk (by omega) fun _ => Leads.one ?_)) (fun q1 => Leads.chk (by omega) fun _ => Leads.one ?_)) (fun q => Leads.chk (by omega) fun _ => Leads.one ?_)
  · rw [wrap64 (x := (1 : Int) + _) (by omega) (by omega), wrap64 (by omega) (by omega), show ((many digitI s : Nat) : Int) + (1 + ((many digitI (s.drop (many digitI s + 1)) : Nat) : Int)) = ((many digitI s + 1 + many digitI (s.drop (many digitI s + 1)) : Nat) : Int) by omega, Int.toNat_natCast]
    refine Leads.chk (by omega) fun _ => Leads.one ?_
    rw [h, numS, if_pos ⟨by rw [head_byte (by omega)]; exact q1, by omega⟩]; rfl
  · rw [no (fun z => by omega)]; rfl
  · rw [no (fun z => q1 (by rw [← head_byte (by omega)]; exact z.1))]; rfl
  · rw [no (fun z => by rw [List.drop_of_length_le (by omega)] at z; simp at z)]; rfl
def Elx_number : Es := (29, Slx_number) :: Er5_sign
theorem oklx_number : SatE P (En (Elx_number)) := SatE.cons (satlx_number) okr5_sign
end Go.Proofs.Ytcmdlllcjpbbkaa.T5
