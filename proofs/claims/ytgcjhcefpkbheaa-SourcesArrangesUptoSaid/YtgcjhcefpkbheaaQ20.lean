/- Part of a proof of the seat's statements: no statement by itself. -/
import Derived.Test.YtgcjhcefpkbheaaLgF
import Derived.Test.YtgcjhcefpkbheaaChecked
import Derived.Laws.RangeString
import Derived.Test.YtgcjhcefpkbheaaSpA
import Derived.Test.YtgcjhcefpkbheaaSpL
section
set_option maxRecDepth 100000
namespace Go.Proofs.Ytgcjhcefpkbheaa.T20
open Go.Proofs.Ytgcjhcefpkbheaa.Lg Go Go.Proofs.Ytgcjhcefpkbheaa.Sp
open Go.Proofs
def T : Tab := [(2, { sh := [.int .i64] }),
  (3, { sh := [.int .i64] }),
  (4, { sh := [.bool] }),
  (5, { sh := [.int .u8] }),
  (6, { sh := [.int .u8] }),
  (7, { agg := true, sh := [.int .i64, .int .i64, .bool, .int .u8], flds := [(0, 1), (1, 1), (2, 1), (3, 1)], ftys := [2, 3, 4, 6], eq := true }),
  (8, { agg := true, sh := [.int .i64, .int .i64, .bool, .int .u8], flds := [(0, 1), (1, 1), (2, 1), (3, 1)], ftys := [2, 3, 4, 6], eq := true }),
  (9, { sh := [.str] }),
  (10, { sh := [.str] }),
  (11, { sh := [.str] }),
  (14, { agg := true, sh := [.str, .int .u64], flds := [(0, 1), (1, 1)], ftys := [9, 12] }),
  (22, { sh := [.sl [.sl [.int .i64]]], es := [.sl [.int .i64]], eb := 24 }),
  (24, { sh := [.sl [.int .i64]], es := [.int .i64], eb := 8 }),
  (25, { sh := [.sl [.sl [.int .i64], .sl [.int .i64]]], es := [.sl [.int .i64], .sl [.int .i64]], eb := 48 }),
  (31, { agg := true, sh := [.sl [.int .i64], .sl [.int .i64]], flds := [(0, 1), (1, 1)], ftys := [24, 24] }),
  (33, { sh := [.sl [.sl [.bool]]], es := [.sl [.bool]], eb := 24 }),
  (34, { sh := [.int .i64] }),
  (39, { agg := true, sh := [.int .i64, .str, .str, .str], flds := [(0, 1), (1, 1), (2, 1), (3, 1)], ftys := [3, 9, 9, 9], eq := true }),
  (41, { agg := true, sh := [.int .i64, .str, .str, .str, .int .i64, .str, .str, .str, .int .i64, .str, .str, .str], flds := [(0, 4), (4, 4), (8, 4)], ftys := [39, 39, 39], eq := true }),
  (42, { sh := [.sl [.str]], es := [.str], eb := 16 }),
  (43, { sh := [.sl [.int .i64, .str, .str]], es := [.int .i64, .str, .str], eb := 40 }),
  (44, { sh := [.sl [.str, .bool]], es := [.str, .bool], eb := 24 }),
  (45, { sh := [.sl [.int .i64, .sl [.int .i64, .str, .str, .str, .int .i64, .str, .str, .str, .int .i64, .str, .str, .str], .sl [.str], .sl [.sl [.int .i64, .str, .str, .str]], .sl [.int .i64, .int .i64, .str, .str, .str, .str, .int .i64], .str, .bool]], es := [.int .i64, .sl [.int .i64, .str, .str, .str, .int .i64, .str, .str, .str, .int .i64, .str, .str, .str], .sl [.str], .sl [.sl [.int .i64, .str, .str, .str]], .sl [.int .i64, .int .i64, .str, .str, .str, .str, .int .i64], .str, .bool], eb := 128 }),
  (47, { agg := true, sh := [.bool, .bool, .sl [.str], .sl [.int .i64, .str, .str], .bool, .sl [.str], .sl [.str, .bool], .int .i64, .int .i64, .sl [.int .i64, .sl [.int .i64, .str, .str, .str, .int .i64, .str, .str, .str, .int .i64, .str, .str, .str], .sl [.str], .sl [.sl [.int .i64, .str, .str, .str]], .sl [.int .i64, .int .i64, .str, .str, .str, .str, .int .i64], .str, .bool]], flds := [(0, 1), (1, 1), (2, 1), (3, 1), (4, 1), (5, 1), (6, 1), (7, 1), (8, 1), (9, 1)], ftys := [4, 4, 42, 43, 4, 42, 44, 3, 3, 45] }),
  (51, { sh := [.sl [.int .i64, .str, .str, .str, .int .i64, .str, .str, .str, .int .i64, .str, .str, .str]], es := [.int .i64, .str, .str, .str, .int .i64, .str, .str, .str, .int .i64, .str, .str, .str], eb := 168 }),
  (55, { sh := [.sl [.int .i64, .int .i64, .str, .str, .str, .str, .int .i64]], es := [.int .i64, .int .i64, .str, .str, .str, .str, .int .i64], eb := 88 }),
  (57, { agg := true, sh := [.int .i64, .sl [.int .i64, .str, .str, .str, .int .i64, .str, .str, .str, .int .i64, .str, .str, .str], .sl [.str], .sl [.sl [.int .i64, .str, .str, .str]], .sl [.int .i64, .int .i64, .str, .str, .str, .str, .int .i64], .str, .bool], flds := [(0, 1), (1, 1), (2, 2), (4, 1), (5, 1), (6, 1)], ftys := [3, 51, 54, 55, 9, 4] }),
  (66, { sh := [.mp (.int .i64) false [.sl [.int .i64]]], mp := some (3, 24) }),
  (71, { sh := [.sl [.bool]], es := [.bool], eb := 1 }),
  (74, { sh := [.mp (.int .i64) false [.bool]], mp := some (3, 4) }),
  (86, { sh := [.int .u64] }),
  (94, { sh := [.int .i64] }),
  (102, { sh := [.int .u32] }),
  (104, { sh := [.int .u64] }),
  (105, { agg := true, sh := [.int .i64, .str, .str, .str, .int .i64, .str, .str, .str, .int .i64, .str, .str, .str], arr := some (3, 4), ftys := [39], eq := true }),
  (111, { sh := [.int .u64] })]
noncomputable abbrev P := Try.prog
theorem hC : Cx P T := Cx.mk' (by kernel_rfl) (by kernel_rfl)
theorem mixed : P.follows .mixedOrders = true := Try.checked.mixed
abbrev str : Bool × List Sh := (false, [.str])
abbrev byt : Bool × List Sh := (false, [.int .u8])
abbrev int : Bool × List Sh := (false, [.int .i64])
abbrev trm : Bool × List Sh := (true, [.int .i64, .str, .str, .str])
def bl (b : Bool) : Tr SV := .leaf (.val (.d (.bool b)))
def ii (n : Int) : Tr SV := .leaf (.val (.d (.int .i64 n)))

def E00 : Es := []
theorem ok00 : SatE P (En E00) := SatE.nil
end Go.Proofs.Ytgcjhcefpkbheaa.T20
end

section
set_option maxRecDepth 100000
open Go.Proofs.Ytgcjhcefpkbheaa.Lg Go Go.Proofs.Ytgcjhcefpkbheaa.Sp
open Go.Proofs
namespace Go.Proofs.Ytgcjhcefpkbheaa.T20
attribute [local simp] letterI digitI nameI badI iriI textI lowI

/-! ### function 45 -/
def S45 := mkS [byt] fun ⟨⟨(c : Int), _⟩, _⟩ => bl (letterI c)
def L45 : Ls := []
theorem t45 (c : Int) : evF T (En (E00)) (Ln L45) Try.f83 [.d (.int .u8 c)] =
    br (decide (c ≥ (97 : Int))) (br (decide (c ≤ (122 : Int))) (some (SV.val (AV.d (D.bool true)))) (br (decide (c ≥ (65 : Int))) (some (SV.val (AV.d (D.bool (decide (c ≤ (90 : Int))))))) (some (SV.val (AV.d (D.bool false)))))) (br (decide (c ≥ (65 : Int))) (some (SV.val (AV.d (D.bool (decide (c ≤ (90 : Int))))))) (some (SV.val (AV.d (D.bool false))))) := by kernel_rfl

theorem sat45 : Sat P 83 (S45) := by
  refine sat_mk (LT := Ln L45) hC ok00 mixed Try.func83 (by kernel_rfl) (c := bodyOf Try.f83) (by kernel_rfl) (by kernel_rfl) ?_ (loops0 (by kernel_rfl))
  rintro ⟨⟨(c : Int), _⟩, _⟩ sv h
  obtain rfl := Out_leaf h
  refine (t45 c).trans ?_
  repeat' (refine br_eq (fun _ => ?_) (fun _ => ?_))
  all_goals (refine vb_eq ?_; rw [Bool.eq_iff_iff]; simp at *; omega)
def E45 : Es := (83, S45) :: E00
theorem ok45 : SatE P (En E45) := SatE.cons sat45 ok00
/-! ### function 46 -/
def S46 := mkS [byt] fun ⟨⟨(c : Int), _⟩, _⟩ => bl (digitI c)
def L46 : Ls := []
theorem t46 (c : Int) : evF T (En (E45)) (Ln L46) Try.f84 [.d (.int .u8 c)] =
    br (decide (c ≥ (48 : Int))) (some (SV.val (AV.d (D.bool (decide (c ≤ (57 : Int))))))) (some (SV.val (AV.d (D.bool false)))) := by kernel_rfl

theorem sat46 : Sat P 84 (S46) := by
  refine sat_mk (LT := Ln L46) hC ok45 mixed Try.func84 (by kernel_rfl) (c := bodyOf Try.f84) (by kernel_rfl) (by kernel_rfl) ?_ (loops0 (by kernel_rfl))
  rintro ⟨⟨(c : Int), _⟩, _⟩ sv h
  obtain rfl := Out_leaf h
  refine (t46 c).trans ?_
  repeat' (refine br_eq (fun _ => ?_) (fun _ => ?_))
  all_goals (refine vb_eq ?_; rw [Bool.eq_iff_iff]; simp at *; omega)
def E46 : Es := (84, S46) :: E45
theorem ok46 : SatE P (En E46) := SatE.cons sat46 ok45
/-! ### function 43 -/
def S43 := mkS [byt] fun ⟨⟨(c : Int), _⟩, _⟩ => bl (iriI c)
def L43 : Ls := []
theorem t43 (c : Int) : evF T (En (E46)) (Ln L43) Try.f81 [.d (.int .u8 c)] =
    br (c == (60 : Int)) (some (SV.val (AV.d (D.bool false)))) (br (c == (62 : Int)) (br (c == (62 : Int)) (some (SV.val (AV.d (D.bool false)))) (br (decide (c ≥ (33 : Int))) (some (SV.val (AV.d (D.bool (decide (c ≤ (126 : Int))))))) (some (SV.val (AV.d (D.bool false)))))) (br (c == (34 : Int)) (br (c == (34 : Int)) (some (SV.val (AV.d (D.bool false)))) (br (decide (c ≥ (33 : Int))) (some (SV.val (AV.d (D.bool (decide (c ≤ (126 : Int))))))) (some (SV.val (AV.d (D.bool false)))))) (br (c == (123 : Int)) (br (c == (123 : Int)) (some (SV.val (AV.d (D.bool false)))) (br (decide (c ≥ (33 : Int))) (some (SV.val (AV.d (D.bool (decide (c ≤ (126 : Int))))))) (some (SV.val (AV.d (D.bool false)))))) (br (c == (125 : Int)) (br (c == (125 : Int)) (some (SV.val (AV.d (D.bool false)))) (br (decide (c ≥ (33 : Int))) (some (SV.val (AV.d (D.bool (decide (c ≤ (126 : Int))))))) (some (SV.val (AV.d (D.bool false)))))) (br (c == (124 : Int)) (br (c == (124 : Int)) (some (SV.val (AV.d (D.bool false)))) (br (decide (c ≥ (33 : Int))) (some (SV.val (AV.d (D.bool (decide (c ≤ (126 : Int))))))) (some (SV.val (AV.d (D.bool false)))))) (br (c == (94 : Int)) (br (c == (94 : Int)) (some (SV.val (AV.d (D.bool false)))) (br (decide (c ≥ (33 : Int))) (some (SV.val (AV.d (D.bool (decide (c ≤ (126 : Int))))))) (some (SV.val (AV.d (D.bool false)))))) (br (c == (96 : Int)) (br (c == (96 : Int)) (some (SV.val (AV.d (D.bool false)))) (br (decide (c ≥ (33 : Int))) (some (SV.val (AV.d (D.bool (decide (c ≤ (126 : Int))))))) (some (SV.val (AV.d (D.bool false)))))) (br (c == (92 : Int)) (some (SV.val (AV.d (D.bool false)))) (br (decide (c ≥ (33 : Int))) (some (SV.val (AV.d (D.bool (decide (c ≤ (126 : Int))))))) (some (SV.val (AV.d (D.bool false))))))))))))) := by kernel_rfl

theorem sat43 : Sat P 81 (S43) := by
  refine sat_mk (LT := Ln L43) hC ok46 mixed Try.func81 (by kernel_rfl) (c := bodyOf Try.f81) (by kernel_rfl) (by kernel_rfl) ?_ (loops0 (by kernel_rfl))
  rintro ⟨⟨(c : Int), _⟩, _⟩ sv h
  obtain rfl := Out_leaf h
  refine (t43 c).trans ?_
  repeat' (refine br_eq (fun _ => ?_) (fun _ => ?_))
  all_goals (refine vb_eq ?_; rw [Bool.eq_iff_iff]; simp at *; omega)
def E43 : Es := (81, S43) :: E46
theorem ok43 : SatE P (En E43) := SatE.cons sat43 ok46
/-! ### function 26 -/
def lf26_0 : St [.v false [.str], .v false [.int .i64]] → Tr (Ex × List SV) := fun ⟨⟨(s : List UInt8), _⟩, ⟨(n : Int), _⟩, _⟩ => .chk (0 ≤ n ∧ n ≤ (s.length : Int) ∧ s.length ≤ Big) (.br (allI textI (s.drop n.toNat)) (.leaf (.exit 0, [.unk])) (.leaf (.ret, [.val (.d (.bool false))])))
def ls26_0 : LoopS := mkL [0, 3] [2] [.v false [.str], .v false [.int .i64]] lf26_0
def S26 := mkS [str] fun ⟨⟨(s : List UInt8), _⟩, _⟩ => .chk (s.length ≤ Big) (bl (isText s))
def L26 : Ls := [(4, ls26_0)]
theorem lt26_0 (s : List UInt8) (n : Int) : evRound T (En (E43)) (Ln L26) (loopAt 0 (loops (bodyOf Try.f78))) ls26_0 [.val (.d (.str s)), .val (.d (.int .i64 n))] =
    br (decide (n < (↑s.length : Int))) (chk ((0 : Int) ≤ n ∧ n < (↑s.length : Int)) (br (decide (byteAt s n < (32 : Int))) (chk ((0 : Int) ≤ n ∧ n < (↑s.length : Int)) (br (byteAt s n != (10 : Int)) (chk ((0 : Int) ≤ n ∧ n < (↑s.length : Int)) (br (byteAt s n != (9 : Int)) (some (Rnd.out Ex.ret [SV.val (AV.d (D.bool false))])) (some (Rnd.again [SV.val (AV.d (D.str s)), SV.val (AV.d (D.int IntKind.i64 (IntKind.i64.wrap (n + (1 : Int)))))])))) (some (Rnd.again [SV.val (AV.d (D.str s)), SV.val (AV.d (D.int IntKind.i64 (IntKind.i64.wrap (n + (1 : Int)))))])))) (chk ((0 : Int) ≤ n ∧ n < (↑s.length : Int)) (br (decide (byteAt s n > (126 : Int))) (chk ((0 : Int) ≤ n ∧ n < (↑s.length : Int)) (br (byteAt s n != (10 : Int)) (chk ((0 : Int) ≤ n ∧ n < (↑s.length : Int)) (br (byteAt s n != (9 : Int)) (some (Rnd.out Ex.ret [SV.val (AV.d (D.bool false))])) (some (Rnd.again [SV.val (AV.d (D.str s)), SV.val (AV.d (D.int IntKind.i64 (IntKind.i64.wrap (n + (1 : Int)))))])))) (some (Rnd.again [SV.val (AV.d (D.str s)), SV.val (AV.d (D.int IntKind.i64 (IntKind.i64.wrap (n + (1 : Int)))))])))) (some (Rnd.again [SV.val (AV.d (D.str s)), SV.val (AV.d (D.int IntKind.i64 (IntKind.i64.wrap (n + (1 : Int)))))])))))) (some (Rnd.out (Ex.exit (0 : Nat)) [SV.unk])) := by kernel_rfl
theorem lok26_0 : LoopOK T (En (E43)) (Ln L26) (loopAt 0 (loops (bodyOf Try.f78))) := by
  refine loopOK (live := [0, 3]) (outs := [2]) (ks := [.v false [.str], .v false [.int .i64]]) (f := lf26_0) (by kernel_rfl) ?_
  rintro ⟨⟨(s : List UInt8), _⟩, ⟨(n : Int), _⟩, _⟩ x h
  obtain ⟨⟨h0, h1, h2⟩, h⟩ := h
  have key := each_loop (T := T) (E := En E43) (LT := Ln L26) (c := loopAt 0 (loops (bodyOf Try.f78))) (ls := ls26_0) (s := s) (fun n => [.val (.d (.str s)), .val (.d (.int .i64 n))]) textI (fun _ => (.ret, [.val (.d (.bool false))])) (.exit 0, [.unk])
    (Lg.Ends.out ((lt26_0 s _).trans (br_eq (fun q => by simp at q) (fun _ => rfl))))
    (fun m b hm hb hd hp => Lg.Ends.out ((lt26_0 s _).trans (by
      rw [hb]
      repeat' (first | refine br_eq (fun _ => ?_) (fun _ => ?_) | refine chk_eq ?_ ?_)
      all_goals first | rfl | (exfalso; simp at *; omega) | omega)))
    (fun m b hm hb hp => (lt26_0 s _).trans (by
      rw [hb, wrap64 (by omega) (by rw [Big_eq] at h2; omega)]
      repeat' (first | refine br_eq (fun _ => ?_) (fun _ => ?_) | refine chk_eq ?_ ?_)
      all_goals first | rfl | (exfalso; simp at *; omega) | omega)) n.toNat (by omega)
  rw [Int.toNat_of_nonneg h0] at key
  rcases Out_br h with ⟨hp, h⟩ | ⟨hp, h⟩
  · rw [hp, if_pos rfl] at key; obtain rfl := Out_leaf h; exact key
  · rw [hp, if_neg (by simp)] at key; obtain rfl := Out_leaf h; exact key
theorem t26 (s : List UInt8) : evF T (En (E43)) (Ln L26) Try.f78 [.d (.str s)] =
    br (decide ((↑s.length : Int) > (4096 : Int))) (some (SV.val (AV.d (D.bool false)))) (chk ((0 : Int) ≤ (0 : Int) ∧ (0 : Int) ≤ (↑s.length : Int) ∧ s.length ≤ Big) (br (allI textI (List.drop (Int.toNat (0 : Int)) s)) (some (SV.val (AV.d (D.bool true)))) (some (SV.val (AV.d (D.bool false)))))) := by kernel_rfl

theorem sat26 : Sat P 78 (S26) := by
  refine sat_mk (LT := Ln L26) hC ok43 mixed Try.func78 (by kernel_rfl) (c := bodyOf Try.f78) (by kernel_rfl) (by kernel_rfl) ?_ (loops1 (by kernel_rfl) lok26_0)
  rintro ⟨⟨(s : List UInt8), _⟩, _⟩ sv h
  obtain ⟨hs, h⟩ := h
  obtain rfl := Out_leaf h
  refine (t26 s).trans ?_
  simp only [isText]
  repeat' (first | refine br_eq (fun _ => ?_) (fun _ => ?_) | refine chk_eq ?_ ?_)
  all_goals first | (simp_all; omega) | simp_all
def E26 : Es := (78, S26) :: E43
theorem ok26 : SatE P (En E26) := SatE.cons sat26 ok43
/-! ### function 27 -/
def lf27_0 : St [.v false [.str], .v false [.int .i64]] → Tr (Ex × List SV) := fun ⟨⟨(s : List UInt8), _⟩, ⟨(n : Int), _⟩, _⟩ => .chk (0 ≤ n ∧ n ≤ (s.length : Int) ∧ s.length ≤ Big) (.br (allI lowI (s.drop n.toNat)) (.leaf (.exit 0, [.unk])) (.leaf (.ret, [.val (.d (.bool false))])))
def ls27_0 : LoopS := mkL [0, 3] [2] [.v false [.str], .v false [.int .i64]] lf27_0
def S27 := mkS [str] fun ⟨⟨(s : List UInt8), _⟩, _⟩ => .chk (s.length ≤ Big) (bl (isLang s))
def L27 : Ls := [(4, ls27_0)]
theorem lt27_0 (s : List UInt8) (n : Int) : evRound T (En (E26)) (Ln L27) (loopAt 0 (loops (bodyOf Try.f79))) ls27_0 [.val (.d (.str s)), .val (.d (.int .i64 n))] =
    br (decide (n < (↑s.length : Int))) (chk ((0 : Int) ≤ n ∧ n < (↑s.length : Int)) (br (decide (byteAt s n < (97 : Int))) (some (Rnd.out Ex.ret [SV.val (AV.d (D.bool false))])) (chk ((0 : Int) ≤ n ∧ n < (↑s.length : Int)) (br (decide (byteAt s n > (122 : Int))) (some (Rnd.out Ex.ret [SV.val (AV.d (D.bool false))])) (some (Rnd.again [SV.val (AV.d (D.str s)), SV.val (AV.d (D.int IntKind.i64 (IntKind.i64.wrap (n + (1 : Int)))))])))))) (some (Rnd.out (Ex.exit (0 : Nat)) [SV.unk])) := by kernel_rfl
theorem lok27_0 : LoopOK T (En (E26)) (Ln L27) (loopAt 0 (loops (bodyOf Try.f79))) := by
  refine loopOK (live := [0, 3]) (outs := [2]) (ks := [.v false [.str], .v false [.int .i64]]) (f := lf27_0) (by kernel_rfl) ?_
  rintro ⟨⟨(s : List UInt8), _⟩, ⟨(n : Int), _⟩, _⟩ x h
  obtain ⟨⟨h0, h1, h2⟩, h⟩ := h
  have key := each_loop (T := T) (E := En E26) (LT := Ln L27) (c := loopAt 0 (loops (bodyOf Try.f79))) (ls := ls27_0) (s := s) (fun n => [.val (.d (.str s)), .val (.d (.int .i64 n))]) lowI (fun _ => (.ret, [.val (.d (.bool false))])) (.exit 0, [.unk])
    (Lg.Ends.out ((lt27_0 s _).trans (br_eq (fun q => by simp at q) (fun _ => rfl))))
    (fun m b hm hb hd hp => Lg.Ends.out ((lt27_0 s _).trans (by
      rw [hb]
      repeat' (first | refine br_eq (fun _ => ?_) (fun _ => ?_) | refine chk_eq ?_ ?_)
      all_goals first | rfl | (exfalso; simp at *; omega) | omega)))
    (fun m b hm hb hp => (lt27_0 s _).trans (by
      rw [hb, wrap64 (by omega) (by rw [Big_eq] at h2; omega)]
      repeat' (first | refine br_eq (fun _ => ?_) (fun _ => ?_) | refine chk_eq ?_ ?_)
      all_goals first | rfl | (exfalso; simp at *; omega) | omega)) n.toNat (by omega)
  rw [Int.toNat_of_nonneg h0] at key
  rcases Out_br h with ⟨hp, h⟩ | ⟨hp, h⟩
  · rw [hp, if_pos rfl] at key; obtain rfl := Out_leaf h; exact key
  · rw [hp, if_neg (by simp)] at key; obtain rfl := Out_leaf h; exact key
theorem t27 (s : List UInt8) : evF T (En (E26)) (Ln L27) Try.f79 [.d (.str s)] =
    br (s == []) (some (SV.val (AV.d (D.bool false)))) (br (decide ((↑s.length : Int) > (8 : Int))) (some (SV.val (AV.d (D.bool false)))) (chk ((0 : Int) ≤ (0 : Int) ∧ (0 : Int) ≤ (↑s.length : Int) ∧ s.length ≤ Big) (br (allI lowI (List.drop (Int.toNat (0 : Int)) s)) (some (SV.val (AV.d (D.bool true)))) (some (SV.val (AV.d (D.bool false))))))) := by kernel_rfl

theorem sat27 : Sat P 79 (S27) := by
  refine sat_mk (LT := Ln L27) hC ok26 mixed Try.func79 (by kernel_rfl) (c := bodyOf Try.f79) (by kernel_rfl) (by kernel_rfl) ?_ (loops1 (by kernel_rfl) lok27_0)
  rintro ⟨⟨(s : List UInt8), _⟩, _⟩ sv h
  obtain ⟨hs, h⟩ := h
  obtain rfl := Out_leaf h
  refine (t27 s).trans ?_
  simp only [isLang]
  repeat' (first | refine br_eq (fun _ => ?_) (fun _ => ?_) | refine chk_eq ?_ ?_)
  all_goals first | (simp_all; omega) | simp_all
def E27 : Es := (79, S27) :: E26
theorem ok27 : SatE P (En E27) := SatE.cons sat27 ok26
/-! ### function 25 -/
def lf25_0 : St [.v false [.str], .sit] → Tr (Ex × List SV) := fun ⟨⟨(s : List UInt8), _⟩, ((s2 : List UInt8), (n : Nat)), _⟩ => .chk (s2 = s ∧ n ≤ s.length) (.br (allI iriI (s.drop n)) (.leaf (.exit 0, [.unk])) (.leaf (.ret, [.val (.d (.bool false))])))
def ls25_0 : LoopS := mkL [0, 12] [2] [.v false [.str], .sit] lf25_0
def S25 := mkS [str] fun ⟨⟨(s : List UInt8), _⟩, _⟩ => .chk (s.length ≤ Big) (bl (isIri s))
def L25 : Ls := [(4, ls25_0)]
theorem lt25_0 (s : List UInt8) (n : Nat) : evRound T (En (E27)) (Ln L25) (loopAt 0 (loops (bodyOf Try.f76))) ls25_0 [.val (.d (.str s)), .sit s n] =
    brP (n < s.length) (chk ((0 : Int) ≤ (↑n : Int) ∧ (↑n : Int) < (↑s.length : Int)) (br (!iriI (byteAt s (↑n : Int))) (some (Rnd.out Ex.ret [SV.val (AV.d (D.bool false))])) (some (Rnd.again [SV.val (AV.d (D.str s)), SV.sit s (n + (Utf8.decode { data := s.toArray } n).snd)])))) (some (Rnd.out (Ex.exit (0 : Nat)) [SV.unk])) := by kernel_rfl
theorem lok25_0 : LoopOK T (En (E27)) (Ln L25) (loopAt 0 (loops (bodyOf Try.f76))) := by
  refine loopOK (live := [0, 12]) (outs := [2]) (ks := [.v false [.str], .sit]) (f := lf25_0) (by kernel_rfl) ?_
  rintro ⟨⟨(s : List UInt8), _⟩, ⟨(s2 : List UInt8), (n : Nat)⟩, _⟩ x h
  obtain ⟨⟨h0, h1⟩, h⟩ := h
  subst h0
  have key := each_loop (T := T) (E := En E27) (LT := Ln L25) (c := loopAt 0 (loops (bodyOf Try.f76))) (ls := ls25_0) (s := s2) (fun n => [.val (.d (.str s2)), .sit s2 n.toNat]) iriI (fun _ => (.ret, [.val (.d (.bool false))])) (.exit 0, [.unk])
    (Lg.Ends.out ((lt25_0 s2 _).trans (brP_eq (fun q => by simp at q) (fun _ => rfl))))
    (fun m b hm hb hd hp => Lg.Ends.out ((lt25_0 s2 _).trans (by
      simp only [Int.toNat_natCast]
      rw [hb]
      exact brP_eq (fun _ => chk_eq (by omega) (br_eq (fun _ => rfl) (fun q => by rw [hp] at q; cases q))) (fun q => absurd hm q))))
    (fun m b hm hb hp => (lt25_0 s2 _).trans (by
      simp only [Int.toNat_natCast]
      have hdec : (Utf8.decode { data := s2.toArray } m).2 = 1 := by
        obtain ⟨b', _, hb', hg⟩ := byteAt_drop hm
        rw [hb] at hb'
        have hsz : m < (ByteArray.mk s2.toArray).size := by show m < s2.toArray.size; simpa using hm
        rw [decode_ascii _ m hsz]
        have hg2 : (ByteArray.mk s2.toArray)[m]'hsz = s2[m] := rfl
        rw [hg2]
        have : s2[m] = b' := by have := List.getElem?_eq_some_iff.1 hg; exact this.2
        rw [this]
        have hp2 : u b ≤ 126 := by simp only [iriI, Bool.and_eq_true, decide_eq_true_eq] at hp; exact hp.2
        rw [hb'] at hp2
        omega
      rw [hb, hdec]
      refine brP_eq (fun _ => chk_eq (by omega) (br_eq (fun q => by rw [hp] at q; cases q) (fun _ => ?_))) (fun q => absurd hm q)
      rfl)) n h1
  simp only [Int.toNat_natCast] at key
  rcases Out_br h with ⟨hp, h⟩ | ⟨hp, h⟩
  · rw [hp, if_pos rfl] at key; obtain rfl := Out_leaf h; exact key
  · rw [hp, if_neg (by simp)] at key; obtain rfl := Out_leaf h; exact key
theorem t25 (s : List UInt8) : evF T (En (E27)) (Ln L25) Try.f76 [.d (.str s)] =
    br (s == []) (some (SV.val (AV.d (D.bool false)))) (br (decide ((↑s.length : Int) > (4096 : Int))) (some (SV.val (AV.d (D.bool false)))) (chk (s = s ∧ (0 : Nat) ≤ s.length) (br (allI iriI (List.drop (0 : Nat) s)) (some (SV.val (AV.d (D.bool true)))) (some (SV.val (AV.d (D.bool false))))))) := by kernel_rfl

theorem sat25 : Sat P 76 (S25) := by
  refine sat_mk (LT := Ln L25) hC ok27 mixed Try.func76 (by kernel_rfl) (c := bodyOf Try.f76) (by kernel_rfl) (by kernel_rfl) ?_ (loops1 (by kernel_rfl) lok25_0)
  rintro ⟨⟨(s : List UInt8), _⟩, _⟩ sv h
  obtain ⟨hs, h⟩ := h
  obtain rfl := Out_leaf h
  refine (t25 s).trans ?_
  simp only [isIri]
  repeat' (first | refine br_eq (fun _ => ?_) (fun _ => ?_) | refine chk_eq ?_ ?_)
  all_goals first | (simp_all; omega) | simp_all
def E25 : Es := (76, S25) :: E27
theorem ok25 : SatE P (En E25) := SatE.cons sat25 ok27
/-! ### function 31 -/
def lf31_0 : St [.v false [.str], .v false [.int .i64]] → Tr (Ex × List SV) := fun ⟨⟨(s : List UInt8), _⟩, ⟨(n : Int), _⟩, _⟩ => .chk (0 ≤ n ∧ n ≤ (s.length : Int) ∧ n ≤ 32 ∧ s.length ≤ Big) (.leaf (.exit 0, [.val (.d (.int .i64 (n + nameRun (32 - n.toNat) (s.drop n.toNat))))]))
def ls31_0 : LoopS := mkL [0, 3] [3] [.v false [.str], .v false [.int .i64]] lf31_0
def S31 := mkS [str] fun ⟨⟨(s : List UInt8), _⟩, _⟩ => .chk (s.length ≤ Big) (ii (named s))
def L31 : Ls := [(4, ls31_0)]
theorem lt31_0 (s : List UInt8) (n : Int) : evRound T (En (E25)) (Ln L31) (loopAt 0 (loops (bodyOf Try.f82))) ls31_0 [.val (.d (.str s)), .val (.d (.int .i64 n))] =
    br (decide (n < (↑s.length : Int))) (br (decide (n < (32 : Int))) (chk ((0 : Int) ≤ n ∧ n < (↑s.length : Int)) (br (letterI (byteAt s n)) (some (Rnd.again [SV.val (AV.d (D.str s)), SV.val (AV.d (D.int IntKind.i64 (IntKind.i64.wrap (n + (1 : Int)))))])) (chk ((0 : Int) ≤ n ∧ n < (↑s.length : Int)) (br (digitI (byteAt s n)) (some (Rnd.again [SV.val (AV.d (D.str s)), SV.val (AV.d (D.int IntKind.i64 (IntKind.i64.wrap (n + (1 : Int)))))])) (chk ((0 : Int) ≤ n ∧ n < (↑s.length : Int)) (br (byteAt s n == (95 : Int)) (some (Rnd.again [SV.val (AV.d (D.str s)), SV.val (AV.d (D.int IntKind.i64 (IntKind.i64.wrap (n + (1 : Int)))))])) (some (Rnd.out (Ex.exit (0 : Nat)) [SV.val (AV.d (D.int IntKind.i64 n))])))))))) (some (Rnd.out (Ex.exit (0 : Nat)) [SV.val (AV.d (D.int IntKind.i64 n))]))) (some (Rnd.out (Ex.exit (0 : Nat)) [SV.val (AV.d (D.int IntKind.i64 n))])) := by kernel_rfl
theorem lok31_0 : LoopOK T (En (E25)) (Ln L31) (loopAt 0 (loops (bodyOf Try.f82))) := by
  refine loopOK (live := [0, 3]) (outs := [3]) (ks := [.v false [.str], .v false [.int .i64]]) (f := lf31_0) (by kernel_rfl) ?_
  rintro ⟨⟨(s : List UInt8), _⟩, ⟨(n : Int), _⟩, _⟩ x h
  obtain ⟨⟨h0, h1, h2, h3⟩, h⟩ := h
  obtain rfl := Out_leaf h
  have key : ∀ (k m : Nat), m + k = 32 → m ≤ s.length → Lg.Ends T (En E25) (Ln L31) (loopAt 0 (loops (bodyOf Try.f82))) ls31_0 [.val (.d (.str s)), .val (.d (.int .i64 (m : Int)))] (.exit 0, [.val (.d (.int .i64 ((m : Int) + nameRun k (s.drop m))))]) := by
    intro k
    induction k with
    | zero =>
      intro m hm hl
      refine Lg.Ends.out ((lt31_0 s _).trans ?_)
      simp only [nameRun]
      refine br_eq (fun _ => br_eq (fun q => by simp at q; omega) (fun _ => by simp)) (fun _ => by simp)
    | succ k ih =>
      intro m hm hl
      by_cases hlt : m < s.length
      · obtain ⟨b, hd, hb, _⟩ := byteAt_drop hlt
        rw [hd]
        simp only [nameRun]
        by_cases hp : nameI (u b) = true
        · rw [if_pos hp]
          refine Lg.Ends.again ((lt31_0 s _).trans ?_ : _ = some (.again [.val (.d (.str s)), .val (.d (.int .i64 ((m + 1 : Nat) : Int)))])) ?_
          · rw [hb, wrap64 (by omega) (by rw [Big_eq] at h3; omega)]
            change nameI (b.toNat : Int) = true at hp
            repeat' (first | refine br_eq (fun _ => ?_) (fun _ => ?_) | refine chk_eq ?_ ?_)
            all_goals first | rfl | omega | (exfalso; simp at *; omega)
          · have := ih (m + 1) (by omega) (by omega)
            rw [show ((m : Int) + ((nameRun k (s.drop (m + 1)) + 1 : Nat) : Int)) = ((m + 1 : Nat) : Int) + (nameRun k (s.drop (m + 1)) : Int) by omega]
            exact this
        · rw [if_neg hp]
          refine Lg.Ends.out ((lt31_0 s _).trans ?_)
          rw [hb]
          change ¬ nameI (b.toNat : Int) = true at hp
          simp only [Int.natCast_zero, Int.add_zero, Int.ofNat_zero]
          repeat' (first | refine br_eq (fun _ => ?_) (fun _ => ?_) | refine chk_eq ?_ ?_)
          all_goals first | rfl | omega | (exfalso; simp at *; omega)
      · refine Lg.Ends.out ((lt31_0 s _).trans ?_)
        rw [List.drop_of_length_le (by omega)]
        simp only [nameRun]
        exact br_eq (fun q => by simp at q; omega) (fun _ => by simp)
  have := key (32 - n.toNat) n.toNat (by omega) (by omega)
  rw [Int.toNat_of_nonneg h0] at this
  exact this
theorem t31 (s : List UInt8) : evF T (En (E25)) (Ln L31) Try.f82 [.d (.str s)] =
    br (s == []) (some (SV.val (AV.d (D.int IntKind.i64 (0 : Int))))) (chk ((0 : Int) ≤ (0 : Int) ∧ (0 : Int) < (↑s.length : Int)) (br (!letterI (byteAt s (0 : Int))) (some (SV.val (AV.d (D.int IntKind.i64 (0 : Int))))) (chk ((0 : Int) ≤ (1 : Int) ∧ (1 : Int) ≤ (↑s.length : Int) ∧ (1 : Int) ≤ (32 : Int) ∧ s.length ≤ Big) (some (SV.val (AV.d (D.int IntKind.i64 ((1 : Int) + (↑(nameRun ((32 : Nat) - Int.toNat (1 : Int)) (List.drop (Int.toNat (1 : Int)) s)) : Int))))))))) := by kernel_rfl

theorem sat31 : Sat P 82 (S31) := by
  refine sat_mk (LT := Ln L31) hC ok25 mixed Try.func82 (by kernel_rfl) (c := bodyOf Try.f82) (by kernel_rfl) (by kernel_rfl) ?_ (loops1 (by kernel_rfl) lok31_0)
  rintro ⟨⟨(s : List UInt8), _⟩, _⟩ sv h
  obtain ⟨hs, h⟩ := h
  obtain rfl := Out_leaf h
  refine (t31 s).trans ?_
  refine br_eq (fun q => ?_) (fun q => ?_)
  · simp at q; subst q; rfl
  · cases s with
    | nil => simp at q
    | cons b r =>
      have hb : byteAt (b :: r) 0 = u b := rfl
      rw [hb]
      refine chk_eq (by simp) (br_eq (fun h => ?_) (fun h => ?_))
      · have h2 : letterI (u b) = false := by
          cases e : letterI (u b) with
          | false => rfl
          | true => rw [e] at h; cases h
        simp only [named]
        rw [h2]; rfl
      · have h2 : letterI (u b) = true := by
          cases e : letterI (u b) with
          | false => rw [e] at h; cases h
          | true => rfl
        refine chk_eq ⟨by omega, by simp; omega, by omega, hs⟩ ?_
        simp only [named]
        rw [h2]
        refine vi_eq ?_
        show (1 : Int) + (nameRun 31 r : Nat) = ((nameRun 31 r + 1 : Nat) : Int)
        omega
def E31 : Es := (82, S31) :: E25
theorem ok31 : SatE P (En E31) := SatE.cons sat31 ok25
/-! ### function 13 -/
def S13 := mkS [str] fun ⟨⟨(s : List UInt8), _⟩, _⟩ => .chk (s.length ≤ Big) (bl (isName s))
def L13 : Ls := []
theorem t13 (s : List UInt8) : evF T (En (E31)) (Ln L13) Try.f77 [.d (.str s)] =
    br (!s == []) (chk (s.length ≤ Big) (some (SV.val (AV.d (D.bool ((↑(named s) : Int) == (↑s.length : Int))))))) (some (SV.val (AV.d (D.bool false)))) := by kernel_rfl

theorem sat13 : Sat P 77 (S13) := by
  refine sat_mk (LT := Ln L13) hC ok31 mixed Try.func77 (by kernel_rfl) (c := bodyOf Try.f77) (by kernel_rfl) (by kernel_rfl) ?_ (loops0 (by kernel_rfl))
  rintro ⟨⟨(s : List UInt8), _⟩, _⟩ sv h
  obtain ⟨hs, h⟩ := h
  obtain rfl := Out_leaf h
  refine (t13 s).trans ?_
  simp only [isName]
  refine br_eq (fun q => ?_) (fun q => ?_)
  · refine chk_eq hs (vb_eq ?_)
    cases s <;> simp_all
    rw [Bool.eq_iff_iff]; simp; omega
  · simp at q; subst q; rfl
def E13 : Es := (77, S13) :: E31
theorem ok13 : SatE P (En E13) := SatE.cons sat13 ok31
/-! ### function 11 -/
def S11 := mkS [trm] fun ⟨⟨(k : Int), (a : List UInt8), (t : List UInt8), (l : List UInt8), _⟩, _⟩ => .chk (a.length ≤ Big ∧ t.length ≤ Big ∧ l.length ≤ Big) (ii (if right k a t l then 0 else 2))
def L11 : Ls := []
theorem t11 (k : Int) (a t l : List UInt8) : evF T (En (E13)) (Ln L11) Try.f67 [.agg [.int .i64 k, .str a, .str t, .str l]] =
    br (t == []) (br (k == (0 : Int)) (br (l == []) (br (!a == []) (some (SV.val (AV.d (D.int IntKind.i64 (2 : Int))))) (some (SV.val (AV.d (D.int IntKind.i64 (0 : Int)))))) (some (SV.val (AV.d (D.int IntKind.i64 (2 : Int)))))) (br (k == (1 : Int)) (br (l == []) (chk (a.length ≤ Big) (br (!isIri a) (some (SV.val (AV.d (D.int IntKind.i64 (2 : Int))))) (some (SV.val (AV.d (D.int IntKind.i64 (0 : Int))))))) (some (SV.val (AV.d (D.int IntKind.i64 (2 : Int)))))) (br (k == (3 : Int)) (br (k == (3 : Int)) (br (l == []) (chk (a.length ≤ Big) (br (!isName a) (some (SV.val (AV.d (D.int IntKind.i64 (2 : Int))))) (some (SV.val (AV.d (D.int IntKind.i64 (0 : Int))))))) (some (SV.val (AV.d (D.int IntKind.i64 (2 : Int)))))) (br (k == (2 : Int)) (chk (a.length ≤ Big) (br (isText a) (br (t == []) (br (l == []) (some (SV.val (AV.d (D.int IntKind.i64 (0 : Int))))) (chk (l.length ≤ Big) (br (!isLang l) (some (SV.val (AV.d (D.int IntKind.i64 (2 : Int))))) (some (SV.val (AV.d (D.int IntKind.i64 (0 : Int)))))))) (chk (t.length ≤ Big) (br (isIri t) (br (l == []) (br (l == []) (some (SV.val (AV.d (D.int IntKind.i64 (0 : Int))))) (chk (l.length ≤ Big) (br (!isLang l) (some (SV.val (AV.d (D.int IntKind.i64 (2 : Int))))) (some (SV.val (AV.d (D.int IntKind.i64 (0 : Int)))))))) (some (SV.val (AV.d (D.int IntKind.i64 (2 : Int)))))) (some (SV.val (AV.d (D.int IntKind.i64 (2 : Int)))))))) (some (SV.val (AV.d (D.int IntKind.i64 (2 : Int))))))) (some (SV.val (AV.d (D.int IntKind.i64 (2 : Int))))))) (br (k == (4 : Int)) (br (l == []) (chk (a.length ≤ Big) (br (!isName a) (some (SV.val (AV.d (D.int IntKind.i64 (2 : Int))))) (some (SV.val (AV.d (D.int IntKind.i64 (0 : Int))))))) (some (SV.val (AV.d (D.int IntKind.i64 (2 : Int)))))) (br (k == (2 : Int)) (chk (a.length ≤ Big) (br (isText a) (br (t == []) (br (l == []) (some (SV.val (AV.d (D.int IntKind.i64 (0 : Int))))) (chk (l.length ≤ Big) (br (!isLang l) (some (SV.val (AV.d (D.int IntKind.i64 (2 : Int))))) (some (SV.val (AV.d (D.int IntKind.i64 (0 : Int)))))))) (chk (t.length ≤ Big) (br (isIri t) (br (l == []) (br (l == []) (some (SV.val (AV.d (D.int IntKind.i64 (0 : Int))))) (chk (l.length ≤ Big) (br (!isLang l) (some (SV.val (AV.d (D.int IntKind.i64 (2 : Int))))) (some (SV.val (AV.d (D.int IntKind.i64 (0 : Int)))))))) (some (SV.val (AV.d (D.int IntKind.i64 (2 : Int)))))) (some (SV.val (AV.d (D.int IntKind.i64 (2 : Int)))))))) (some (SV.val (AV.d (D.int IntKind.i64 (2 : Int))))))) (some (SV.val (AV.d (D.int IntKind.i64 (2 : Int))))))))))
  (br (k == (0 : Int)) (some (SV.val (AV.d (D.int IntKind.i64 (2 : Int))))) (br (k == (1 : Int)) (some (SV.val (AV.d (D.int IntKind.i64 (2 : Int))))) (br (k == (3 : Int)) (br (k == (3 : Int)) (some (SV.val (AV.d (D.int IntKind.i64 (2 : Int))))) (br (k == (2 : Int)) (chk (a.length ≤ Big) (br (isText a) (br (t == []) (br (l == []) (some (SV.val (AV.d (D.int IntKind.i64 (0 : Int))))) (chk (l.length ≤ Big) (br (!isLang l) (some (SV.val (AV.d (D.int IntKind.i64 (2 : Int))))) (some (SV.val (AV.d (D.int IntKind.i64 (0 : Int)))))))) (chk (t.length ≤ Big) (br (isIri t) (br (l == []) (br (l == []) (some (SV.val (AV.d (D.int IntKind.i64 (0 : Int))))) (chk (l.length ≤ Big) (br (!isLang l) (some (SV.val (AV.d (D.int IntKind.i64 (2 : Int))))) (some (SV.val (AV.d (D.int IntKind.i64 (0 : Int)))))))) (some (SV.val (AV.d (D.int IntKind.i64 (2 : Int)))))) (some (SV.val (AV.d (D.int IntKind.i64 (2 : Int)))))))) (some (SV.val (AV.d (D.int IntKind.i64 (2 : Int))))))) (some (SV.val (AV.d (D.int IntKind.i64 (2 : Int))))))) (br (k == (4 : Int)) (some (SV.val (AV.d (D.int IntKind.i64 (2 : Int))))) (br (k == (2 : Int)) (chk (a.length ≤ Big) (br (isText a) (br (t == []) (br (l == []) (some (SV.val (AV.d (D.int IntKind.i64 (0 : Int))))) (chk (l.length ≤ Big) (br (!isLang l) (some (SV.val (AV.d (D.int IntKind.i64 (2 : Int))))) (some (SV.val (AV.d (D.int IntKind.i64 (0 : Int)))))))) (chk (t.length ≤ Big) (br (isIri t) (br (l == []) (br (l == []) (some (SV.val (AV.d (D.int IntKind.i64 (0 : Int))))) (chk (l.length ≤ Big) (br (!isLang l) (some (SV.val (AV.d (D.int IntKind.i64 (2 : Int))))) (some (SV.val (AV.d (D.int IntKind.i64 (0 : Int)))))))) (some (SV.val (AV.d (D.int IntKind.i64 (2 : Int)))))) (some (SV.val (AV.d (D.int IntKind.i64 (2 : Int)))))))) (some (SV.val (AV.d (D.int IntKind.i64 (2 : Int))))))) (some (SV.val (AV.d (D.int IntKind.i64 (2 : Int)))))))))) := by kernel_rfl

theorem sat11 : Sat P 67 (S11) := by
  refine sat_mk (LT := Ln L11) hC ok13 mixed Try.func67 (by kernel_rfl) (c := bodyOf Try.f67) (by kernel_rfl) (by kernel_rfl) ?_ (loops0 (by kernel_rfl))
  rintro ⟨⟨(k : Int), (a : List UInt8), (t : List UInt8), (l : List UInt8), _⟩, _⟩ sv h
  obtain ⟨⟨ha, ht, hl⟩, h⟩ := h
  obtain rfl := Out_leaf h
  refine (t11 k a t l).trans ?_
  simp only [right]
  repeat' (first | refine br_eq (fun _ => ?_) (fun _ => ?_) | refine chk_eq ?_ ?_)
  all_goals first | assumption | (refine vi_eq ?_; simp_all; done) | (exfalso; simp_all; done)
def E11 : Es := (67, S11) :: E13
theorem ok11 : SatE P (En E11) := SatE.cons sat11 ok13
/-! ### function 32 -/
def S32 := mkS [byt, byt, byt] fun ⟨⟨(a : Int), _⟩, ⟨(b : Int), _⟩, ⟨(c : Int), _⟩, _⟩ => bl (betw a b c)
def L32 : Ls := []
theorem t32 (a b c : Int) : evF T (En (E11)) (Ln L32) Try.f68 [.d (.int .u8 a), .d (.int .u8 b), .d (.int .u8 c)] =
    br (decide (a ≥ b)) (some (SV.val (AV.d (D.bool (decide (a ≤ c)))))) (some (SV.val (AV.d (D.bool false)))) := by kernel_rfl

theorem sat32 : Sat P 68 (S32) := by
  refine sat_mk (LT := Ln L32) hC ok11 mixed Try.func68 (by kernel_rfl) (c := bodyOf Try.f68) (by kernel_rfl) (by kernel_rfl) ?_ (loops0 (by kernel_rfl))
  rintro ⟨⟨(a : Int), _⟩, ⟨(b : Int), _⟩, ⟨(c : Int), _⟩, _⟩ sv h
  obtain rfl := Out_leaf h
  refine (t32 a b c).trans ?_
  simp only [betw]
  refine br_eq (fun q => ?_) (fun q => ?_) <;> (refine vb_eq ?_; first | (simp_all; done) | (simp_all; intros; omega))
def E32 : Es := (68, S32) :: E11
theorem ok32 : SatE P (En E32) := SatE.cons sat32 ok11
/-! ### function 44 -/
def lf44_0 : St [.v false [.int .u8], .v false [.str], .v false [.int .i64]] → Tr (Ex × List SV) := fun ⟨⟨(c : Int), _⟩, ⟨(s : List UInt8), _⟩, ⟨(n : Int), _⟩, _⟩ => .chk (0 ≤ n ∧ n ≤ (s.length : Int) ∧ s.length ≤ Big) (.br (allI (fun x => decide (x ≠ c)) (s.drop n.toNat)) (.leaf (.exit 0, [.unk])) (.leaf (.ret, [.val (.d (.bool true))])))
def ls44_0 : LoopS := mkL [0, 1, 5] [4] [.v false [.int .u8], .v false [.str], .v false [.int .i64]] lf44_0
def S44 := mkS [byt, str] fun ⟨⟨(c : Int), _⟩, ⟨(s : List UInt8), _⟩, _⟩ => .chk (s.length ≤ Big) (bl (isIn c s))
def L44 : Ls := [(2, ls44_0)]
theorem lt44_0 (c : Int) (s : List UInt8) (n : Int) : evRound T (En (E32)) (Ln L44) (loopAt 0 (loops (bodyOf Try.f69))) ls44_0 [.val (.d (.int .u8 c)), .val (.d (.str s)), .val (.d (.int .i64 n))] =
    br (decide (n < (↑s.length : Int))) (chk ((0 : Int) ≤ n ∧ n < (↑s.length : Int)) (br (byteAt s n == c) (some (Rnd.out Ex.ret [SV.val (AV.d (D.bool true))])) (some (Rnd.again [SV.val (AV.d (D.int IntKind.u8 c)), SV.val (AV.d (D.str s)), SV.val (AV.d (D.int IntKind.i64 (IntKind.i64.wrap (n + (1 : Int)))))])))) (some (Rnd.out (Ex.exit (0 : Nat)) [SV.unk])) := by kernel_rfl
theorem lok44_0 : LoopOK T (En (E32)) (Ln L44) (loopAt 0 (loops (bodyOf Try.f69))) := by
  refine loopOK (live := [0, 1, 5]) (outs := [4]) (ks := [.v false [.int .u8], .v false [.str], .v false [.int .i64]]) (f := lf44_0) (by kernel_rfl) ?_
  rintro ⟨⟨(c : Int), _⟩, ⟨(s : List UInt8), _⟩, ⟨(n : Int), _⟩, _⟩ x h
  obtain ⟨⟨h0, h1, h2⟩, h⟩ := h
  have key := each_loop (T := T) (E := En E32) (LT := Ln L44) (c := loopAt 0 (loops (bodyOf Try.f69))) (ls := ls44_0) (s := s) (fun n => [.val (.d (.int .u8 c)), .val (.d (.str s)), .val (.d (.int .i64 n))]) (fun x => decide (x ≠ c)) (fun _ => (.ret, [.val (.d (.bool true))])) (.exit 0, [.unk])
    (Lg.Ends.out ((lt44_0 c s _).trans (br_eq (fun q => by simp at q) (fun _ => rfl))))
    (fun m b hm hb hd hp => Lg.Ends.out ((lt44_0 c s _).trans (by
      rw [hb]
      refine br_eq (fun _ => chk_eq (by omega) (br_eq (fun _ => rfl) (fun q => by simp at q hp; exact absurd hp q))) (fun q => by simp at q; omega))))
    (fun m b hm hb hp => (lt44_0 c s _).trans (by
      rw [hb, wrap64 (by omega) (by rw [Big_eq] at h2; omega)]
      refine br_eq (fun _ => chk_eq (by omega) (br_eq (fun q => by simp at q hp; exact absurd q hp) (fun _ => rfl))) (fun q => by simp at q; omega))) n.toNat (by omega)
  rw [Int.toNat_of_nonneg h0] at key
  rcases Out_br h with ⟨hp, h⟩ | ⟨hp, h⟩
  · rw [hp, if_pos rfl] at key; obtain rfl := Out_leaf h; exact key
  · rw [hp, if_neg (by simp)] at key; obtain rfl := Out_leaf h; exact key
theorem t44 (c : Int) (s : List UInt8) : evF T (En (E32)) (Ln L44) Try.f69 [.d (.int .u8 c), .d (.str s)] =
    chk ((0 : Int) ≤ (0 : Int) ∧ (0 : Int) ≤ (↑s.length : Int) ∧ s.length ≤ Big) (br (allI (fun x => decide (x ≠ c)) (List.drop (Int.toNat (0 : Int)) s)) (some (SV.val (AV.d (D.bool false)))) (some (SV.val (AV.d (D.bool true))))) := by kernel_rfl

theorem sat44 : Sat P 69 (S44) := by
  refine sat_mk (LT := Ln L44) hC ok32 mixed Try.func69 (by kernel_rfl) (c := bodyOf Try.f69) (by kernel_rfl) (by kernel_rfl) ?_ (loops1 (by kernel_rfl) lok44_0)
  rintro ⟨⟨(c : Int), _⟩, ⟨(s : List UInt8), _⟩, _⟩ sv h
  obtain ⟨hs, h⟩ := h
  obtain rfl := Out_leaf h
  refine (t44 c s).trans ?_
  have e : isIn c s = !(allI (fun x => decide (x ≠ c)) s) := by
    simp only [isIn, allI, List.any_eq_not_all_not]
    congr 2; funext b
    simp [eq_comm]
  rw [e]
  refine chk_eq (by omega) (br_eq (fun q => ?_) (fun q => ?_)) <;> (refine vb_eq ?_; simp at q ⊢; simp_all)
def E44 : Es := (69, S44) :: E32
theorem ok44 : SatE P (En E44) := SatE.cons sat44 ok32
/-! ### function 28 -/
def lf28_0 : St [.v false [.str], .v false [.int .i64], .v false [.int .i64]] → Tr (Ex × List SV) := fun ⟨⟨(s : List UInt8), _⟩, ⟨(k : Int), _⟩, ⟨(n : Int), _⟩, _⟩ => .chk (0 ≤ n ∧ n ≤ (s.length : Int) ∧ s.length ≤ Big) (.br (allI (kindI k) (s.drop n.toNat)) (.leaf (.exit 0, [.unk])) (.leaf (.ret, [.val (.d (.bool false))])))
def ls28_0 : LoopS := mkL [0, 1, 5] [4] [.v false [.str], .v false [.int .i64], .v false [.int .i64]] lf28_0
def S28 := mkS [str, int] fun ⟨⟨(s : List UInt8), _⟩, ⟨(k : Int), _⟩, _⟩ => .chk (s.length ≤ Big) (bl (allI (kindI k) s))
def L28 : Ls := [(2, ls28_0)]
theorem lt28_0 (s : List UInt8) (k n : Int) : evRound T (En (E44)) (Ln L28) (loopAt 0 (loops (bodyOf Try.f45))) ls28_0 [.val (.d (.str s)), .val (.d (.int .i64 k)), .val (.d (.int .i64 n))] =
    br (decide (n < (↑s.length : Int))) (chk ((0 : Int) ≤ n ∧ n < (↑s.length : Int)) (br (k == (1 : Int)) (br (betw (byteAt s n) (33 : Int) (126 : Int)) (chk ([(60 : UInt8), (62 : UInt8), (34 : UInt8), (123 : UInt8), (125 : UInt8), (124 : UInt8), (94 : UInt8), (96 : UInt8), (92 : UInt8)].length ≤ Big) (br (!!isIn (byteAt s n) [(60 : UInt8), (62 : UInt8), (34 : UInt8), (123 : UInt8), (125 : UInt8), (124 : UInt8), (94 : UInt8), (96 : UInt8), (92 : UInt8)]) (some (Rnd.out Ex.ret [SV.val (AV.d (D.bool false))])) (some (Rnd.again [SV.val (AV.d (D.str s)), SV.val (AV.d (D.int IntKind.i64 k)), SV.val (AV.d (D.int IntKind.i64 (IntKind.i64.wrap (n + (1 : Int)))))])))) (some (Rnd.out Ex.ret [SV.val (AV.d (D.bool false))]))) (br (k == (2 : Int)) (br (betw (byteAt s n) (32 : Int) (126 : Int)) (some (Rnd.again [SV.val (AV.d (D.str s)), SV.val (AV.d (D.int IntKind.i64 k)), SV.val (AV.d (D.int IntKind.i64 (IntKind.i64.wrap (n + (1 : Int)))))])) (br (byteAt s n == (10 : Int)) (some (Rnd.again [SV.val (AV.d (D.str s)), SV.val (AV.d (D.int IntKind.i64 k)), SV.val (AV.d (D.int IntKind.i64 (IntKind.i64.wrap (n + (1 : Int)))))])) (br (!byteAt s n == (9 : Int)) (some (Rnd.out Ex.ret [SV.val (AV.d (D.bool false))])) (some (Rnd.again [SV.val (AV.d (D.str s)), SV.val (AV.d (D.int IntKind.i64 k)), SV.val (AV.d (D.int IntKind.i64 (IntKind.i64.wrap (n + (1 : Int)))))]))))) (br (k == (3 : Int)) (br (betw (byteAt s n) (97 : Int) (122 : Int)) (some (Rnd.again [SV.val (AV.d (D.str s)), SV.val (AV.d (D.int IntKind.i64 k)), SV.val (AV.d (D.int IntKind.i64 (IntKind.i64.wrap (n + (1 : Int)))))])) (br (betw (byteAt s n) (65 : Int) (90 : Int)) (some (Rnd.again [SV.val (AV.d (D.str s)), SV.val (AV.d (D.int IntKind.i64 k)), SV.val (AV.d (D.int IntKind.i64 (IntKind.i64.wrap (n + (1 : Int)))))])) (br (betw (byteAt s n) (48 : Int) (57 : Int)) (some (Rnd.again [SV.val (AV.d (D.str s)), SV.val (AV.d (D.int IntKind.i64 k)), SV.val (AV.d (D.int IntKind.i64 (IntKind.i64.wrap (n + (1 : Int)))))])) (br (!byteAt s n == (95 : Int)) (some (Rnd.out Ex.ret [SV.val (AV.d (D.bool false))])) (some (Rnd.again [SV.val (AV.d (D.str s)), SV.val (AV.d (D.int IntKind.i64 k)), SV.val (AV.d (D.int IntKind.i64 (IntKind.i64.wrap (n + (1 : Int)))))])))))) (br (k == (4 : Int)) (br (!betw (byteAt s n) (97 : Int) (122 : Int)) (some (Rnd.out Ex.ret [SV.val (AV.d (D.bool false))])) (some (Rnd.again [SV.val (AV.d (D.str s)), SV.val (AV.d (D.int IntKind.i64 k)), SV.val (AV.d (D.int IntKind.i64 (IntKind.i64.wrap (n + (1 : Int)))))]))) (some (Rnd.out Ex.ret [SV.val (AV.d (D.bool false))]))))))) (some (Rnd.out (Ex.exit (0 : Nat)) [SV.unk])) := by kernel_rfl
theorem lok28_0 : LoopOK T (En (E44)) (Ln L28) (loopAt 0 (loops (bodyOf Try.f45))) := by
  refine loopOK (live := [0, 1, 5]) (outs := [4]) (ks := [.v false [.str], .v false [.int .i64], .v false [.int .i64]]) (f := lf28_0) (by kernel_rfl) ?_
  rintro ⟨⟨(s : List UInt8), _⟩, ⟨(k : Int), _⟩, ⟨(n : Int), _⟩, _⟩ x h
  obtain ⟨⟨h0, h1, h2⟩, h⟩ := h
  have key := each_loop (T := T) (E := En E44) (LT := Ln L28) (c := loopAt 0 (loops (bodyOf Try.f45))) (ls := ls28_0) (s := s) (fun n => [.val (.d (.str s)), .val (.d (.int .i64 k)), .val (.d (.int .i64 n))]) (kindI k) (fun _ => (.ret, [.val (.d (.bool false))])) (.exit 0, [.unk])
    (Lg.Ends.out ((lt28_0 s k _).trans (br_eq (fun q => by simp at q) (fun _ => rfl))))
    (fun m b hm hb hd hp => Lg.Ends.out ((lt28_0 s k _).trans (by
      rw [hb]
      simp only [isIn_bad]
      unfold kindI at hp
      repeat' (first | refine br_eq (fun _ => ?_) (fun _ => ?_) | refine chk_eq ?_ ?_)
      all_goals first | rfl | omega | (simp only [Big]; decide) | (exfalso; clear h; simp_all [betw]; done) | (exfalso; clear h; (repeat' split at hp) <;> simp [betw] at * <;> omega))))
    (fun m b hm hb hp => (lt28_0 s k _).trans (by
      rw [hb, wrap64 (by omega) (by rw [Big_eq] at h2; omega)]
      simp only [isIn_bad]
      unfold kindI at hp
      repeat' (first | refine br_eq (fun _ => ?_) (fun _ => ?_) | refine chk_eq ?_ ?_)
      all_goals first | rfl | omega | (simp only [Big]; decide) | (exfalso; clear h; simp_all [betw]; done) | (exfalso; clear h; (repeat' split at hp) <;> simp [betw] at * <;> omega))) n.toNat (by omega)
  rw [Int.toNat_of_nonneg h0] at key
  rcases Out_br h with ⟨hp, h⟩ | ⟨hp, h⟩
  · rw [hp, if_pos rfl] at key; obtain rfl := Out_leaf h; exact key
  · rw [hp, if_neg (by simp)] at key; obtain rfl := Out_leaf h; exact key
theorem t28 (s : List UInt8) (k : Int) : evF T (En (E44)) (Ln L28) Try.f45 [.d (.str s), .d (.int .i64 k)] =
    chk ((0 : Int) ≤ (0 : Int) ∧ (0 : Int) ≤ (↑s.length : Int) ∧ s.length ≤ Big) (br (allI (kindI k) (List.drop (Int.toNat (0 : Int)) s)) (some (SV.val (AV.d (D.bool true)))) (some (SV.val (AV.d (D.bool false))))) := by kernel_rfl

theorem sat28 : Sat P 45 (S28) := by
  refine sat_mk (LT := Ln L28) hC ok44 mixed Try.func45 (by kernel_rfl) (c := bodyOf Try.f45) (by kernel_rfl) (by kernel_rfl) ?_ (loops1 (by kernel_rfl) lok28_0)
  rintro ⟨⟨(s : List UInt8), _⟩, ⟨(k : Int), _⟩, _⟩ sv h
  obtain ⟨hs, h⟩ := h
  obtain rfl := Out_leaf h
  refine (t28 s k).trans ?_
  refine chk_eq (by omega) (br_eq (fun q => ?_) (fun q => ?_)) <;> (refine vb_eq ?_; simp at q ⊢; simp_all)
def E28 : Es := (45, S28) :: E44
theorem ok28 : SatE P (En E28) := SatE.cons sat28 ok44
/-! ### function 14 -/
def S14 := mkS [str] fun ⟨⟨(s : List UInt8), _⟩, _⟩ => .chk (s.length ≤ Big) (bl (isName s))
def L14 : Ls := []
theorem t14 (s : List UInt8) : evF T (En (E28)) (Ln L14) Try.f48 [.d (.str s)] =
    br (decide ((↑s.length : Int) ≥ (1 : Int))) (br (decide ((↑s.length : Int) ≤ (32 : Int))) (chk (s.length ≤ Big) (br (allI (kindI (3 : Int)) s) (chk ((0 : Int) ≤ (0 : Int) ∧ (0 : Int) < (↑s.length : Int)) (br (betw (byteAt s (0 : Int)) (97 : Int) (122 : Int)) (some (SV.val (AV.d (D.bool true)))) (chk ((0 : Int) ≤ (0 : Int) ∧ (0 : Int) < (↑s.length : Int)) (some (SV.val (AV.d (D.bool (betw (byteAt s (0 : Int)) (65 : Int) (90 : Int))))))))) (some (SV.val (AV.d (D.bool false)))))) (some (SV.val (AV.d (D.bool false))))) (some (SV.val (AV.d (D.bool false)))) := by kernel_rfl

theorem sat14 : Sat P 48 (S14) := by
  refine sat_mk (LT := Ln L14) hC ok28 mixed Try.func48 (by kernel_rfl) (c := bodyOf Try.f48) (by kernel_rfl) (by kernel_rfl) ?_ (loops0 (by kernel_rfl))
  rintro ⟨⟨(s : List UInt8), _⟩, _⟩ sv h
  obtain ⟨hs, h⟩ := h
  obtain rfl := Out_leaf h
  refine (t14 s).trans ?_
  rw [isName_eq, kindI3]
  cases s with
  | nil => rfl
  | cons b r =>
    have hb : byteAt (b :: r) 0 = u b := rfl
    rw [hb]
    repeat' (first | refine br_eq (fun _ => ?_) (fun _ => ?_) | refine chk_eq ?_ ?_)
    all_goals first | assumption | (simp at *; done) | (refine vb_eq ?_; rw [Bool.eq_iff_iff]; simp_all [letterI, betw]; done) | (refine vb_eq ?_; rw [Bool.eq_iff_iff]; simp_all [letterI, betw]; omega) | (simp at *; omega)
def E14 : Es := (48, S14) :: E28
theorem ok14 : SatE P (En E14) := SatE.cons sat14 ok28
/-! ### function 29 -/
def S29 := mkS [str] fun ⟨⟨(s : List UInt8), _⟩, _⟩ => .chk (s.length ≤ Big) (bl (isIri s))
def L29 : Ls := []
theorem t29 (s : List UInt8) : evF T (En (E14)) (Ln L29) Try.f46 [.d (.str s)] =
    br (decide ((↑s.length : Int) ≥ (1 : Int))) (br (decide ((↑s.length : Int) ≤ (4096 : Int))) (chk (s.length ≤ Big) (some (SV.val (AV.d (D.bool (allI (kindI (1 : Int)) s)))))) (some (SV.val (AV.d (D.bool false))))) (some (SV.val (AV.d (D.bool false)))) := by kernel_rfl

theorem sat29 : Sat P 46 (S29) := by
  refine sat_mk (LT := Ln L29) hC ok14 mixed Try.func46 (by kernel_rfl) (c := bodyOf Try.f46) (by kernel_rfl) (by kernel_rfl) ?_ (loops0 (by kernel_rfl))
  rintro ⟨⟨(s : List UInt8), _⟩, _⟩ sv h
  obtain ⟨hs, h⟩ := h
  obtain rfl := Out_leaf h
  refine (t29 s).trans ?_
  simp only [isIri, kindI1]
  cases s with
  | nil => rfl
  | cons b r =>
    repeat' (first | refine br_eq (fun _ => ?_) (fun _ => ?_) | refine chk_eq ?_ ?_)
    all_goals first | assumption | (refine vb_eq ?_; simp_all; done) | (refine vb_eq ?_; simp_all; omega) | (exfalso; simp_all; done) | (exfalso; simp_all; omega)
def E29 : Es := (46, S29) :: E14
theorem ok29 : SatE P (En E29) := SatE.cons sat29 ok14
/-! ### function 30 -/
def S30 := mkS [str] fun ⟨⟨(s : List UInt8), _⟩, _⟩ => .chk (s.length ≤ Big) (bl (isLang s))
def L30 : Ls := []
theorem t30 (s : List UInt8) : evF T (En (E29)) (Ln L30) Try.f47 [.d (.str s)] =
    br (decide ((↑s.length : Int) ≥ (1 : Int))) (br (decide ((↑s.length : Int) ≤ (8 : Int))) (chk (s.length ≤ Big) (some (SV.val (AV.d (D.bool (allI (kindI (4 : Int)) s)))))) (some (SV.val (AV.d (D.bool false))))) (some (SV.val (AV.d (D.bool false)))) := by kernel_rfl

theorem sat30 : Sat P 47 (S30) := by
  refine sat_mk (LT := Ln L30) hC ok29 mixed Try.func47 (by kernel_rfl) (c := bodyOf Try.f47) (by kernel_rfl) (by kernel_rfl) ?_ (loops0 (by kernel_rfl))
  rintro ⟨⟨(s : List UInt8), _⟩, _⟩ sv h
  obtain ⟨hs, h⟩ := h
  obtain rfl := Out_leaf h
  refine (t30 s).trans ?_
  simp only [isLang, kindI4]
  cases s with
  | nil => rfl
  | cons b r =>
    repeat' (first | refine br_eq (fun _ => ?_) (fun _ => ?_) | refine chk_eq ?_ ?_)
    all_goals first | assumption | (refine vb_eq ?_; simp_all; done) | (refine vb_eq ?_; simp_all; omega) | (exfalso; simp_all; done) | (exfalso; simp_all; omega)
def E30 : Es := (47, S30) :: E29
theorem ok30 : SatE P (En E30) := SatE.cons sat30 ok29
/-! ### function 12 -/
def S12 := mkS [trm] fun ⟨⟨(k : Int), (a : List UInt8), (t : List UInt8), (l : List UInt8), _⟩, _⟩ => .chk (a.length ≤ Big ∧ t.length ≤ Big ∧ l.length ≤ Big) (bl (right k a t l))
def L12 : Ls := []
theorem t12 (k : Int) (a t l : List UInt8) : evF T (En (E30)) (Ln L12) Try.f31 [.agg [.int .i64 k, .str a, .str t, .str l]] =
    br (k == (2 : Int)) (br (decide ((↑a.length : Int) ≤ (4096 : Int))) (chk (a.length ≤ Big) (br (allI (kindI (2 : Int)) a) (br (t == []) (br (l == []) (some (SV.val (AV.d (D.bool true)))) (br (t == []) (chk (l.length ≤ Big) (some (SV.val (AV.d (D.bool (isLang l)))))) (some (SV.val (AV.d (D.bool false)))))) (chk (t.length ≤ Big) (br (isIri t) (br (l == []) (some (SV.val (AV.d (D.bool true)))) (br (t == []) (chk (l.length ≤ Big) (some (SV.val (AV.d (D.bool (isLang l)))))) (some (SV.val (AV.d (D.bool false)))))) (some (SV.val (AV.d (D.bool false))))))) (some (SV.val (AV.d (D.bool false)))))) (some (SV.val (AV.d (D.bool false))))) (br (!t == []) (some (SV.val (AV.d (D.bool false)))) (br (!l == []) (some (SV.val (AV.d (D.bool false)))) (br (k == (0 : Int)) (some (SV.val (AV.d (D.bool (a == []))))) (br (k == (1 : Int)) (chk (a.length ≤ Big) (some (SV.val (AV.d (D.bool (isIri a)))))) (br (k == (3 : Int)) (br (k == (3 : Int)) (chk (a.length ≤ Big) (some (SV.val (AV.d (D.bool (isName a)))))) (some (SV.val (AV.d (D.bool false))))) (br (k == (4 : Int)) (chk (a.length ≤ Big) (some (SV.val (AV.d (D.bool (isName a)))))) (some (SV.val (AV.d (D.bool false)))))))))) := by kernel_rfl

theorem sat12 : Sat P 31 (S12) := by
  refine sat_mk (LT := Ln L12) hC ok30 mixed Try.func31 (by kernel_rfl) (c := bodyOf Try.f31) (by kernel_rfl) (by kernel_rfl) ?_ (loops0 (by kernel_rfl))
  rintro ⟨⟨(k : Int), (a : List UInt8), (t : List UInt8), (l : List UInt8), _⟩, _⟩ sv h
  obtain ⟨⟨ha, ht, hl⟩, h⟩ := h
  obtain rfl := Out_leaf h
  refine (t12 k a t l).trans ?_
  simp only [right, isText, kindI2]
  clear h
  repeat' (first | refine br_eq (fun _ => ?_) (fun _ => ?_) | refine chk_eq ?_ ?_)
  all_goals first | assumption | (refine vb_eq ?_; simp_all; done) | (refine vb_eq ?_; simp_all; omega) | (refine vb_eq ?_; have hz : a.length ≤ 4096 := (by simp at *; omega); simp_all; done) | (refine vb_eq ?_; simp_all; intros; omega) | (exfalso; simp_all; done)
def E12 : Es := (31, S12) :: E30
theorem ok12 : SatE P (En E12) := SatE.cons sat12 ok30
end Go.Proofs.Ytgcjhcefpkbheaa.T20
end

section
set_option maxRecDepth 100000
open Go.Proofs.Ytgcjhcefpkbheaa.Lg Go Go.Proofs.Ytgcjhcefpkbheaa.Sp
open Go.Proofs
namespace Go.Proofs.Ytgcjhcefpkbheaa.T20
attribute [local simp] letterI digitI nameI badI iriI textI lowI


end Go.Proofs.Ytgcjhcefpkbheaa.T20
end

section
set_option maxRecDepth 100000
open Go.Proofs.Ytgcjhcefpkbheaa.Lg Go Go.Proofs.Ytgcjhcefpkbheaa.Sp
open Go.Proofs
namespace Go.Proofs.Ytgcjhcefpkbheaa.T20


abbrev tmS : List Sh := [.int .i64, .str, .str, .str]

end Go.Proofs.Ytgcjhcefpkbheaa.T20
end

section
set_option maxRecDepth 100000
open Go.Proofs.Ytgcjhcefpkbheaa.Lg Go Go.Proofs.Ytgcjhcefpkbheaa.Sp
open Go.Proofs
namespace Go.Proofs.Ytgcjhcefpkbheaa.T20



end Go.Proofs.Ytgcjhcefpkbheaa.T20
end

section
set_option maxRecDepth 100000
open Go.Proofs.Ytgcjhcefpkbheaa.Lg Go Go.Proofs.Ytgcjhcefpkbheaa.Sp
open Go.Proofs
namespace Go.Proofs.Ytgcjhcefpkbheaa.T20



end Go.Proofs.Ytgcjhcefpkbheaa.T20
end

section
set_option maxRecDepth 100000
open Go.Proofs.Ytgcjhcefpkbheaa.Lg Go Go.Proofs.Ytgcjhcefpkbheaa.Sp
open Go.Proofs
namespace Go.Proofs.Ytgcjhcefpkbheaa.T20


abbrev t3S : List Sh := [.int .i64, .str, .str, .str, .int .i64, .str, .str, .str, .int .i64, .str, .str, .str]
/-! ### legation/triples.terms -/
def Lterms : Ls := []
def Sterms := mkS [(true, t3S)] fun ⟨(t : RowE t3S), _⟩ => (.leaf (SV.val (AV.agg [D.int IntKind.i64 t.fst, D.str t.snd.fst, D.str t.snd.snd.fst, D.str t.snd.snd.snd.fst, D.int IntKind.i64 t.snd.snd.snd.snd.fst, D.str t.snd.snd.snd.snd.snd.fst, D.str t.snd.snd.snd.snd.snd.snd.fst, D.str t.snd.snd.snd.snd.snd.snd.snd.fst, D.int IntKind.i64 t.snd.snd.snd.snd.snd.snd.snd.snd.fst, D.str t.snd.snd.snd.snd.snd.snd.snd.snd.snd.fst, D.str t.snd.snd.snd.snd.snd.snd.snd.snd.snd.snd.fst, D.str t.snd.snd.snd.snd.snd.snd.snd.snd.snd.snd.snd.fst])))
theorem tterms (t : RowE t3S) : evF T (En (E12)) (Ln (Lterms)) Try.f66 [.agg (rowD t3S t)] =
    some (SV.val (AV.agg [D.int IntKind.i64 t.fst, D.str t.snd.fst, D.str t.snd.snd.fst, D.str t.snd.snd.snd.fst, D.int IntKind.i64 t.snd.snd.snd.snd.fst, D.str t.snd.snd.snd.snd.snd.fst, D.str t.snd.snd.snd.snd.snd.snd.fst, D.str t.snd.snd.snd.snd.snd.snd.snd.fst, D.int IntKind.i64 t.snd.snd.snd.snd.snd.snd.snd.snd.fst, D.str t.snd.snd.snd.snd.snd.snd.snd.snd.snd.fst, D.str t.snd.snd.snd.snd.snd.snd.snd.snd.snd.snd.fst, D.str t.snd.snd.snd.snd.snd.snd.snd.snd.snd.snd.snd.fst])) := by kernel_rfl
theorem satterms : Sat P 66 (Sterms) := by
  refine sat_mk (LT := Ln (Lterms)) hC ok12 mixed Try.func66 (by kernel_rfl) (c := bodyOf Try.f66) (by kernel_rfl) (by kernel_rfl) ?_ (loops0 (by kernel_rfl))
  rintro ⟨(t : RowE t3S), _⟩ sv h
  exact (tterms t).trans (Tr.run_out (K := fun z => some z) h)
def Eterms : Es := (66, Sterms) :: E12
theorem okterms : SatE P (En (Eterms)) := SatE.cons (satterms) ok12
/-! ### legation/triples.right -/
def lstright_0 : LoopS := mkU 4
def Ltright : Ls := [(2, lstright_0)]
def Stright := mkS [(true, t3S)] fun ⟨(t : RowE t3S), _⟩ => .chk (sz3 140737488355328 t) (bl (all3 t))
theorem ttright (t : RowE t3S) : evF T (En (Eterms)) (Ln (Ltright)) Try.f44 [.agg (rowD t3S t)] =
    chk ((0 : Int) ≤ (0 : Int) ∧ (0 : Int) < (↑(3 : Nat) : Int)) (chk (List.length t.snd.fst ≤ Big ∧ List.length t.snd.snd.fst ≤ Big ∧ List.length t.snd.snd.snd.fst ≤ Big) (br ((if right t.fst t.snd.fst t.snd.snd.fst t.snd.snd.snd.fst = true then (0 : Int) else (2 : Int)) != (0 : Int)) (some (SV.val (AV.d (D.bool false)))) (chk ((0 : Int) ≤ IntKind.i64.wrap ((0 : Int) + (1 : Int)) ∧ IntKind.i64.wrap ((0 : Int) + (1 : Int)) < (↑(3 : Nat) : Int)) (chk (List.length t.snd.snd.snd.snd.snd.fst ≤ Big ∧ List.length t.snd.snd.snd.snd.snd.snd.fst ≤ Big ∧ List.length t.snd.snd.snd.snd.snd.snd.snd.fst ≤ Big) (br ((if right t.snd.snd.snd.snd.fst t.snd.snd.snd.snd.snd.fst t.snd.snd.snd.snd.snd.snd.fst t.snd.snd.snd.snd.snd.snd.snd.fst = true then (0 : Int) else (2 : Int)) != (0 : Int)) (some (SV.val (AV.d (D.bool false)))) (chk ((0 : Int) ≤ IntKind.i64.wrap (IntKind.i64.wrap ((0 : Int) + (1 : Int)) + (1 : Int)) ∧ IntKind.i64.wrap (IntKind.i64.wrap ((0 : Int) + (1 : Int)) + (1 : Int)) < (↑(3 : Nat) : Int)) (chk (List.length t.snd.snd.snd.snd.snd.snd.snd.snd.snd.fst ≤ Big ∧ List.length t.snd.snd.snd.snd.snd.snd.snd.snd.snd.snd.fst ≤ Big ∧ List.length t.snd.snd.snd.snd.snd.snd.snd.snd.snd.snd.snd.fst ≤ Big) (br ((if right t.snd.snd.snd.snd.snd.snd.snd.snd.fst t.snd.snd.snd.snd.snd.snd.snd.snd.snd.fst t.snd.snd.snd.snd.snd.snd.snd.snd.snd.snd.fst t.snd.snd.snd.snd.snd.snd.snd.snd.snd.snd.snd.fst = true then (0 : Int) else (2 : Int)) != (0 : Int)) (some (SV.val (AV.d (D.bool false)))) (some (SV.val (AV.d (D.bool true)))))))))))) := by kernel_rfl
theorem sattright : Sat P 44 (Stright) := by
  refine sat_mk (LT := Ln (Ltright)) hC okterms mixed Try.func44 (by kernel_rfl) (c := bodyOf Try.f44) (by kernel_rfl) (by kernel_rfl) ?_ (loops1 (by kernel_rfl) (loopU (n := 4) (c := loopAt 0 (loops (bodyOf Try.f44))) (by kernel_rfl)))
  rintro ⟨(t : RowE t3S), _⟩ sv h
  refine Leads.eq (Leads.of_eq (ttright t) ?_)
  obtain ⟨⟨s1, s2, s3⟩, h⟩ := h
  have h := Out_leaf h
  have hB := Big_eq
  refine Leads.chk ⟨by decide, by decide⟩ fun _ => Leads.chk (by omega) fun _ => Leads.brN (fun q1 => Leads.chk ⟨by decide, by decide⟩ fun _ => Leads.chk (by omega) fun _ => Leads.brN (fun q2 => Leads.chk ⟨by decide, by decide⟩ fun _ => Leads.chk (by omega) fun _ => Leads.brN (fun q3 => Leads.one ?_) (fun q3 => Leads.one ?_)) (fun q2 => Leads.one ?_)) (fun q1 => Leads.one ?_)
  · rw [h, all3_t (if00 q1) (if00 q2) (if00 q3)]
  · rw [h, all3_3 (if02 q3)]
  · rw [h, all3_2 (if02 q2)]
  · rw [h, all3_1 (if02 q1)]
def Etright : Es := (44, Stright) :: Eterms
theorem oktright : SatE P (En (Etright)) := SatE.cons (sattright) okterms
/-! ### legation/triples.CheckPattern -/
def LtCheckP : Ls := []
def StCheckP := mkS [(true, t3S)] fun ⟨(t : RowE t3S), _⟩ => .chk (sz3 140737488355328 t) (ii (if pat t = true then 0 else 2))
theorem ttCheckP (t : RowE t3S) : evF T (En (Etright)) (Ln (LtCheckP)) Try.f30 [.agg (rowD t3S t)] =
    chk (sz3 (140737488355328 : Nat) (t.fst, t.snd.fst, t.snd.snd.fst, t.snd.snd.snd.fst, t.snd.snd.snd.snd.fst, t.snd.snd.snd.snd.snd.fst, t.snd.snd.snd.snd.snd.snd.fst, t.snd.snd.snd.snd.snd.snd.snd.fst, t.snd.snd.snd.snd.snd.snd.snd.snd.fst, t.snd.snd.snd.snd.snd.snd.snd.snd.snd.fst, t.snd.snd.snd.snd.snd.snd.snd.snd.snd.snd.fst, t.snd.snd.snd.snd.snd.snd.snd.snd.snd.snd.snd.fst, ())) (br (!all3 (t.fst, t.snd.fst, t.snd.snd.fst, t.snd.snd.snd.fst, t.snd.snd.snd.snd.fst, t.snd.snd.snd.snd.snd.fst, t.snd.snd.snd.snd.snd.snd.fst, t.snd.snd.snd.snd.snd.snd.snd.fst, t.snd.snd.snd.snd.snd.snd.snd.snd.fst, t.snd.snd.snd.snd.snd.snd.snd.snd.snd.fst, t.snd.snd.snd.snd.snd.snd.snd.snd.snd.snd.fst, t.snd.snd.snd.snd.snd.snd.snd.snd.snd.snd.snd.fst, ())) (some (SV.val (AV.d (D.int IntKind.i64 (2 : Int))))) (br (t.fst != (1 : Int)) (br (t.fst != (4 : Int)) (some (SV.val (AV.d (D.int IntKind.i64 (2 : Int))))) (br (t.snd.snd.snd.snd.fst != (1 : Int)) (br (t.snd.snd.snd.snd.fst != (4 : Int)) (some (SV.val (AV.d (D.int IntKind.i64 (2 : Int))))) (br (t.snd.snd.snd.snd.snd.snd.snd.snd.fst == (0 : Int)) (some (SV.val (AV.d (D.int IntKind.i64 (2 : Int))))) (br (t.snd.snd.snd.snd.snd.snd.snd.snd.fst == (3 : Int)) (some (SV.val (AV.d (D.int IntKind.i64 (2 : Int))))) (some (SV.val (AV.d (D.int IntKind.i64 (0 : Int)))))))) (br (t.snd.snd.snd.snd.snd.snd.snd.snd.fst == (0 : Int)) (some (SV.val (AV.d (D.int IntKind.i64 (2 : Int))))) (br (t.snd.snd.snd.snd.snd.snd.snd.snd.fst == (3 : Int)) (some (SV.val (AV.d (D.int IntKind.i64 (2 : Int))))) (some (SV.val (AV.d (D.int IntKind.i64 (0 : Int))))))))) (br (t.snd.snd.snd.snd.fst != (1 : Int)) (br (t.snd.snd.snd.snd.fst != (4 : Int)) (some (SV.val (AV.d (D.int IntKind.i64 (2 : Int))))) (br (t.snd.snd.snd.snd.snd.snd.snd.snd.fst == (0 : Int)) (some (SV.val (AV.d (D.int IntKind.i64 (2 : Int))))) (br (t.snd.snd.snd.snd.snd.snd.snd.snd.fst == (3 : Int)) (some (SV.val (AV.d (D.int IntKind.i64 (2 : Int))))) (some (SV.val (AV.d (D.int IntKind.i64 (0 : Int)))))))) (br (t.snd.snd.snd.snd.snd.snd.snd.snd.fst == (0 : Int)) (some (SV.val (AV.d (D.int IntKind.i64 (2 : Int))))) (br (t.snd.snd.snd.snd.snd.snd.snd.snd.fst == (3 : Int)) (some (SV.val (AV.d (D.int IntKind.i64 (2 : Int))))) (some (SV.val (AV.d (D.int IntKind.i64 (0 : Int)))))))))) := by kernel_rfl
theorem sattCheckP : Sat P 30 (StCheckP) := by
  refine sat_mk (LT := Ln (LtCheckP)) hC oktright mixed Try.func30 (by kernel_rfl) (c := bodyOf Try.f30) (by kernel_rfl) (by kernel_rfl) ?_ (loops0 (by kernel_rfl))
  rintro ⟨(t : RowE t3S), _⟩ sv h
  refine Leads.eq (Leads.of_eq (ttCheckP t) ?_)
  obtain ⟨hs, h⟩ := h
  have h := Out_leaf h
  refine Leads.chk hs fun _ => Leads.brG (fun q => ?_) (fun q => ?_)
  · have q : all3 t = true := q
    rw [pat_of q] at h
    have qk := right_k (all3_o q)
    repeat' (first | refine Leads.brD (fun _ => ?_) (fun _ => ?_) | refine Leads.brE (fun _ => ?_) (fun _ => ?_) | refine Leads.brN (fun _ => ?_) (fun _ => ?_) | refine Leads.brM (fun _ => ?_) (fun _ => ?_) | refine Leads.brG (fun _ => ?_) (fun _ => ?_) | refine Leads.br (fun _ => ?_) (fun _ => ?_) | refine Leads.chk ?_ (fun _ => ?_) | refine Leads.one ?_ | refine Leads.brP (fun _ => ?_) (fun _ => ?_))
    all_goals rw [h]
    all_goals first | (rw [patK_a (by assumption) (by assumption)]; rfl) | (rw [patK_b (by assumption) (by assumption)]; rfl) | (rw [patK_n (.inl (by assumption))]; rfl) | (rw [patK_n (.inr (by assumption))]; rfl) | skip
    all_goals (rw [patK_y (by first | exact .inl (by assumption) | exact .inr (by assumption)) (by first | exact .inl (by assumption) | exact .inr (by assumption)) qk (by assumption) (by assumption)]; rfl)
  · have q : all3 t = false := q
    rw [pat_no q] at h
    exact Leads.one (by rw [h]; rfl)
def EtCheckP : Es := (30, StCheckP) :: Etright
theorem oktCheckP : SatE P (En (EtCheckP)) := SatE.cons (sattCheckP) oktright
/-! ### legation/legationref03.RightPattern -/
def Lr3_RightPattern : Ls := []
def Sr3_RightPattern := mkS [(true, t3S)] fun ⟨(t : RowE t3S), _⟩ => .chk (sz3 140737488355328 t) (bl (pat t))
theorem tr3_RightPattern (t : RowE t3S) : evF T (En (EtCheckP)) (Ln (Lr3_RightPattern)) Try.f18 [.agg (rowD t3S t)] =
    chk (List.length t.snd.fst ≤ Big ∧ List.length t.snd.snd.fst ≤ Big ∧ List.length t.snd.snd.snd.fst ≤ Big) (br (!right t.fst t.snd.fst t.snd.snd.fst t.snd.snd.snd.fst) (some (SV.val (AV.d (D.bool false)))) (chk (List.length t.snd.snd.snd.snd.snd.fst ≤ Big ∧ List.length t.snd.snd.snd.snd.snd.snd.fst ≤ Big ∧ List.length t.snd.snd.snd.snd.snd.snd.snd.fst ≤ Big) (br (!right t.snd.snd.snd.snd.fst t.snd.snd.snd.snd.snd.fst t.snd.snd.snd.snd.snd.snd.fst t.snd.snd.snd.snd.snd.snd.snd.fst) (some (SV.val (AV.d (D.bool false)))) (chk (List.length t.snd.snd.snd.snd.snd.snd.snd.snd.snd.fst ≤ Big ∧ List.length t.snd.snd.snd.snd.snd.snd.snd.snd.snd.snd.fst ≤ Big ∧ List.length t.snd.snd.snd.snd.snd.snd.snd.snd.snd.snd.snd.fst ≤ Big) (br (!right t.snd.snd.snd.snd.snd.snd.snd.snd.fst t.snd.snd.snd.snd.snd.snd.snd.snd.snd.fst t.snd.snd.snd.snd.snd.snd.snd.snd.snd.snd.fst t.snd.snd.snd.snd.snd.snd.snd.snd.snd.snd.snd.fst) (some (SV.val (AV.d (D.bool false)))) (br (t.fst == (1 : Int)) (br (t.snd.snd.snd.snd.fst == (1 : Int)) (br (t.snd.snd.snd.snd.snd.snd.snd.snd.fst == (1 : Int)) (some (SV.val (AV.d (D.bool true)))) (br (t.snd.snd.snd.snd.snd.snd.snd.snd.fst == (2 : Int)) (some (SV.val (AV.d (D.bool true)))) (some (SV.val (AV.d (D.bool (t.snd.snd.snd.snd.snd.snd.snd.snd.fst == (4 : Int)))))))) (br (t.snd.snd.snd.snd.fst == (4 : Int)) (br (t.snd.snd.snd.snd.snd.snd.snd.snd.fst == (1 : Int)) (some (SV.val (AV.d (D.bool true)))) (br (t.snd.snd.snd.snd.snd.snd.snd.snd.fst == (2 : Int)) (some (SV.val (AV.d (D.bool true)))) (some (SV.val (AV.d (D.bool (t.snd.snd.snd.snd.snd.snd.snd.snd.fst == (4 : Int)))))))) (some (SV.val (AV.d (D.bool false)))))) (br (t.fst == (4 : Int)) (br (t.snd.snd.snd.snd.fst == (1 : Int)) (br (t.snd.snd.snd.snd.snd.snd.snd.snd.fst == (1 : Int)) (some (SV.val (AV.d (D.bool true)))) (br (t.snd.snd.snd.snd.snd.snd.snd.snd.fst == (2 : Int)) (some (SV.val (AV.d (D.bool true)))) (some (SV.val (AV.d (D.bool (t.snd.snd.snd.snd.snd.snd.snd.snd.fst == (4 : Int)))))))) (br (t.snd.snd.snd.snd.fst == (4 : Int)) (br (t.snd.snd.snd.snd.snd.snd.snd.snd.fst == (1 : Int)) (some (SV.val (AV.d (D.bool true)))) (br (t.snd.snd.snd.snd.snd.snd.snd.snd.fst == (2 : Int)) (some (SV.val (AV.d (D.bool true)))) (some (SV.val (AV.d (D.bool (t.snd.snd.snd.snd.snd.snd.snd.snd.fst == (4 : Int)))))))) (some (SV.val (AV.d (D.bool false)))))) (some (SV.val (AV.d (D.bool false))))))))))) := by kernel_rfl
theorem satr3_RightPattern : Sat P 18 (Sr3_RightPattern) := by
  refine sat_mk (LT := Ln (Lr3_RightPattern)) hC oktCheckP mixed Try.func18 (by kernel_rfl) (c := bodyOf Try.f18) (by kernel_rfl) (by kernel_rfl) ?_ (loops0 (by kernel_rfl))
  rintro ⟨(t : RowE t3S), _⟩ sv h
  refine Leads.eq (Leads.of_eq (tr3_RightPattern t) ?_)
  obtain ⟨⟨s1, s2, s3⟩, h⟩ := h
  have h := Out_leaf h
  have hB := Big_eq
  refine Leads.chk (by omega) fun _ => Leads.brG (fun q1 => Leads.chk (by omega) fun _ => Leads.brG (fun q2 => Leads.chk (by omega) fun _ => Leads.brG (fun q3 => ?_) (fun q3 => Leads.one ?_)) (fun q2 => Leads.one ?_)) (fun q1 => Leads.one ?_)
  · rw [pat_of (all3_t q1 q2 q3)] at h
    clear s1 s2 s3 hB
    repeat' (first | refine Leads.brD (fun _ => ?_) (fun _ => ?_) | refine Leads.brE (fun _ => ?_) (fun _ => ?_) | refine Leads.brN (fun _ => ?_) (fun _ => ?_) | refine Leads.brM (fun _ => ?_) (fun _ => ?_) | refine Leads.brG (fun _ => ?_) (fun _ => ?_) | refine Leads.br (fun _ => ?_) (fun _ => ?_) | refine Leads.chk ?_ (fun _ => ?_) | refine Leads.one ?_ | refine Leads.brP (fun _ => ?_) (fun _ => ?_))
    all_goals rw [h]
    all_goals first | (rw [patK_a (by assumption) (by assumption)]; done) | (rw [patK_b (by assumption) (by assumption)]; done) | (rw [patK_1 (by first | exact .inl (by assumption) | exact .inr (by assumption)) (by first | exact .inl (by assumption) | exact .inr (by assumption)) (by assumption)]; done) | (rw [patK_2 (by first | exact .inl (by assumption) | exact .inr (by assumption)) (by first | exact .inl (by assumption) | exact .inr (by assumption)) (by assumption)]; done) | (rw [patK_e (by first | exact .inl (by assumption) | exact .inr (by assumption)) (by first | exact .inl (by assumption) | exact .inr (by assumption)) (by assumption) (by assumption)]; rfl)
  · rw [h, pat_no (all3_3 q3)]
  · rw [h, pat_no (all3_2 q2)]
  · rw [h, pat_no (all3_1 q1)]
def Er3_RightPattern : Es := (18, Sr3_RightPattern) :: EtCheckP
theorem okr3_RightPattern : SatE P (En (Er3_RightPattern)) := SatE.cons (satr3_RightPattern) oktCheckP
end Go.Proofs.Ytgcjhcefpkbheaa.T20
end

section
set_option maxRecDepth 100000
open Go.Proofs.Ytgcjhcefpkbheaa.Lg Go Go.Proofs.Ytgcjhcefpkbheaa.Sp
open Go.Proofs
namespace Go.Proofs.Ytgcjhcefpkbheaa.T20



end Go.Proofs.Ytgcjhcefpkbheaa.T20
end

section
set_option maxRecDepth 100000
open Go.Proofs.Ytgcjhcefpkbheaa.Lg Go Go.Proofs.Ytgcjhcefpkbheaa.Sp
open Go.Proofs
namespace Go.Proofs.Ytgcjhcefpkbheaa.T20


/-! ### slices.Index[[]string,string] -/
def lkslIndex_0 : St [.v false [.sl [.str]], .v false [.str], .v false [.int .i64], .v false [.int .i64]] → Prop := fun ⟨⟨(s : List (RowE [.str])), _⟩, ⟨(v : List UInt8), _⟩, ⟨(x7 : Int), _⟩, ⟨(x8 : Int), _⟩, _⟩ => x7 = (s.length : Int) ∧ 0 ≤ x8 ∧ x8 ≤ x7 ∧ s.length ≤ 140737488355328
def lgslIndex_0 : St [.v false [.sl [.str]], .v false [.str], .v false [.int .i64], .v false [.int .i64]] → Tr (Ex × List SV) := fun ⟨⟨(s : List (RowE [.str])), _⟩, ⟨(v : List UInt8), _⟩, ⟨(x7 : Int), _⟩, ⟨(x8 : Int), _⟩, _⟩ => .brP (idxS (s.drop x8.toNat) v x8 < 0) (.leaf (.exit 0, [])) (.leaf (.ret, [.val (.d (.int .i64 (idxS (s.drop x8.toNat) v x8)))]))
def lmslIndex_0 : St [.v false [.sl [.str]], .v false [.str], .v false [.int .i64], .v false [.int .i64]] → Nat := fun ⟨⟨(s : List (RowE [.str])), _⟩, ⟨(v : List UInt8), _⟩, ⟨(x7 : Int), _⟩, ⟨(x8 : Int), _⟩, _⟩ => s.length - x8.toNat
def lsslIndex_0 : LoopS := mkR [0, 1, 7, 8] [] [4] [.v false [.sl [.str]], .v false [.str], .v false [.int .i64], .v false [.int .i64]] (fun r => .chk (lkslIndex_0 r) (lgslIndex_0 r))
def LslIndex : Ls := [(2, lsslIndex_0)]
def SslIndex := mkS [(false, [.sl [.str]]), (false, [.str])] fun ⟨⟨(s : List (RowE [.str])), _⟩, ⟨(v : List UInt8), _⟩, _⟩ => .chk (s.length ≤ 140737488355328) (.leaf (.val (.d (.int .i64 (idxS s v 0)))))
theorem ltslIndex_0 (s : List (RowE [.str])) (v : List UInt8) (x7 : Int) (x8 : Int) : evRound T (Ep (Er3_RightPattern)) (Ln (LslIndex)) (loopAt 0 (loops (bodyOf Try.f52))) (lsslIndex_0) [.val (.d (.sl [.str] s)), .val (.d (.str  v)), .val (.d (.int .i64 x7)), .val (.d (.int .i64 x8))] =
    br (decide (x8 < x7)) (chk ((0 : Int) ≤ x8 ∧ x8 < (↑s.length : Int)) (br (v == (getR [Sh.str] s x8).fst) (some (Rnd.out Ex.ret [SV.val (AV.d (D.int IntKind.i64 x8))])) (some (Rnd.again [SV.val (AV.d (D.sl [Sh.str] s)), SV.val (AV.d (D.str v)), SV.val (AV.d (D.int IntKind.i64 x7)), SV.val (AV.d (D.int IntKind.i64 (IntKind.i64.wrap (x8 + (1 : Int)))))])))) (some (Rnd.out (Ex.exit (0 : Nat)) [])) := by kernel_rfl
theorem lokslIndex_0 : LoopOK T (Ep (Er3_RightPattern)) (Ln (LslIndex)) (loopAt 0 (loops (bodyOf Try.f52))) := by
  refine loop_ok (live := [0, 1, 7, 8]) (outs := []) (rets := [4]) (ks := [.v false [.sl [.str]], .v false [.str], .v false [.int .i64], .v false [.int .i64]]) (G := lgslIndex_0) (lkslIndex_0) (lmslIndex_0) (by kernel_rfl) ?_
  rintro ⟨⟨(s : List (RowE [.str])), _⟩, ⟨(v : List UInt8), _⟩, ⟨(x7 : Int), _⟩, ⟨(x8 : Int), _⟩, _⟩ x hok hx
  refine Leads.of_eq (ltslIndex_0 s v x7 x8) ?_
  obtain ⟨e7, h0, h1, hl⟩ := hok
  have e7 : x7 = (s.length : Int) := e7
  subst e7
  obtain ⟨i, rfl⟩ := Int.eq_ofNat_of_zero_le h0
  simp only [lgslIndex_0, Int.toNat_natCast] at hx
  refine Leads.brD (fun lt => Leads.chk ⟨h0, lt⟩ fun _ => ?_) (fun ge => Leads.one (Goes.out ?_))
  · have lt' : i < s.length := by omega
    rw [txt_at lt', idxS] at hx
    rw [wrap64 (by omega) (by omega)]
    refine Leads.brE (fun w => Leads.one (Goes.out ?_)) (fun w => Leads.one ?_)
    · rw [if_pos w] at hx
      rw [Out_leaf (Out_neg (by omega) hx)]
    · rw [if_neg w] at hx
      refine Goes.again (ks := [.v false [.sl [.str]], .v false [.str], .v false [.int .i64], .v false [.int .i64]]) ((s, ()), (v, ()), ((s.length : Int), ()), ((i : Int) + 1, ()), ()) rfl ?_ ?_ ?_
      · exact ⟨rfl, (by omega : 0 ≤ (i : Int) + 1), (by omega : (i : Int) + 1 ≤ (s.length : Int)), hl⟩
      · show s.length - ((i : Int) + 1).toNat < s.length - (i : Int).toNat
        simp only [toNat_add1, Int.toNat_natCast]; omega
      · simp only [lgslIndex_0, toNat_add1]; exact hx
  · rw [List.drop_of_length_le (by omega), idxS] at hx
    rw [Out_leaf (Out_pos (by decide) hx)]
theorem tslIndex (s : List (RowE [.str])) (v : List UInt8) : evF T (Ep (Er3_RightPattern)) (Ln (LslIndex)) Try.f52 [.d (.sl [.str] s), .d (.str v)] =
    chk (lkslIndex_0 ((s, ()), (v, ()), ((↑s.length : Int), ()), ((0 : Int), ()), ())) (brP (idxS (List.drop (Int.toNat (0 : Int)) s) v (0 : Int) < (0 : Int)) (some (SV.val (AV.d (D.int IntKind.i64 (-1 : Int))))) (some (SV.val (AV.d (D.int IntKind.i64 (idxS (List.drop (Int.toNat (0 : Int)) s) v (0 : Int))))))) := by kernel_rfl
theorem satslIndex : Sat P 52 (SslIndex) := by
  refine sat_mk (LT := Ln (LslIndex)) hC (SatE.ep okr3_RightPattern) mixed Try.func52 (by kernel_rfl) (c := bodyOf Try.f52) (by kernel_rfl) (by kernel_rfl) ?_ (loops1 (by kernel_rfl) (lokslIndex_0))
  rintro ⟨⟨(s : List (RowE [.str])), _⟩, ⟨(v : List UInt8), _⟩, _⟩ sv h
  refine Leads.eq (Leads.of_eq (tslIndex s v) ?_)
  obtain ⟨hl, h⟩ := h
  have h := Out_leaf h
  subst h
  refine Leads.chk ⟨rfl, by decide, Int.natCast_nonneg _, hl⟩ fun _ => Leads.brP (fun w => Leads.one ?_) (fun w => Leads.one rfl)
  have w : idxS s v 0 < 0 := w
  have key : ∀ (l : List (RowE [.str])) (i : Int), 0 ≤ i → idxS l v i < 0 → idxS l v i = -1 := by
    intro l
    induction l with
    | nil => exact fun _ _ _ => rfl
    | cons r l ih =>
      intro i h0 h1
      rw [idxS] at h1 ⊢
      split at h1
      · omega
      · rename_i e; rw [if_neg e]; exact ih (i + 1) (by omega) h1
  rw [key s 0 (by decide) w]
def EslIndex : Es := (52, (SslIndex)) :: Er3_RightPattern
theorem okslIndex : SatE P (En (EslIndex)) := SatE.cons (satslIndex) okr3_RightPattern
/-! ### slices.Contains[[]string,string] -/
def LslCont : Ls := []
def SslCont := mkS [(false, [.sl [.str]]), (false, [.str])] fun ⟨⟨(s : List (RowE [.str])), _⟩, ⟨(v : List UInt8), _⟩, _⟩ => .chk (s.length ≤ 140737488355328) (bl (hasS s v))
theorem tslCont (s : List (RowE [.str])) (v : List UInt8) : evF T (Ep (EslIndex)) (Ln (LslCont)) Try.f39 [.d (.sl [.str] s), .d (.str v)] =
    chk (s.length ≤ (140737488355328 : Nat)) (some (SV.val (AV.d (D.bool (decide (idxS s v (0 : Int) ≥ (0 : Int))))))) := by kernel_rfl
theorem satslCont : Sat P 39 (SslCont) := by
  refine sat_mk (LT := Ln (LslCont)) hC (SatE.ep okslIndex) mixed Try.func39 (by kernel_rfl) (c := bodyOf Try.f39) (by kernel_rfl) (by kernel_rfl) ?_ (loops0 (by kernel_rfl))
  rintro ⟨⟨(s : List (RowE [.str])), _⟩, ⟨(v : List UInt8), _⟩, _⟩ sv h
  refine Leads.eq (Leads.of_eq (tslCont s v) ?_)
  obtain ⟨hl, h⟩ := h
  have h := Out_leaf h
  subst h
  exact Leads.chk hl fun _ => Leads.one (by rw [idxS_has s v 0 (by decide)])
def EslCont : Es := (39, (SslCont)) :: EslIndex
theorem okslCont : SatE P (En (EslCont)) := SatE.cons (satslCont) okslIndex
/-! ### legation/legationref03.In -/
def lkr_In_0 : St [.v false [.sl [.str]], .v false [.str], .v false [.int .i64]] → Prop := fun ⟨⟨(l : List (RowE [.str])), _⟩, ⟨(s : List UInt8), _⟩, ⟨(i : Int), _⟩, _⟩ => 0 ≤ i ∧ i ≤ l.length ∧ l.length ≤ 140737488355328
def lgr_In_0 : St [.v false [.sl [.str]], .v false [.str], .v false [.int .i64]] → Tr (Ex × List SV) := fun ⟨⟨(l : List (RowE [.str])), _⟩, ⟨(s : List UInt8), _⟩, ⟨(i : Int), _⟩, _⟩ => .br (hasS (l.drop i.toNat) s) (.leaf (.ret, [.val (.d (.bool  (true)))])) (.leaf (.exit 0, []))
def lmr_In_0 : St [.v false [.sl [.str]], .v false [.str], .v false [.int .i64]] → Nat := fun ⟨⟨(l : List (RowE [.str])), _⟩, ⟨(s : List UInt8), _⟩, ⟨(i : Int), _⟩, _⟩ => l.length - i.toNat
def lsr_In_0 : LoopS := mkR [0, 1, 5] [] [4] [.v false [.sl [.str]], .v false [.str], .v false [.int .i64]] (fun r => .chk (lkr_In_0 r) (lgr_In_0 r))
def Lr_In : Ls := [(2, lsr_In_0)]
def Sr_In := mkS [(false, [.sl [.str]]), (false, [.str])] fun ⟨⟨(l : List (RowE [.str])), _⟩, ⟨(s : List UInt8), _⟩, _⟩ => .chk (l.length ≤ 140737488355328) (bl (hasS l s))
theorem ltr_In_0 (l : List (RowE [.str])) (s : List UInt8) (i : Int) : evRound T (Ep (EslCont)) (Ln (Lr_In)) (loopAt 0 (loops (bodyOf Try.f54))) (lsr_In_0) [.val (.d (.sl [.str] l)), .val (.d (.str  s)), .val (.d (.int .i64 i))] =
    br (decide (i < (↑l.length : Int))) (chk ((0 : Int) ≤ i ∧ i < (↑l.length : Int)) (br ((getR [Sh.str] l i).fst == s) (some (Rnd.out Ex.ret [SV.val (AV.d (D.bool true))])) (some (Rnd.again [SV.val (AV.d (D.sl [Sh.str] l)), SV.val (AV.d (D.str s)), SV.val (AV.d (D.int IntKind.i64 (IntKind.i64.wrap (i + (1 : Int)))))])))) (some (Rnd.out (Ex.exit (0 : Nat)) [])) := by kernel_rfl
theorem lokr_In_0 : LoopOK T (Ep (EslCont)) (Ln (Lr_In)) (loopAt 0 (loops (bodyOf Try.f54))) := by
  refine loop_ok (live := [0, 1, 5]) (outs := []) (rets := [4]) (ks := [.v false [.sl [.str]], .v false [.str], .v false [.int .i64]]) (G := lgr_In_0) (lkr_In_0) (lmr_In_0) (by kernel_rfl) ?_
  rintro ⟨⟨(l : List (RowE [.str])), _⟩, ⟨(s : List UInt8), _⟩, ⟨(i : Int), _⟩, _⟩ x hok hx
  refine Leads.of_eq (ltr_In_0 l s i) ?_
  obtain ⟨h0, h1, hl⟩ := hok
  obtain ⟨i, rfl⟩ := Int.eq_ofNat_of_zero_le h0
  simp only [lgr_In_0, Int.toNat_natCast] at hx
  refine Leads.brD (fun lt => Leads.chk ⟨h0, lt⟩ fun _ => ?_) (fun ge => Leads.one (Goes.out ?_))
  · have lt' : i < l.length := by omega
    rw [txt_at lt', hasS_cons] at hx
    rw [wrap64 (by omega) (by omega)]
    refine Leads.brE (fun w => Leads.one (Goes.out ?_)) (fun w => Leads.one ?_)
    · rw [show ((getR [.str] l (i : Int)).1 == s) = true from beq_iff_eq.2 w] at hx
      rw [Out_leaf (Out_tt hx)]
    · rw [show ((getR [.str] l (i : Int)).1 == s) = false from beq_eq_false_iff_ne.2 w] at hx
      refine Goes.again (ks := [.v false [.sl [.str]], .v false [.str], .v false [.int .i64]]) ((l, ()), (s, ()), ((i : Int) + 1, ()), ()) rfl ?_ ?_ ?_
      · exact ⟨(by omega : 0 ≤ (i : Int) + 1), (by omega : (i : Int) + 1 ≤ (l.length : Int)), hl⟩
      · show l.length - ((i : Int) + 1).toNat < l.length - (i : Int).toNat
        simp only [toNat_add1, Int.toNat_natCast]; omega
      · simp only [lgr_In_0, toNat_add1]; exact hx
  · rw [List.drop_of_length_le (by omega)] at hx
    rw [Out_leaf (Out_ff hx)]
theorem tr_In (l : List (RowE [.str])) (s : List UInt8) : evF T (Ep (EslCont)) (Ln (Lr_In)) Try.f54 [.d (.sl [.str] l), .d (.str s)] =
    chk (lkr_In_0 ((l, ()), (s, ()), ((0 : Int), ()), ())) (br (hasS (List.drop (Int.toNat (0 : Int)) l) s) (some (SV.val (AV.d (D.bool true)))) (some (SV.val (AV.d (D.bool false))))) := by kernel_rfl
theorem satr_In : Sat P 54 (Sr_In) := by
  refine sat_mk (LT := Ln (Lr_In)) hC (SatE.ep okslCont) mixed Try.func54 (by kernel_rfl) (c := bodyOf Try.f54) (by kernel_rfl) (by kernel_rfl) ?_ (loops1 (by kernel_rfl) (lokr_In_0))
  rintro ⟨⟨(l : List (RowE [.str])), _⟩, ⟨(s : List UInt8), _⟩, _⟩ sv h
  refine Leads.eq (Leads.of_eq (tr_In l s) ?_)
  obtain ⟨hl, h⟩ := h
  have h := Out_leaf h
  subst h
  refine Leads.chk ⟨by decide, Int.natCast_nonneg _, hl⟩ fun _ => Leads.br (fun w => Leads.one ?_) (fun w => Leads.one ?_)
  · have w : hasS l s = true := w
    rw [w]
  · have w : hasS l s = false := w
    rw [w]
def Er_In : Es := (54, (Sr_In)) :: EslCont
theorem okr_In : SatE P (En (Er_In)) := SatE.cons (satr_In) okslCont
/-! ### legation/legationref03.more -/
def Lr_more : Ls := []
def Sr_more := mkO [true, false] [.a [.str], .v true tmS] fun ⟨(l : List (RowE [.str])), (t : RowE tmS), _⟩ => .chk (l.length ≤ 1000000) (.leaf (.app [.str] (moreS l t), []))
theorem tr_more (l : List (RowE [.str])) (t : RowE tmS) : evFO T (Ep (Er_In)) (Ln (Lr_more)) Try.f70 [.app [.str] l, .val (.agg (rowD tmS t))] =
    br (t.fst != (4 : Int)) (some (SV.app [Sh.str] l, [])) (chk (l.length ≤ (140737488355328 : Nat)) (br (hasS l t.snd.fst) (some (SV.app [Sh.str] l, [])) (chk (((↑l.length : Int) + (↑[(t.snd.fst, ())].length : Int)) * (↑(16 : Nat) : Int) < lim) (some (SV.app [Sh.str] (l ++ [(t.snd.fst, ())]), []))))) := by kernel_rfl
theorem satr_more : SatO P 70 (Sr_more) := by
  refine sat_mkO (LT := Ln (Lr_more)) hC (SatE.ep okr_In) mixed Try.func70 (by kernel_rfl) (c := bodyOf Try.f70) (by kernel_rfl) (by kernel_rfl) ?_ (loops0 (by kernel_rfl))
  rintro ⟨(l : List (RowE [.str])), (t : RowE tmS), _⟩ sv h
  refine Leads.eq (Leads.of_eq (tr_more l t) ?_)
  obtain ⟨hl, h⟩ := h
  have h := Out_leaf h
  subst h
  refine Leads.brN (fun k => Leads.chk (by omega) fun _ => Leads.br (fun w => Leads.one ?_) (fun w => Leads.chk (by simp only [List.length_cons, List.length_nil, lim]; omega) fun _ => Leads.one ?_)) (fun k => Leads.one ?_)
  · rw [moreS_no (fun _ => w)]
  · rw [moreS_yes k w]
  · rw [moreS_no (fun z => absurd z k)]
def Er_more : Es := (70, .o (Sr_more)) :: Er_In
theorem okr_more : SatE P (En (Er_more)) := SatE.consO (satr_more) okr_In
/-! ### legation/legationref03.Vars -/
def Lr_Vars : Ls := []
def Sr_Vars := mkS [(true, t3S)] fun ⟨(t : RowE t3S), _⟩ => .leaf (.app [.str] (varsS t))
theorem tr_Vars (t : RowE t3S) : evF T (Ep (Er_more)) (Ln (Lr_Vars)) Try.f53 [.agg (rowD t3S t)] =
    chk ((List.nil (α := RowE [.int .u8])).length ≤ (1000000 : Nat)) (chk ((moreS [] (t.fst, t.snd.fst, t.snd.snd.fst, t.snd.snd.snd.fst, ())).length ≤ (1000000 : Nat)) (chk ((moreS (moreS [] (t.fst, t.snd.fst, t.snd.snd.fst, t.snd.snd.snd.fst, ())) (t.snd.snd.snd.snd.fst, t.snd.snd.snd.snd.snd.fst, t.snd.snd.snd.snd.snd.snd.fst, t.snd.snd.snd.snd.snd.snd.snd.fst, ())).length ≤ (1000000 : Nat)) (some (SV.app [Sh.str] (moreS (moreS (moreS [] (t.fst, t.snd.fst, t.snd.snd.fst, t.snd.snd.snd.fst, ())) (t.snd.snd.snd.snd.fst, t.snd.snd.snd.snd.snd.fst, t.snd.snd.snd.snd.snd.snd.fst, t.snd.snd.snd.snd.snd.snd.snd.fst, ())) t.snd.snd.snd.snd.snd.snd.snd.snd))))) := by kernel_rfl
theorem satr_Vars : Sat P 53 (Sr_Vars) := by
  refine sat_mk (LT := Ln (Lr_Vars)) hC (SatE.ep okr_more) mixed Try.func53 (by kernel_rfl) (c := bodyOf Try.f53) (by kernel_rfl) (by kernel_rfl) ?_ (loops0 (by kernel_rfl))
  rintro ⟨(t : RowE t3S), _⟩ sv h
  refine Leads.eq (Leads.of_eq (tr_Vars t) ?_)
  have h := Out_leaf h
  subst h
  have h1 := moreS_len [] (tS t)
  have h2 := moreS_len (moreS [] (tS t)) (tP t)
  simp only [List.length_nil] at h1
  exact Leads.chk (by decide) fun _ => Leads.chk (show (moreS [] (tS t)).length ≤ 1000000 by omega) fun _ => Leads.chk (show (moreS (moreS [] (tS t)) (tP t)).length ≤ 1000000 by omega) fun _ => Leads.one rfl
def Er_Vars : Es := (53, (Sr_Vars)) :: Er_more
theorem okr_Vars : SatE P (En (Er_Vars)) := SatE.cons (satr_Vars) okr_more
/-! ### legation/triples.Vars -/
def lst_Vars_0 : LoopS := mkU 4
def Lt_Vars : Ls := [(3, lst_Vars_0)]
def St_Vars := mkS [(true, t3S)] fun ⟨(t : RowE t3S), _⟩ => .leaf (.app [.str] (varsS t))
theorem tt_Vars (t : RowE t3S) : evF T (Ep (Er_Vars)) (Ln (Lt_Vars)) Try.f50 [.agg (rowD t3S t)] =
    chk ((0 : Int) ≤ (0 : Int) ∧ (0 : Int) < (↑(3 : Nat) : Int))
  (br (t.fst == (4 : Int))
    (chk ((List.nil (α := RowE [.int .u8])).length ≤ (140737488355328 : Nat))
      (br (!hasS [] t.snd.fst) (chk (((↑(List.nil (α := RowE [.int .u8])).length : Int) + (↑[(t.snd.fst, ())].length : Int)) * (↑(16 : Nat) : Int) < lim) (chk ((0 : Int) ≤ (1 : Int) ∧ (1 : Int) < (↑(3 : Nat) : Int)) (br (t.snd.snd.snd.snd.fst == (4 : Int)) (chk (([] ++ [(t.snd.fst, ())]).length ≤ (140737488355328 : Nat)) (br (!hasS ([] ++ [(t.snd.fst, ())]) t.snd.snd.snd.snd.snd.fst) (chk (((↑([] ++ [(t.snd.fst, ())]).length : Int) + (↑[(t.snd.snd.snd.snd.snd.fst, ())].length : Int)) * (↑(16 : Nat) : Int) < lim) (chk ((0 : Int) ≤ (2 : Int) ∧ (2 : Int) < (↑(3 : Nat) : Int)) (br (t.snd.snd.snd.snd.snd.snd.snd.snd.fst == (4 : Int)) (chk (([] ++ [(t.snd.fst, ())] ++ [(t.snd.snd.snd.snd.snd.fst, ())]).length ≤ (140737488355328 : Nat)) (br (!hasS ([] ++ [(t.snd.fst, ())] ++ [(t.snd.snd.snd.snd.snd.fst, ())]) t.snd.snd.snd.snd.snd.snd.snd.snd.snd.fst) (chk (((↑([] ++ [(t.snd.fst, ())] ++ [(t.snd.snd.snd.snd.snd.fst, ())]).length : Int) + (↑[(t.snd.snd.snd.snd.snd.snd.snd.snd.snd.fst, ())].length : Int)) * (↑(16 : Nat) : Int) < lim) (some (SV.app [Sh.str] ([] ++ [(t.snd.fst, ())] ++ [(t.snd.snd.snd.snd.snd.fst, ())] ++ [(t.snd.snd.snd.snd.snd.snd.snd.snd.snd.fst, ())])))) (some (SV.app [Sh.str] ([] ++ [(t.snd.fst, ())] ++ [(t.snd.snd.snd.snd.snd.fst, ())]))))) (some (SV.app [Sh.str] ([] ++ [(t.snd.fst, ())] ++ [(t.snd.snd.snd.snd.snd.fst, ())])))))) (chk ((0 : Int) ≤ (2 : Int) ∧ (2 : Int) < (↑(3 : Nat) : Int)) (br (t.snd.snd.snd.snd.snd.snd.snd.snd.fst == (4 : Int)) (chk (([] ++ [(t.snd.fst, ())]).length ≤ (140737488355328 : Nat)) (br (!hasS ([] ++ [(t.snd.fst, ())]) t.snd.snd.snd.snd.snd.snd.snd.snd.snd.fst) (chk (((↑([] ++ [(t.snd.fst, ())]).length : Int) + (↑[(t.snd.snd.snd.snd.snd.snd.snd.snd.snd.fst, ())].length : Int)) * (↑(16 : Nat) : Int) < lim) (some (SV.app [Sh.str] ([] ++ [(t.snd.fst, ())] ++ [(t.snd.snd.snd.snd.snd.snd.snd.snd.snd.fst, ())])))) (some (SV.app [Sh.str] ([] ++ [(t.snd.fst, ())]))))) (some (SV.app [Sh.str] ([] ++ [(t.snd.fst, ())]))))))) (chk ((0 : Int) ≤ (2 : Int) ∧ (2 : Int) < (↑(3 : Nat) : Int)) (br (t.snd.snd.snd.snd.snd.snd.snd.snd.fst == (4 : Int)) (chk (([] ++ [(t.snd.fst, ())]).length ≤ (140737488355328 : Nat)) (br (!hasS ([] ++ [(t.snd.fst, ())]) t.snd.snd.snd.snd.snd.snd.snd.snd.snd.fst) (chk (((↑([] ++ [(t.snd.fst, ())]).length : Int) + (↑[(t.snd.snd.snd.snd.snd.snd.snd.snd.snd.fst, ())].length : Int)) * (↑(16 : Nat) : Int) < lim) (some (SV.app [Sh.str] ([] ++ [(t.snd.fst, ())] ++ [(t.snd.snd.snd.snd.snd.snd.snd.snd.snd.fst, ())])))) (some (SV.app [Sh.str] ([] ++ [(t.snd.fst, ())]))))) (some (SV.app [Sh.str] ([] ++ [(t.snd.fst, ())]))))))))
        (chk ((0 : Int) ≤ (1 : Int) ∧ (1 : Int) < (↑(3 : Nat) : Int)) (br (t.snd.snd.snd.snd.fst == (4 : Int)) (chk ((List.nil (α := RowE [.int .u8])).length ≤ (140737488355328 : Nat)) (br (!hasS [] t.snd.snd.snd.snd.snd.fst) (chk (((↑(List.nil (α := RowE [.int .u8])).length : Int) + (↑[(t.snd.snd.snd.snd.snd.fst, ())].length : Int)) * (↑(16 : Nat) : Int) < lim) (chk ((0 : Int) ≤ (2 : Int) ∧ (2 : Int) < (↑(3 : Nat) : Int)) (br (t.snd.snd.snd.snd.snd.snd.snd.snd.fst == (4 : Int)) (chk (([] ++ [(t.snd.snd.snd.snd.snd.fst, ())]).length ≤ (140737488355328 : Nat)) (br (!hasS ([] ++ [(t.snd.snd.snd.snd.snd.fst, ())]) t.snd.snd.snd.snd.snd.snd.snd.snd.snd.fst) (chk (((↑([] ++ [(t.snd.snd.snd.snd.snd.fst, ())]).length : Int) + (↑[(t.snd.snd.snd.snd.snd.snd.snd.snd.snd.fst, ())].length : Int)) * (↑(16 : Nat) : Int) < lim) (some (SV.app [Sh.str] ([] ++ [(t.snd.snd.snd.snd.snd.fst, ())] ++ [(t.snd.snd.snd.snd.snd.snd.snd.snd.snd.fst, ())])))) (some (SV.app [Sh.str] ([] ++ [(t.snd.snd.snd.snd.snd.fst, ())]))))) (some (SV.app [Sh.str] ([] ++ [(t.snd.snd.snd.snd.snd.fst, ())])))))) (chk ((0 : Int) ≤ (2 : Int) ∧ (2 : Int) < (↑(3 : Nat) : Int)) (br (t.snd.snd.snd.snd.snd.snd.snd.snd.fst == (4 : Int)) (chk ((List.nil (α := RowE [.int .u8])).length ≤ (140737488355328 : Nat)) (br (!hasS [] t.snd.snd.snd.snd.snd.snd.snd.snd.snd.fst) (chk (((↑(List.nil (α := RowE [.int .u8])).length : Int) + (↑[(t.snd.snd.snd.snd.snd.snd.snd.snd.snd.fst, ())].length : Int)) * (↑(16 : Nat) : Int) < lim) (some (SV.app [Sh.str] ([] ++ [(t.snd.snd.snd.snd.snd.snd.snd.snd.snd.fst, ())])))) (some (SV.app [Sh.str] [])))) (some (SV.app [Sh.str] [])))))) (chk ((0 : Int) ≤ (2 : Int) ∧ (2 : Int) < (↑(3 : Nat) : Int)) (br (t.snd.snd.snd.snd.snd.snd.snd.snd.fst == (4 : Int)) (chk ((List.nil (α := RowE [.int .u8])).length ≤ (140737488355328 : Nat)) (br (!hasS [] t.snd.snd.snd.snd.snd.snd.snd.snd.snd.fst) (chk (((↑(List.nil (α := RowE [.int .u8])).length : Int) + (↑[(t.snd.snd.snd.snd.snd.snd.snd.snd.snd.fst, ())].length : Int)) * (↑(16 : Nat) : Int) < lim) (some (SV.app [Sh.str] ([] ++ [(t.snd.snd.snd.snd.snd.snd.snd.snd.snd.fst, ())])))) (some (SV.app [Sh.str] [])))) (some (SV.app [Sh.str] []))))))))
    (chk ((0 : Int) ≤ (1 : Int) ∧ (1 : Int) < (↑(3 : Nat) : Int)) (br (t.snd.snd.snd.snd.fst == (4 : Int)) (chk ((List.nil (α := RowE [.int .u8])).length ≤ (140737488355328 : Nat)) (br (!hasS [] t.snd.snd.snd.snd.snd.fst) (chk (((↑(List.nil (α := RowE [.int .u8])).length : Int) + (↑[(t.snd.snd.snd.snd.snd.fst, ())].length : Int)) * (↑(16 : Nat) : Int) < lim) (chk ((0 : Int) ≤ (2 : Int) ∧ (2 : Int) < (↑(3 : Nat) : Int)) (br (t.snd.snd.snd.snd.snd.snd.snd.snd.fst == (4 : Int)) (chk (([] ++ [(t.snd.snd.snd.snd.snd.fst, ())]).length ≤ (140737488355328 : Nat)) (br (!hasS ([] ++ [(t.snd.snd.snd.snd.snd.fst, ())]) t.snd.snd.snd.snd.snd.snd.snd.snd.snd.fst) (chk (((↑([] ++ [(t.snd.snd.snd.snd.snd.fst, ())]).length : Int) + (↑[(t.snd.snd.snd.snd.snd.snd.snd.snd.snd.fst, ())].length : Int)) * (↑(16 : Nat) : Int) < lim) (some (SV.app [Sh.str] ([] ++ [(t.snd.snd.snd.snd.snd.fst, ())] ++ [(t.snd.snd.snd.snd.snd.snd.snd.snd.snd.fst, ())])))) (some (SV.app [Sh.str] ([] ++ [(t.snd.snd.snd.snd.snd.fst, ())]))))) (some (SV.app [Sh.str] ([] ++ [(t.snd.snd.snd.snd.snd.fst, ())])))))) (chk ((0 : Int) ≤ (2 : Int) ∧ (2 : Int) < (↑(3 : Nat) : Int)) (br (t.snd.snd.snd.snd.snd.snd.snd.snd.fst == (4 : Int)) (chk ((List.nil (α := RowE [.int .u8])).length ≤ (140737488355328 : Nat)) (br (!hasS [] t.snd.snd.snd.snd.snd.snd.snd.snd.snd.fst) (chk (((↑(List.nil (α := RowE [.int .u8])).length : Int) + (↑[(t.snd.snd.snd.snd.snd.snd.snd.snd.snd.fst, ())].length : Int)) * (↑(16 : Nat) : Int) < lim) (some (SV.app [Sh.str] ([] ++ [(t.snd.snd.snd.snd.snd.snd.snd.snd.snd.fst, ())])))) (some (SV.app [Sh.str] [])))) (some (SV.app [Sh.str] [])))))) (chk ((0 : Int) ≤ (2 : Int) ∧ (2 : Int) < (↑(3 : Nat) : Int)) (br (t.snd.snd.snd.snd.snd.snd.snd.snd.fst == (4 : Int)) (chk ((List.nil (α := RowE [.int .u8])).length ≤ (140737488355328 : Nat)) (br (!hasS [] t.snd.snd.snd.snd.snd.snd.snd.snd.snd.fst) (chk (((↑(List.nil (α := RowE [.int .u8])).length : Int) + (↑[(t.snd.snd.snd.snd.snd.snd.snd.snd.snd.fst, ())].length : Int)) * (↑(16 : Nat) : Int) < lim) (some (SV.app [Sh.str] ([] ++ [(t.snd.snd.snd.snd.snd.snd.snd.snd.snd.fst, ())])))) (some (SV.app [Sh.str] [])))) (some (SV.app [Sh.str] []))))))) := by kernel_rfl
theorem satt_Vars : Sat P 50 (St_Vars) := by
  refine sat_mk (LT := Ln (Lt_Vars)) hC (SatE.ep okr_Vars) mixed Try.func50 (by kernel_rfl) (c := bodyOf Try.f50) (by kernel_rfl) (by kernel_rfl) ?_ (loops1 (by kernel_rfl) (loopU (n := 4) (c := loopAt 0 (loops (bodyOf Try.f50))) (by kernel_rfl)))
  rintro ⟨(t : RowE t3S), _⟩ sv h
  refine Leads.eq (Leads.of_eq (tt_Vars t) ?_)
  have h := Out_leaf h
  subst h
  have e0 : ∀ a, hasS [] a = false := fun _ => rfl
  repeat' (first | refine Leads.brD (fun _ => ?_) (fun _ => ?_) | refine Leads.brE (fun _ => ?_) (fun _ => ?_) | refine Leads.brN (fun _ => ?_) (fun _ => ?_) | refine Leads.brM (fun _ => ?_) (fun _ => ?_) | refine Leads.brG (fun _ => ?_) (fun _ => ?_) | refine Leads.br (fun _ => ?_) (fun _ => ?_) | refine Leads.chk ?_ (fun _ => ?_) | refine Leads.one ?_ | refine Leads.brP (fun _ => ?_) (fun _ => ?_))
  all_goals first | decide | (simp only [List.length_append, List.length_cons, List.length_nil, lim]; omega) | skip
  all_goals (refine congrArg (SV.app [.str]) ?_; simp_all [varsS, moreS, tS, tP, tO])
def Et_Vars : Es := (50, (St_Vars)) :: Er_Vars
theorem okt_Vars : SatE P (En (Et_Vars)) := SatE.cons (satt_Vars) okr_Vars

end Go.Proofs.Ytgcjhcefpkbheaa.T20
end
