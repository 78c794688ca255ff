/- Part of a proof of the seat's statements: no statement by itself. -/
import Derived.Test.YtfpojhphmgnfhaaLgF
import Derived.Test.YtfpojhphmgnfhaaChecked
import Derived.Laws.RangeString
section
set_option maxRecDepth 100000
namespace Go.Proofs.Ytfpojhphmgnfhaa.T7
open Go.Proofs.Ytfpojhphmgnfhaa.Lg Go Go.Proofs.Ytfpojhphmgnfhaa.Sp
open Go.Proofs
def T : Tab := [(2, { sh := [.int .i64] }),
  (3, { sh := [.int .i64] }),
  (4, { sh := [.bool] }),
  (5, { sh := [.int .u8] }),
  (8, { agg := true, sh := [.int .i64, .int .i64, .bool, .int .u8], flds := [(0, 1), (1, 1), (2, 1), (3, 1)], ftys := [2, 3, 4, 6] }),
  (9, { sh := [.str] }),
  (10, { sh := [.str] }),
  (11, { sh := [.str] }),
  (14, { agg := true, sh := [.str, .int .u64], flds := [(0, 1), (1, 1)], ftys := [9, 12] }),
  (22, { sh := [.sl [.int .i64, .str, .str, .str, .int .i64, .str, .str, .str, .int .i64, .str, .str, .str]], es := [.int .i64, .str, .str, .str, .int .i64, .str, .str, .str, .int .i64, .str, .str, .str], eb := 168 }),
  (23, { sh := [.sl [.str]], es := [.str], eb := 16 }),
  (24, { sh := [.sl [.sl [.int .i64, .str, .str, .str]]], es := [.sl [.int .i64, .str, .str, .str]], eb := 24 }),
  (26, { agg := true, sh := [.sl [.str], .sl [.sl [.int .i64, .str, .str, .str]]], flds := [(0, 1), (1, 1)], ftys := [23, 24] }),
  (27, { sh := [.sl [.int .i64, .int .i64, .str, .str, .str, .str, .int .i64]], es := [.int .i64, .int .i64, .str, .str, .str, .str, .int .i64], eb := 88 }),
  (29, { agg := true, sh := [.int .i64, .sl [.int .i64, .str, .str, .str, .int .i64, .str, .str, .str, .int .i64, .str, .str, .str], .sl [.str], .sl [.sl [.int .i64, .str, .str, .str]], .sl [.int .i64, .int .i64, .str, .str, .str, .str, .int .i64], .str, .bool], flds := [(0, 1), (1, 1), (2, 2), (4, 1), (5, 1), (6, 1)], ftys := [3, 22, 26, 27, 9, 4] }),
  (33, { sh := [.sl [.int .i64, .sl [.int .i64, .str, .str, .str, .int .i64, .str, .str, .str, .int .i64, .str, .str, .str], .sl [.str], .sl [.sl [.int .i64, .str, .str, .str]], .sl [.int .i64, .int .i64, .str, .str, .str, .str, .int .i64], .str, .bool]], es := [.int .i64, .sl [.int .i64, .str, .str, .str, .int .i64, .str, .str, .str, .int .i64, .str, .str, .str], .sl [.str], .sl [.sl [.int .i64, .str, .str, .str]], .sl [.int .i64, .int .i64, .str, .str, .str, .str, .int .i64], .str, .bool], eb := 128 }),
  (35, { sh := [.int .i64] }),
  (52, { agg := true, sh := [.int .i64, .str, .str, .str], flds := [(0, 1), (1, 1), (2, 1), (3, 1)], ftys := [3, 9, 9, 9], eq := true }),
  (55, { agg := true, sh := [.int .i64, .str, .str, .str, .int .i64, .str, .str, .str, .int .i64, .str, .str, .str], flds := [(0, 4), (4, 4), (8, 4)], ftys := [52, 52, 52], eq := true }),
  (56, { sh := [.mp .str false [.bool]], mp := some (9, 4) }),
  (57, { sh := [.mp .str false [.bool]], mp := some (9, 4) }),
  (59, { agg := true, sh := [.mp .str false [.bool], .int .i64, .bool], flds := [(0, 1), (1, 1), (2, 1)], ftys := [57, 3, 4] }),
  (64, { sh := [.sl [.mp .str false [.bool], .int .i64, .bool]], es := [.mp .str false [.bool], .int .i64, .bool], eb := 24 }),
  (68, { agg := true, sh := [.int .i64, .int .i64, .str, .str, .str, .str, .int .i64], flds := [(0, 1), (1, 4), (5, 1), (6, 1)], ftys := [3, 52, 9, 3], eq := true }),
  (72, { sh := [.sl [.int .i64, .str, .str, .str]], es := [.int .i64, .str, .str, .str], eb := 56 }),
  (80, { sh := [.int .u64] }),
  (92, { sh := [.int .i64] }),
  (101, { sh := [.int .u32] }),
  (103, { sh := [.int .u64] }),
  (107, { agg := true, sh := [.int .i64, .str, .str, .str, .int .i64, .str, .str, .str, .int .i64, .str, .str, .str], arr := some (3, 4), ftys := [52], eq := true }),
  (109, { sh := [.int .u64] })]
noncomputable abbrev P := Try.prog
theorem hC : Cx P T := Cx.mk' (by kernel_rfl) (by kernel_rfl)
theorem mixed : P.follows .mixedOrders = true := Try.checked.mixed
abbrev str : Bool × List Sh := (false, [.str])
abbrev byt : Bool × List Sh := (false, [.int .u8])
abbrev int : Bool × List Sh := (false, [.int .i64])
abbrev trm : Bool × List Sh := (true, [.int .i64, .str, .str, .str])
def bl (b : Bool) : Tr SV := .leaf (.val (.d (.bool b)))
def ii (n : Int) : Tr SV := .leaf (.val (.d (.int .i64 n)))

def E00 : Es := []
theorem ok00 : SatE P (En E00) := SatE.nil
end Go.Proofs.Ytfpojhphmgnfhaa.T7
end

section
set_option maxRecDepth 100000
open Go.Proofs.Ytfpojhphmgnfhaa.Lg Go Go.Proofs.Ytfpojhphmgnfhaa.Sp
open Go.Proofs
namespace Go.Proofs.Ytfpojhphmgnfhaa.T7
attribute [local simp] letterI digitI nameI badI iriI textI lowI

/-! ### function 45 -/
def S45 := mkS [byt] fun ⟨⟨(c : Int), _⟩, _⟩ => bl (letterI c)
def L45 : Ls := []
theorem t45 (c : Int) : evF T (En (E00)) (Ln L45) Try.f67 [.d (.int .u8 c)] =
    br (decide (c ≥ (97 : Int))) (br (decide (c ≤ (122 : Int))) (some (SV.val (AV.d (D.bool true)))) (br (decide (c ≥ (65 : Int))) (some (SV.val (AV.d (D.bool (decide (c ≤ (90 : Int))))))) (some (SV.val (AV.d (D.bool false)))))) (br (decide (c ≥ (65 : Int))) (some (SV.val (AV.d (D.bool (decide (c ≤ (90 : Int))))))) (some (SV.val (AV.d (D.bool false))))) := by kernel_rfl

theorem sat45 : Sat P 67 (S45) := by
  refine sat_mk (LT := Ln L45) hC ok00 mixed Try.func67 (by kernel_rfl) (c := bodyOf Try.f67) (by kernel_rfl) (by kernel_rfl) ?_ (loops0 (by kernel_rfl))
  rintro ⟨⟨(c : Int), _⟩, _⟩ sv h
  obtain rfl := Out_leaf h
  refine (t45 c).trans ?_
  repeat' (refine br_eq (fun _ => ?_) (fun _ => ?_))
  all_goals (refine vb_eq ?_; rw [Bool.eq_iff_iff]; simp at *; omega)
def E45 : Es := (67, S45) :: E00
theorem ok45 : SatE P (En E45) := SatE.cons sat45 ok00
/-! ### function 46 -/
def S46 := mkS [byt] fun ⟨⟨(c : Int), _⟩, _⟩ => bl (digitI c)
def L46 : Ls := []
theorem t46 (c : Int) : evF T (En (E45)) (Ln L46) Try.f68 [.d (.int .u8 c)] =
    br (decide (c ≥ (48 : Int))) (some (SV.val (AV.d (D.bool (decide (c ≤ (57 : Int))))))) (some (SV.val (AV.d (D.bool false)))) := by kernel_rfl

theorem sat46 : Sat P 68 (S46) := by
  refine sat_mk (LT := Ln L46) hC ok45 mixed Try.func68 (by kernel_rfl) (c := bodyOf Try.f68) (by kernel_rfl) (by kernel_rfl) ?_ (loops0 (by kernel_rfl))
  rintro ⟨⟨(c : Int), _⟩, _⟩ sv h
  obtain rfl := Out_leaf h
  refine (t46 c).trans ?_
  repeat' (refine br_eq (fun _ => ?_) (fun _ => ?_))
  all_goals (refine vb_eq ?_; rw [Bool.eq_iff_iff]; simp at *; omega)
def E46 : Es := (68, S46) :: E45
theorem ok46 : SatE P (En E46) := SatE.cons sat46 ok45
/-! ### function 43 -/
def S43 := mkS [byt] fun ⟨⟨(c : Int), _⟩, _⟩ => bl (iriI c)
def L43 : Ls := []
theorem t43 (c : Int) : evF T (En (E46)) (Ln L43) Try.f69 [.d (.int .u8 c)] =
    br (c == (60 : Int)) (some (SV.val (AV.d (D.bool false)))) (br (c == (62 : Int)) (br (c == (62 : Int)) (some (SV.val (AV.d (D.bool false)))) (br (decide (c ≥ (33 : Int))) (some (SV.val (AV.d (D.bool (decide (c ≤ (126 : Int))))))) (some (SV.val (AV.d (D.bool false)))))) (br (c == (34 : Int)) (br (c == (34 : Int)) (some (SV.val (AV.d (D.bool false)))) (br (decide (c ≥ (33 : Int))) (some (SV.val (AV.d (D.bool (decide (c ≤ (126 : Int))))))) (some (SV.val (AV.d (D.bool false)))))) (br (c == (123 : Int)) (br (c == (123 : Int)) (some (SV.val (AV.d (D.bool false)))) (br (decide (c ≥ (33 : Int))) (some (SV.val (AV.d (D.bool (decide (c ≤ (126 : Int))))))) (some (SV.val (AV.d (D.bool false)))))) (br (c == (125 : Int)) (br (c == (125 : Int)) (some (SV.val (AV.d (D.bool false)))) (br (decide (c ≥ (33 : Int))) (some (SV.val (AV.d (D.bool (decide (c ≤ (126 : Int))))))) (some (SV.val (AV.d (D.bool false)))))) (br (c == (124 : Int)) (br (c == (124 : Int)) (some (SV.val (AV.d (D.bool false)))) (br (decide (c ≥ (33 : Int))) (some (SV.val (AV.d (D.bool (decide (c ≤ (126 : Int))))))) (some (SV.val (AV.d (D.bool false)))))) (br (c == (94 : Int)) (br (c == (94 : Int)) (some (SV.val (AV.d (D.bool false)))) (br (decide (c ≥ (33 : Int))) (some (SV.val (AV.d (D.bool (decide (c ≤ (126 : Int))))))) (some (SV.val (AV.d (D.bool false)))))) (br (c == (96 : Int)) (br (c == (96 : Int)) (some (SV.val (AV.d (D.bool false)))) (br (decide (c ≥ (33 : Int))) (some (SV.val (AV.d (D.bool (decide (c ≤ (126 : Int))))))) (some (SV.val (AV.d (D.bool false)))))) (br (c == (92 : Int)) (some (SV.val (AV.d (D.bool false)))) (br (decide (c ≥ (33 : Int))) (some (SV.val (AV.d (D.bool (decide (c ≤ (126 : Int))))))) (some (SV.val (AV.d (D.bool false))))))))))))) := by kernel_rfl

theorem sat43 : Sat P 69 (S43) := by
  refine sat_mk (LT := Ln L43) hC ok46 mixed Try.func69 (by kernel_rfl) (c := bodyOf Try.f69) (by kernel_rfl) (by kernel_rfl) ?_ (loops0 (by kernel_rfl))
  rintro ⟨⟨(c : Int), _⟩, _⟩ sv h
  obtain rfl := Out_leaf h
  refine (t43 c).trans ?_
  repeat' (refine br_eq (fun _ => ?_) (fun _ => ?_))
  all_goals (refine vb_eq ?_; rw [Bool.eq_iff_iff]; simp at *; omega)
def E43 : Es := (69, S43) :: E46
theorem ok43 : SatE P (En E43) := SatE.cons sat43 ok46
/-! ### function 26 -/
def lf26_0 : St [.v false [.str], .v false [.int .i64]] → Tr (Ex × List SV) := fun ⟨⟨(s : List UInt8), _⟩, ⟨(n : Int), _⟩, _⟩ => .chk (0 ≤ n ∧ n ≤ (s.length : Int) ∧ s.length ≤ Big) (.br (allI textI (s.drop n.toNat)) (.leaf (.exit 0, [.unk])) (.leaf (.ret, [.val (.d (.bool false))])))
def ls26_0 : LoopS := mkL [0, 3] [2] [.v false [.str], .v false [.int .i64]] lf26_0
def S26 := mkS [str] fun ⟨⟨(s : List UInt8), _⟩, _⟩ => .chk (s.length ≤ Big) (bl (isText s))
def L26 : Ls := [(4, ls26_0)]
theorem lt26_0 (s : List UInt8) (n : Int) : evRound T (En (E43)) (Ln L26) (loopAt 0 (loops (bodyOf Try.f47))) ls26_0 [.val (.d (.str s)), .val (.d (.int .i64 n))] =
    br (decide (n < (↑s.length : Int))) (chk ((0 : Int) ≤ n ∧ n < (↑s.length : Int)) (br (decide (byteAt s n < (32 : Int))) (chk ((0 : Int) ≤ n ∧ n < (↑s.length : Int)) (br (byteAt s n != (10 : Int)) (chk ((0 : Int) ≤ n ∧ n < (↑s.length : Int)) (br (byteAt s n != (9 : Int)) (some (Rnd.out Ex.ret [SV.val (AV.d (D.bool false))])) (some (Rnd.again [SV.val (AV.d (D.str s)), SV.val (AV.d (D.int IntKind.i64 (IntKind.i64.wrap (n + (1 : Int)))))])))) (some (Rnd.again [SV.val (AV.d (D.str s)), SV.val (AV.d (D.int IntKind.i64 (IntKind.i64.wrap (n + (1 : Int)))))])))) (chk ((0 : Int) ≤ n ∧ n < (↑s.length : Int)) (br (decide (byteAt s n > (126 : Int))) (chk ((0 : Int) ≤ n ∧ n < (↑s.length : Int)) (br (byteAt s n != (10 : Int)) (chk ((0 : Int) ≤ n ∧ n < (↑s.length : Int)) (br (byteAt s n != (9 : Int)) (some (Rnd.out Ex.ret [SV.val (AV.d (D.bool false))])) (some (Rnd.again [SV.val (AV.d (D.str s)), SV.val (AV.d (D.int IntKind.i64 (IntKind.i64.wrap (n + (1 : Int)))))])))) (some (Rnd.again [SV.val (AV.d (D.str s)), SV.val (AV.d (D.int IntKind.i64 (IntKind.i64.wrap (n + (1 : Int)))))])))) (some (Rnd.again [SV.val (AV.d (D.str s)), SV.val (AV.d (D.int IntKind.i64 (IntKind.i64.wrap (n + (1 : Int)))))])))))) (some (Rnd.out (Ex.exit (0 : Nat)) [SV.unk])) := by kernel_rfl
theorem lok26_0 : LoopOK T (En (E43)) (Ln L26) (loopAt 0 (loops (bodyOf Try.f47))) := by
  refine loopOK (live := [0, 3]) (outs := [2]) (ks := [.v false [.str], .v false [.int .i64]]) (f := lf26_0) (by kernel_rfl) ?_
  rintro ⟨⟨(s : List UInt8), _⟩, ⟨(n : Int), _⟩, _⟩ x h
  obtain ⟨⟨h0, h1, h2⟩, h⟩ := h
  have key := each_loop (T := T) (E := En E43) (LT := Ln L26) (c := loopAt 0 (loops (bodyOf Try.f47))) (ls := ls26_0) (s := s) (fun n => [.val (.d (.str s)), .val (.d (.int .i64 n))]) textI (fun _ => (.ret, [.val (.d (.bool false))])) (.exit 0, [.unk])
    (Lg.Ends.out ((lt26_0 s _).trans (br_eq (fun q => by simp at q) (fun _ => rfl))))
    (fun m b hm hb hd hp => Lg.Ends.out ((lt26_0 s _).trans (by
      rw [hb]
      repeat' (first | refine br_eq (fun _ => ?_) (fun _ => ?_) | refine chk_eq ?_ ?_)
      all_goals first | rfl | (exfalso; simp at *; omega) | omega)))
    (fun m b hm hb hp => (lt26_0 s _).trans (by
      rw [hb, wrap64 (by omega) (by rw [Big_eq] at h2; omega)]
      repeat' (first | refine br_eq (fun _ => ?_) (fun _ => ?_) | refine chk_eq ?_ ?_)
      all_goals first | rfl | (exfalso; simp at *; omega) | omega)) n.toNat (by omega)
  rw [Int.toNat_of_nonneg h0] at key
  rcases Out_br h with ⟨hp, h⟩ | ⟨hp, h⟩
  · rw [hp, if_pos rfl] at key; obtain rfl := Out_leaf h; exact key
  · rw [hp, if_neg (by simp)] at key; obtain rfl := Out_leaf h; exact key
theorem t26 (s : List UInt8) : evF T (En (E43)) (Ln L26) Try.f47 [.d (.str s)] =
    br (decide ((↑s.length : Int) > (4096 : Int))) (some (SV.val (AV.d (D.bool false)))) (chk ((0 : Int) ≤ (0 : Int) ∧ (0 : Int) ≤ (↑s.length : Int) ∧ s.length ≤ Big) (br (allI textI (List.drop (Int.toNat (0 : Int)) s)) (some (SV.val (AV.d (D.bool true)))) (some (SV.val (AV.d (D.bool false)))))) := by kernel_rfl

theorem sat26 : Sat P 47 (S26) := by
  refine sat_mk (LT := Ln L26) hC ok43 mixed Try.func47 (by kernel_rfl) (c := bodyOf Try.f47) (by kernel_rfl) (by kernel_rfl) ?_ (loops1 (by kernel_rfl) lok26_0)
  rintro ⟨⟨(s : List UInt8), _⟩, _⟩ sv h
  obtain ⟨hs, h⟩ := h
  obtain rfl := Out_leaf h
  refine (t26 s).trans ?_
  simp only [isText]
  repeat' (first | refine br_eq (fun _ => ?_) (fun _ => ?_) | refine chk_eq ?_ ?_)
  all_goals first | (simp_all; omega) | simp_all
def E26 : Es := (47, S26) :: E43
theorem ok26 : SatE P (En E26) := SatE.cons sat26 ok43
/-! ### function 27 -/
def lf27_0 : St [.v false [.str], .v false [.int .i64]] → Tr (Ex × List SV) := fun ⟨⟨(s : List UInt8), _⟩, ⟨(n : Int), _⟩, _⟩ => .chk (0 ≤ n ∧ n ≤ (s.length : Int) ∧ s.length ≤ Big) (.br (allI lowI (s.drop n.toNat)) (.leaf (.exit 0, [.unk])) (.leaf (.ret, [.val (.d (.bool false))])))
def ls27_0 : LoopS := mkL [0, 3] [2] [.v false [.str], .v false [.int .i64]] lf27_0
def S27 := mkS [str] fun ⟨⟨(s : List UInt8), _⟩, _⟩ => .chk (s.length ≤ Big) (bl (isLang s))
def L27 : Ls := [(4, ls27_0)]
theorem lt27_0 (s : List UInt8) (n : Int) : evRound T (En (E26)) (Ln L27) (loopAt 0 (loops (bodyOf Try.f48))) ls27_0 [.val (.d (.str s)), .val (.d (.int .i64 n))] =
    br (decide (n < (↑s.length : Int))) (chk ((0 : Int) ≤ n ∧ n < (↑s.length : Int)) (br (decide (byteAt s n < (97 : Int))) (some (Rnd.out Ex.ret [SV.val (AV.d (D.bool false))])) (chk ((0 : Int) ≤ n ∧ n < (↑s.length : Int)) (br (decide (byteAt s n > (122 : Int))) (some (Rnd.out Ex.ret [SV.val (AV.d (D.bool false))])) (some (Rnd.again [SV.val (AV.d (D.str s)), SV.val (AV.d (D.int IntKind.i64 (IntKind.i64.wrap (n + (1 : Int)))))])))))) (some (Rnd.out (Ex.exit (0 : Nat)) [SV.unk])) := by kernel_rfl
theorem lok27_0 : LoopOK T (En (E26)) (Ln L27) (loopAt 0 (loops (bodyOf Try.f48))) := by
  refine loopOK (live := [0, 3]) (outs := [2]) (ks := [.v false [.str], .v false [.int .i64]]) (f := lf27_0) (by kernel_rfl) ?_
  rintro ⟨⟨(s : List UInt8), _⟩, ⟨(n : Int), _⟩, _⟩ x h
  obtain ⟨⟨h0, h1, h2⟩, h⟩ := h
  have key := each_loop (T := T) (E := En E26) (LT := Ln L27) (c := loopAt 0 (loops (bodyOf Try.f48))) (ls := ls27_0) (s := s) (fun n => [.val (.d (.str s)), .val (.d (.int .i64 n))]) lowI (fun _ => (.ret, [.val (.d (.bool false))])) (.exit 0, [.unk])
    (Lg.Ends.out ((lt27_0 s _).trans (br_eq (fun q => by simp at q) (fun _ => rfl))))
    (fun m b hm hb hd hp => Lg.Ends.out ((lt27_0 s _).trans (by
      rw [hb]
      repeat' (first | refine br_eq (fun _ => ?_) (fun _ => ?_) | refine chk_eq ?_ ?_)
      all_goals first | rfl | (exfalso; simp at *; omega) | omega)))
    (fun m b hm hb hp => (lt27_0 s _).trans (by
      rw [hb, wrap64 (by omega) (by rw [Big_eq] at h2; omega)]
      repeat' (first | refine br_eq (fun _ => ?_) (fun _ => ?_) | refine chk_eq ?_ ?_)
      all_goals first | rfl | (exfalso; simp at *; omega) | omega)) n.toNat (by omega)
  rw [Int.toNat_of_nonneg h0] at key
  rcases Out_br h with ⟨hp, h⟩ | ⟨hp, h⟩
  · rw [hp, if_pos rfl] at key; obtain rfl := Out_leaf h; exact key
  · rw [hp, if_neg (by simp)] at key; obtain rfl := Out_leaf h; exact key
theorem t27 (s : List UInt8) : evF T (En (E26)) (Ln L27) Try.f48 [.d (.str s)] =
    br (s == []) (some (SV.val (AV.d (D.bool false)))) (br (decide ((↑s.length : Int) > (8 : Int))) (some (SV.val (AV.d (D.bool false)))) (chk ((0 : Int) ≤ (0 : Int) ∧ (0 : Int) ≤ (↑s.length : Int) ∧ s.length ≤ Big) (br (allI lowI (List.drop (Int.toNat (0 : Int)) s)) (some (SV.val (AV.d (D.bool true)))) (some (SV.val (AV.d (D.bool false))))))) := by kernel_rfl

theorem sat27 : Sat P 48 (S27) := by
  refine sat_mk (LT := Ln L27) hC ok26 mixed Try.func48 (by kernel_rfl) (c := bodyOf Try.f48) (by kernel_rfl) (by kernel_rfl) ?_ (loops1 (by kernel_rfl) lok27_0)
  rintro ⟨⟨(s : List UInt8), _⟩, _⟩ sv h
  obtain ⟨hs, h⟩ := h
  obtain rfl := Out_leaf h
  refine (t27 s).trans ?_
  simp only [isLang]
  repeat' (first | refine br_eq (fun _ => ?_) (fun _ => ?_) | refine chk_eq ?_ ?_)
  all_goals first | (simp_all; omega) | simp_all
def E27 : Es := (48, S27) :: E26
theorem ok27 : SatE P (En E27) := SatE.cons sat27 ok26
/-! ### function 25 -/
def lf25_0 : St [.v false [.str], .sit] → Tr (Ex × List SV) := fun ⟨⟨(s : List UInt8), _⟩, ((s2 : List UInt8), (n : Nat)), _⟩ => .chk (s2 = s ∧ n ≤ s.length) (.br (allI iriI (s.drop n)) (.leaf (.exit 0, [.unk])) (.leaf (.ret, [.val (.d (.bool false))])))
def ls25_0 : LoopS := mkL [0, 12] [2] [.v false [.str], .sit] lf25_0
def S25 := mkS [str] fun ⟨⟨(s : List UInt8), _⟩, _⟩ => .chk (s.length ≤ Big) (bl (isIri s))
def L25 : Ls := [(4, ls25_0)]
theorem lt25_0 (s : List UInt8) (n : Nat) : evRound T (En (E27)) (Ln L25) (loopAt 0 (loops (bodyOf Try.f46))) ls25_0 [.val (.d (.str s)), .sit s n] =
    brP (n < s.length) (chk ((0 : Int) ≤ (↑n : Int) ∧ (↑n : Int) < (↑s.length : Int)) (br (!iriI (byteAt s (↑n : Int))) (some (Rnd.out Ex.ret [SV.val (AV.d (D.bool false))])) (some (Rnd.again [SV.val (AV.d (D.str s)), SV.sit s (n + (Utf8.decode { data := s.toArray } n).snd)])))) (some (Rnd.out (Ex.exit (0 : Nat)) [SV.unk])) := by kernel_rfl
theorem lok25_0 : LoopOK T (En (E27)) (Ln L25) (loopAt 0 (loops (bodyOf Try.f46))) := by
  refine loopOK (live := [0, 12]) (outs := [2]) (ks := [.v false [.str], .sit]) (f := lf25_0) (by kernel_rfl) ?_
  rintro ⟨⟨(s : List UInt8), _⟩, ⟨(s2 : List UInt8), (n : Nat)⟩, _⟩ x h
  obtain ⟨⟨h0, h1⟩, h⟩ := h
  subst h0
  have key := each_loop (T := T) (E := En E27) (LT := Ln L25) (c := loopAt 0 (loops (bodyOf Try.f46))) (ls := ls25_0) (s := s2) (fun n => [.val (.d (.str s2)), .sit s2 n.toNat]) iriI (fun _ => (.ret, [.val (.d (.bool false))])) (.exit 0, [.unk])
    (Lg.Ends.out ((lt25_0 s2 _).trans (brP_eq (fun q => by simp at q) (fun _ => rfl))))
    (fun m b hm hb hd hp => Lg.Ends.out ((lt25_0 s2 _).trans (by
      simp only [Int.toNat_natCast]
      rw [hb]
      exact brP_eq (fun _ => chk_eq (by omega) (br_eq (fun _ => rfl) (fun q => by rw [hp] at q; cases q))) (fun q => absurd hm q))))
    (fun m b hm hb hp => (lt25_0 s2 _).trans (by
      simp only [Int.toNat_natCast]
      have hdec : (Utf8.decode { data := s2.toArray } m).2 = 1 := by
        obtain ⟨b', _, hb', hg⟩ := byteAt_drop hm
        rw [hb] at hb'
        have hsz : m < (ByteArray.mk s2.toArray).size := by show m < s2.toArray.size; simpa using hm
        rw [decode_ascii _ m hsz]
        have hg2 : (ByteArray.mk s2.toArray)[m]'hsz = s2[m] := rfl
        rw [hg2]
        have : s2[m] = b' := by have := List.getElem?_eq_some_iff.1 hg; exact this.2
        rw [this]
        have hp2 : u b ≤ 126 := by simp only [iriI, Bool.and_eq_true, decide_eq_true_eq] at hp; exact hp.2
        rw [hb'] at hp2
        omega
      rw [hb, hdec]
      refine brP_eq (fun _ => chk_eq (by omega) (br_eq (fun q => by rw [hp] at q; cases q) (fun _ => ?_))) (fun q => absurd hm q)
      rfl)) n h1
  simp only [Int.toNat_natCast] at key
  rcases Out_br h with ⟨hp, h⟩ | ⟨hp, h⟩
  · rw [hp, if_pos rfl] at key; obtain rfl := Out_leaf h; exact key
  · rw [hp, if_neg (by simp)] at key; obtain rfl := Out_leaf h; exact key
theorem t25 (s : List UInt8) : evF T (En (E27)) (Ln L25) Try.f46 [.d (.str s)] =
    br (s == []) (some (SV.val (AV.d (D.bool false)))) (br (decide ((↑s.length : Int) > (4096 : Int))) (some (SV.val (AV.d (D.bool false)))) (chk (s = s ∧ (0 : Nat) ≤ s.length) (br (allI iriI (List.drop (0 : Nat) s)) (some (SV.val (AV.d (D.bool true)))) (some (SV.val (AV.d (D.bool false))))))) := by kernel_rfl

theorem sat25 : Sat P 46 (S25) := by
  refine sat_mk (LT := Ln L25) hC ok27 mixed Try.func46 (by kernel_rfl) (c := bodyOf Try.f46) (by kernel_rfl) (by kernel_rfl) ?_ (loops1 (by kernel_rfl) lok25_0)
  rintro ⟨⟨(s : List UInt8), _⟩, _⟩ sv h
  obtain ⟨hs, h⟩ := h
  obtain rfl := Out_leaf h
  refine (t25 s).trans ?_
  simp only [isIri]
  repeat' (first | refine br_eq (fun _ => ?_) (fun _ => ?_) | refine chk_eq ?_ ?_)
  all_goals first | (simp_all; omega) | simp_all
def E25 : Es := (46, S25) :: E27
theorem ok25 : SatE P (En E25) := SatE.cons sat25 ok27
/-! ### function 31 -/
def lf31_0 : St [.v false [.str], .v false [.int .i64]] → Tr (Ex × List SV) := fun ⟨⟨(s : List UInt8), _⟩, ⟨(n : Int), _⟩, _⟩ => .chk (0 ≤ n ∧ n ≤ (s.length : Int) ∧ n ≤ 32 ∧ s.length ≤ Big) (.leaf (.exit 0, [.val (.d (.int .i64 (n + nameRun (32 - n.toNat) (s.drop n.toNat))))]))
def ls31_0 : LoopS := mkL [0, 3] [3] [.v false [.str], .v false [.int .i64]] lf31_0
def S31 := mkS [str] fun ⟨⟨(s : List UInt8), _⟩, _⟩ => .chk (s.length ≤ Big) (ii (named s))
def L31 : Ls := [(4, ls31_0)]
theorem lt31_0 (s : List UInt8) (n : Int) : evRound T (En (E25)) (Ln L31) (loopAt 0 (loops (bodyOf Try.f45))) ls31_0 [.val (.d (.str s)), .val (.d (.int .i64 n))] =
    br (decide (n < (↑s.length : Int))) (br (decide (n < (32 : Int))) (chk ((0 : Int) ≤ n ∧ n < (↑s.length : Int)) (br (letterI (byteAt s n)) (some (Rnd.again [SV.val (AV.d (D.str s)), SV.val (AV.d (D.int IntKind.i64 (IntKind.i64.wrap (n + (1 : Int)))))])) (chk ((0 : Int) ≤ n ∧ n < (↑s.length : Int)) (br (digitI (byteAt s n)) (some (Rnd.again [SV.val (AV.d (D.str s)), SV.val (AV.d (D.int IntKind.i64 (IntKind.i64.wrap (n + (1 : Int)))))])) (chk ((0 : Int) ≤ n ∧ n < (↑s.length : Int)) (br (byteAt s n == (95 : Int)) (some (Rnd.again [SV.val (AV.d (D.str s)), SV.val (AV.d (D.int IntKind.i64 (IntKind.i64.wrap (n + (1 : Int)))))])) (some (Rnd.out (Ex.exit (0 : Nat)) [SV.val (AV.d (D.int IntKind.i64 n))])))))))) (some (Rnd.out (Ex.exit (0 : Nat)) [SV.val (AV.d (D.int IntKind.i64 n))]))) (some (Rnd.out (Ex.exit (0 : Nat)) [SV.val (AV.d (D.int IntKind.i64 n))])) := by kernel_rfl
theorem lok31_0 : LoopOK T (En (E25)) (Ln L31) (loopAt 0 (loops (bodyOf Try.f45))) := by
  refine loopOK (live := [0, 3]) (outs := [3]) (ks := [.v false [.str], .v false [.int .i64]]) (f := lf31_0) (by kernel_rfl) ?_
  rintro ⟨⟨(s : List UInt8), _⟩, ⟨(n : Int), _⟩, _⟩ x h
  obtain ⟨⟨h0, h1, h2, h3⟩, h⟩ := h
  obtain rfl := Out_leaf h
  have key : ∀ (k m : Nat), m + k = 32 → m ≤ s.length → Lg.Ends T (En E25) (Ln L31) (loopAt 0 (loops (bodyOf Try.f45))) ls31_0 [.val (.d (.str s)), .val (.d (.int .i64 (m : Int)))] (.exit 0, [.val (.d (.int .i64 ((m : Int) + nameRun k (s.drop m))))]) := by
    intro k
    induction k with
    | zero =>
      intro m hm hl
      refine Lg.Ends.out ((lt31_0 s _).trans ?_)
      simp only [nameRun]
      refine br_eq (fun _ => br_eq (fun q => by simp at q; omega) (fun _ => by simp)) (fun _ => by simp)
    | succ k ih =>
      intro m hm hl
      by_cases hlt : m < s.length
      · obtain ⟨b, hd, hb, _⟩ := byteAt_drop hlt
        rw [hd]
        simp only [nameRun]
        by_cases hp : nameI (u b) = true
        · rw [if_pos hp]
          refine Lg.Ends.again ((lt31_0 s _).trans ?_ : _ = some (.again [.val (.d (.str s)), .val (.d (.int .i64 ((m + 1 : Nat) : Int)))])) ?_
          · rw [hb, wrap64 (by omega) (by rw [Big_eq] at h3; omega)]
            change nameI (b.toNat : Int) = true at hp
            repeat' (first | refine br_eq (fun _ => ?_) (fun _ => ?_) | refine chk_eq ?_ ?_)
            all_goals first | rfl | omega | (exfalso; simp at *; omega)
          · have := ih (m + 1) (by omega) (by omega)
            rw [show ((m : Int) + ((nameRun k (s.drop (m + 1)) + 1 : Nat) : Int)) = ((m + 1 : Nat) : Int) + (nameRun k (s.drop (m + 1)) : Int) by omega]
            exact this
        · rw [if_neg hp]
          refine Lg.Ends.out ((lt31_0 s _).trans ?_)
          rw [hb]
          change ¬ nameI (b.toNat : Int) = true at hp
          simp only [Int.natCast_zero, Int.add_zero, Int.ofNat_zero]
          repeat' (first | refine br_eq (fun _ => ?_) (fun _ => ?_) | refine chk_eq ?_ ?_)
          all_goals first | rfl | omega | (exfalso; simp at *; omega)
      · refine Lg.Ends.out ((lt31_0 s _).trans ?_)
        rw [List.drop_of_length_le (by omega)]
        simp only [nameRun]
        exact br_eq (fun q => by simp at q; omega) (fun _ => by simp)
  have := key (32 - n.toNat) n.toNat (by omega) (by omega)
  rw [Int.toNat_of_nonneg h0] at this
  exact this
theorem t31 (s : List UInt8) : evF T (En (E25)) (Ln L31) Try.f45 [.d (.str s)] =
    br (s == []) (some (SV.val (AV.d (D.int IntKind.i64 (0 : Int))))) (chk ((0 : Int) ≤ (0 : Int) ∧ (0 : Int) < (↑s.length : Int)) (br (!letterI (byteAt s (0 : Int))) (some (SV.val (AV.d (D.int IntKind.i64 (0 : Int))))) (chk ((0 : Int) ≤ (1 : Int) ∧ (1 : Int) ≤ (↑s.length : Int) ∧ (1 : Int) ≤ (32 : Int) ∧ s.length ≤ Big) (some (SV.val (AV.d (D.int IntKind.i64 ((1 : Int) + (↑(nameRun ((32 : Nat) - Int.toNat (1 : Int)) (List.drop (Int.toNat (1 : Int)) s)) : Int))))))))) := by kernel_rfl

theorem sat31 : Sat P 45 (S31) := by
  refine sat_mk (LT := Ln L31) hC ok25 mixed Try.func45 (by kernel_rfl) (c := bodyOf Try.f45) (by kernel_rfl) (by kernel_rfl) ?_ (loops1 (by kernel_rfl) lok31_0)
  rintro ⟨⟨(s : List UInt8), _⟩, _⟩ sv h
  obtain ⟨hs, h⟩ := h
  obtain rfl := Out_leaf h
  refine (t31 s).trans ?_
  refine br_eq (fun q => ?_) (fun q => ?_)
  · simp at q; subst q; rfl
  · cases s with
    | nil => simp at q
    | cons b r =>
      have hb : byteAt (b :: r) 0 = u b := rfl
      rw [hb]
      refine chk_eq (by simp) (br_eq (fun h => ?_) (fun h => ?_))
      · have h2 : letterI (u b) = false := by
          cases e : letterI (u b) with
          | false => rfl
          | true => rw [e] at h; cases h
        simp only [named]
        rw [h2]; rfl
      · have h2 : letterI (u b) = true := by
          cases e : letterI (u b) with
          | false => rw [e] at h; cases h
          | true => rfl
        refine chk_eq ⟨by omega, by simp; omega, by omega, hs⟩ ?_
        simp only [named]
        rw [h2]
        refine vi_eq ?_
        show (1 : Int) + (nameRun 31 r : Nat) = ((nameRun 31 r + 1 : Nat) : Int)
        omega
def E31 : Es := (45, S31) :: E25
theorem ok31 : SatE P (En E31) := SatE.cons sat31 ok25
/-! ### function 13 -/
def S13 := mkS [str] fun ⟨⟨(s : List UInt8), _⟩, _⟩ => .chk (s.length ≤ Big) (bl (isName s))
def L13 : Ls := []
theorem t13 (s : List UInt8) : evF T (En (E31)) (Ln L13) Try.f26 [.d (.str s)] =
    br (!s == []) (chk (s.length ≤ Big) (some (SV.val (AV.d (D.bool ((↑(named s) : Int) == (↑s.length : Int))))))) (some (SV.val (AV.d (D.bool false)))) := by kernel_rfl

theorem sat13 : Sat P 26 (S13) := by
  refine sat_mk (LT := Ln L13) hC ok31 mixed Try.func26 (by kernel_rfl) (c := bodyOf Try.f26) (by kernel_rfl) (by kernel_rfl) ?_ (loops0 (by kernel_rfl))
  rintro ⟨⟨(s : List UInt8), _⟩, _⟩ sv h
  obtain ⟨hs, h⟩ := h
  obtain rfl := Out_leaf h
  refine (t13 s).trans ?_
  simp only [isName]
  refine br_eq (fun q => ?_) (fun q => ?_)
  · refine chk_eq hs (vb_eq ?_)
    cases s <;> simp_all
    rw [Bool.eq_iff_iff]; simp; omega
  · simp at q; subst q; rfl
def E13 : Es := (26, S13) :: E31
theorem ok13 : SatE P (En E13) := SatE.cons sat13 ok31
/-! ### function 11 -/
def S11 := mkS [trm] fun ⟨⟨(k : Int), (a : List UInt8), (t : List UInt8), (l : List UInt8), _⟩, _⟩ => .chk (a.length ≤ Big ∧ t.length ≤ Big ∧ l.length ≤ Big) (ii (if right k a t l then 0 else 2))
def L11 : Ls := []
theorem t11 (k : Int) (a t l : List UInt8) : evF T (En (E13)) (Ln L11) Try.f27 [.agg [.int .i64 k, .str a, .str t, .str l]] =
    br (t == []) (br (k == (0 : Int)) (br (l == []) (br (!a == []) (some (SV.val (AV.d (D.int IntKind.i64 (2 : Int))))) (some (SV.val (AV.d (D.int IntKind.i64 (0 : Int)))))) (some (SV.val (AV.d (D.int IntKind.i64 (2 : Int)))))) (br (k == (1 : Int)) (br (l == []) (chk (a.length ≤ Big) (br (!isIri a) (some (SV.val (AV.d (D.int IntKind.i64 (2 : Int))))) (some (SV.val (AV.d (D.int IntKind.i64 (0 : Int))))))) (some (SV.val (AV.d (D.int IntKind.i64 (2 : Int)))))) (br (k == (3 : Int)) (br (k == (3 : Int)) (br (l == []) (chk (a.length ≤ Big) (br (!isName a) (some (SV.val (AV.d (D.int IntKind.i64 (2 : Int))))) (some (SV.val (AV.d (D.int IntKind.i64 (0 : Int))))))) (some (SV.val (AV.d (D.int IntKind.i64 (2 : Int)))))) (br (k == (2 : Int)) (chk (a.length ≤ Big) (br (isText a) (br (t == []) (br (l == []) (some (SV.val (AV.d (D.int IntKind.i64 (0 : Int))))) (chk (l.length ≤ Big) (br (!isLang l) (some (SV.val (AV.d (D.int IntKind.i64 (2 : Int))))) (some (SV.val (AV.d (D.int IntKind.i64 (0 : Int)))))))) (chk (t.length ≤ Big) (br (isIri t) (br (l == []) (br (l == []) (some (SV.val (AV.d (D.int IntKind.i64 (0 : Int))))) (chk (l.length ≤ Big) (br (!isLang l) (some (SV.val (AV.d (D.int IntKind.i64 (2 : Int))))) (some (SV.val (AV.d (D.int IntKind.i64 (0 : Int)))))))) (some (SV.val (AV.d (D.int IntKind.i64 (2 : Int)))))) (some (SV.val (AV.d (D.int IntKind.i64 (2 : Int)))))))) (some (SV.val (AV.d (D.int IntKind.i64 (2 : Int))))))) (some (SV.val (AV.d (D.int IntKind.i64 (2 : Int))))))) (br (k == (4 : Int)) (br (l == []) (chk (a.length ≤ Big) (br (!isName a) (some (SV.val (AV.d (D.int IntKind.i64 (2 : Int))))) (some (SV.val (AV.d (D.int IntKind.i64 (0 : Int))))))) (some (SV.val (AV.d (D.int IntKind.i64 (2 : Int)))))) (br (k == (2 : Int)) (chk (a.length ≤ Big) (br (isText a) (br (t == []) (br (l == []) (some (SV.val (AV.d (D.int IntKind.i64 (0 : Int))))) (chk (l.length ≤ Big) (br (!isLang l) (some (SV.val (AV.d (D.int IntKind.i64 (2 : Int))))) (some (SV.val (AV.d (D.int IntKind.i64 (0 : Int)))))))) (chk (t.length ≤ Big) (br (isIri t) (br (l == []) (br (l == []) (some (SV.val (AV.d (D.int IntKind.i64 (0 : Int))))) (chk (l.length ≤ Big) (br (!isLang l) (some (SV.val (AV.d (D.int IntKind.i64 (2 : Int))))) (some (SV.val (AV.d (D.int IntKind.i64 (0 : Int)))))))) (some (SV.val (AV.d (D.int IntKind.i64 (2 : Int)))))) (some (SV.val (AV.d (D.int IntKind.i64 (2 : Int)))))))) (some (SV.val (AV.d (D.int IntKind.i64 (2 : Int))))))) (some (SV.val (AV.d (D.int IntKind.i64 (2 : Int))))))))))
  (br (k == (0 : Int)) (some (SV.val (AV.d (D.int IntKind.i64 (2 : Int))))) (br (k == (1 : Int)) (some (SV.val (AV.d (D.int IntKind.i64 (2 : Int))))) (br (k == (3 : Int)) (br (k == (3 : Int)) (some (SV.val (AV.d (D.int IntKind.i64 (2 : Int))))) (br (k == (2 : Int)) (chk (a.length ≤ Big) (br (isText a) (br (t == []) (br (l == []) (some (SV.val (AV.d (D.int IntKind.i64 (0 : Int))))) (chk (l.length ≤ Big) (br (!isLang l) (some (SV.val (AV.d (D.int IntKind.i64 (2 : Int))))) (some (SV.val (AV.d (D.int IntKind.i64 (0 : Int)))))))) (chk (t.length ≤ Big) (br (isIri t) (br (l == []) (br (l == []) (some (SV.val (AV.d (D.int IntKind.i64 (0 : Int))))) (chk (l.length ≤ Big) (br (!isLang l) (some (SV.val (AV.d (D.int IntKind.i64 (2 : Int))))) (some (SV.val (AV.d (D.int IntKind.i64 (0 : Int)))))))) (some (SV.val (AV.d (D.int IntKind.i64 (2 : Int)))))) (some (SV.val (AV.d (D.int IntKind.i64 (2 : Int)))))))) (some (SV.val (AV.d (D.int IntKind.i64 (2 : Int))))))) (some (SV.val (AV.d (D.int IntKind.i64 (2 : Int))))))) (br (k == (4 : Int)) (some (SV.val (AV.d (D.int IntKind.i64 (2 : Int))))) (br (k == (2 : Int)) (chk (a.length ≤ Big) (br (isText a) (br (t == []) (br (l == []) (some (SV.val (AV.d (D.int IntKind.i64 (0 : Int))))) (chk (l.length ≤ Big) (br (!isLang l) (some (SV.val (AV.d (D.int IntKind.i64 (2 : Int))))) (some (SV.val (AV.d (D.int IntKind.i64 (0 : Int)))))))) (chk (t.length ≤ Big) (br (isIri t) (br (l == []) (br (l == []) (some (SV.val (AV.d (D.int IntKind.i64 (0 : Int))))) (chk (l.length ≤ Big) (br (!isLang l) (some (SV.val (AV.d (D.int IntKind.i64 (2 : Int))))) (some (SV.val (AV.d (D.int IntKind.i64 (0 : Int)))))))) (some (SV.val (AV.d (D.int IntKind.i64 (2 : Int)))))) (some (SV.val (AV.d (D.int IntKind.i64 (2 : Int)))))))) (some (SV.val (AV.d (D.int IntKind.i64 (2 : Int))))))) (some (SV.val (AV.d (D.int IntKind.i64 (2 : Int)))))))))) := by kernel_rfl

theorem sat11 : Sat P 27 (S11) := by
  refine sat_mk (LT := Ln L11) hC ok13 mixed Try.func27 (by kernel_rfl) (c := bodyOf Try.f27) (by kernel_rfl) (by kernel_rfl) ?_ (loops0 (by kernel_rfl))
  rintro ⟨⟨(k : Int), (a : List UInt8), (t : List UInt8), (l : List UInt8), _⟩, _⟩ sv h
  obtain ⟨⟨ha, ht, hl⟩, h⟩ := h
  obtain rfl := Out_leaf h
  refine (t11 k a t l).trans ?_
  simp only [right]
  repeat' (first | refine br_eq (fun _ => ?_) (fun _ => ?_) | refine chk_eq ?_ ?_)
  all_goals first | assumption | (refine vi_eq ?_; simp_all; done) | (exfalso; simp_all; done)
def E11 : Es := (27, S11) :: E13
theorem ok11 : SatE P (En E11) := SatE.cons sat11 ok13
/-! ### function 32 -/
def S32 := mkS [byt, byt, byt] fun ⟨⟨(a : Int), _⟩, ⟨(b : Int), _⟩, ⟨(c : Int), _⟩, _⟩ => bl (betw a b c)
def L32 : Ls := []
theorem t32 (a b c : Int) : evF T (En (E11)) (Ln L32) Try.f54 [.d (.int .u8 a), .d (.int .u8 b), .d (.int .u8 c)] =
    br (decide (a ≥ b)) (some (SV.val (AV.d (D.bool (decide (a ≤ c)))))) (some (SV.val (AV.d (D.bool false)))) := by kernel_rfl

theorem sat32 : Sat P 54 (S32) := by
  refine sat_mk (LT := Ln L32) hC ok11 mixed Try.func54 (by kernel_rfl) (c := bodyOf Try.f54) (by kernel_rfl) (by kernel_rfl) ?_ (loops0 (by kernel_rfl))
  rintro ⟨⟨(a : Int), _⟩, ⟨(b : Int), _⟩, ⟨(c : Int), _⟩, _⟩ sv h
  obtain rfl := Out_leaf h
  refine (t32 a b c).trans ?_
  simp only [betw]
  refine br_eq (fun q => ?_) (fun q => ?_) <;> (refine vb_eq ?_; first | (simp_all; done) | (simp_all; intros; omega))
def E32 : Es := (54, S32) :: E11
theorem ok32 : SatE P (En E32) := SatE.cons sat32 ok11
/-! ### function 44 -/
def lf44_0 : St [.v false [.int .u8], .v false [.str], .v false [.int .i64]] → Tr (Ex × List SV) := fun ⟨⟨(c : Int), _⟩, ⟨(s : List UInt8), _⟩, ⟨(n : Int), _⟩, _⟩ => .chk (0 ≤ n ∧ n ≤ (s.length : Int) ∧ s.length ≤ Big) (.br (allI (fun x => decide (x ≠ c)) (s.drop n.toNat)) (.leaf (.exit 0, [.unk])) (.leaf (.ret, [.val (.d (.bool true))])))
def ls44_0 : LoopS := mkL [0, 1, 5] [4] [.v false [.int .u8], .v false [.str], .v false [.int .i64]] lf44_0
def S44 := mkS [byt, str] fun ⟨⟨(c : Int), _⟩, ⟨(s : List UInt8), _⟩, _⟩ => .chk (s.length ≤ Big) (bl (isIn c s))
def L44 : Ls := [(2, ls44_0)]
theorem lt44_0 (c : Int) (s : List UInt8) (n : Int) : evRound T (En (E32)) (Ln L44) (loopAt 0 (loops (bodyOf Try.f71))) ls44_0 [.val (.d (.int .u8 c)), .val (.d (.str s)), .val (.d (.int .i64 n))] =
    br (decide (n < (↑s.length : Int))) (chk ((0 : Int) ≤ n ∧ n < (↑s.length : Int)) (br (byteAt s n == c) (some (Rnd.out Ex.ret [SV.val (AV.d (D.bool true))])) (some (Rnd.again [SV.val (AV.d (D.int IntKind.u8 c)), SV.val (AV.d (D.str s)), SV.val (AV.d (D.int IntKind.i64 (IntKind.i64.wrap (n + (1 : Int)))))])))) (some (Rnd.out (Ex.exit (0 : Nat)) [SV.unk])) := by kernel_rfl
theorem lok44_0 : LoopOK T (En (E32)) (Ln L44) (loopAt 0 (loops (bodyOf Try.f71))) := by
  refine loopOK (live := [0, 1, 5]) (outs := [4]) (ks := [.v false [.int .u8], .v false [.str], .v false [.int .i64]]) (f := lf44_0) (by kernel_rfl) ?_
  rintro ⟨⟨(c : Int), _⟩, ⟨(s : List UInt8), _⟩, ⟨(n : Int), _⟩, _⟩ x h
  obtain ⟨⟨h0, h1, h2⟩, h⟩ := h
  have key := each_loop (T := T) (E := En E32) (LT := Ln L44) (c := loopAt 0 (loops (bodyOf Try.f71))) (ls := ls44_0) (s := s) (fun n => [.val (.d (.int .u8 c)), .val (.d (.str s)), .val (.d (.int .i64 n))]) (fun x => decide (x ≠ c)) (fun _ => (.ret, [.val (.d (.bool true))])) (.exit 0, [.unk])
    (Lg.Ends.out ((lt44_0 c s _).trans (br_eq (fun q => by simp at q) (fun _ => rfl))))
    (fun m b hm hb hd hp => Lg.Ends.out ((lt44_0 c s _).trans (by
      rw [hb]
      refine br_eq (fun _ => chk_eq (by omega) (br_eq (fun _ => rfl) (fun q => by simp at q hp; exact absurd hp q))) (fun q => by simp at q; omega))))
    (fun m b hm hb hp => (lt44_0 c s _).trans (by
      rw [hb, wrap64 (by omega) (by rw [Big_eq] at h2; omega)]
      refine br_eq (fun _ => chk_eq (by omega) (br_eq (fun q => by simp at q hp; exact absurd q hp) (fun _ => rfl))) (fun q => by simp at q; omega))) n.toNat (by omega)
  rw [Int.toNat_of_nonneg h0] at key
  rcases Out_br h with ⟨hp, h⟩ | ⟨hp, h⟩
  · rw [hp, if_pos rfl] at key; obtain rfl := Out_leaf h; exact key
  · rw [hp, if_neg (by simp)] at key; obtain rfl := Out_leaf h; exact key
theorem t44 (c : Int) (s : List UInt8) : evF T (En (E32)) (Ln L44) Try.f71 [.d (.int .u8 c), .d (.str s)] =
    chk ((0 : Int) ≤ (0 : Int) ∧ (0 : Int) ≤ (↑s.length : Int) ∧ s.length ≤ Big) (br (allI (fun x => decide (x ≠ c)) (List.drop (Int.toNat (0 : Int)) s)) (some (SV.val (AV.d (D.bool false)))) (some (SV.val (AV.d (D.bool true))))) := by kernel_rfl

theorem sat44 : Sat P 71 (S44) := by
  refine sat_mk (LT := Ln L44) hC ok32 mixed Try.func71 (by kernel_rfl) (c := bodyOf Try.f71) (by kernel_rfl) (by kernel_rfl) ?_ (loops1 (by kernel_rfl) lok44_0)
  rintro ⟨⟨(c : Int), _⟩, ⟨(s : List UInt8), _⟩, _⟩ sv h
  obtain ⟨hs, h⟩ := h
  obtain rfl := Out_leaf h
  refine (t44 c s).trans ?_
  have e : isIn c s = !(allI (fun x => decide (x ≠ c)) s) := by
    simp only [isIn, allI, List.any_eq_not_all_not]
    congr 2; funext b
    simp [eq_comm]
  rw [e]
  refine chk_eq (by omega) (br_eq (fun q => ?_) (fun q => ?_)) <;> (refine vb_eq ?_; simp at q ⊢; simp_all)
def E44 : Es := (71, S44) :: E32
theorem ok44 : SatE P (En E44) := SatE.cons sat44 ok32
/-! ### function 28 -/
def lf28_0 : St [.v false [.str], .v false [.int .i64], .v false [.int .i64]] → Tr (Ex × List SV) := fun ⟨⟨(s : List UInt8), _⟩, ⟨(k : Int), _⟩, ⟨(n : Int), _⟩, _⟩ => .chk (0 ≤ n ∧ n ≤ (s.length : Int) ∧ s.length ≤ Big) (.br (allI (kindI k) (s.drop n.toNat)) (.leaf (.exit 0, [.unk])) (.leaf (.ret, [.val (.d (.bool false))])))
def ls28_0 : LoopS := mkL [0, 1, 5] [4] [.v false [.str], .v false [.int .i64], .v false [.int .i64]] lf28_0
def S28 := mkS [str, int] fun ⟨⟨(s : List UInt8), _⟩, ⟨(k : Int), _⟩, _⟩ => .chk (s.length ≤ Big) (bl (allI (kindI k) s))
def L28 : Ls := [(2, ls28_0)]
theorem lt28_0 (s : List UInt8) (k n : Int) : evRound T (En (E44)) (Ln L28) (loopAt 0 (loops (bodyOf Try.f53))) ls28_0 [.val (.d (.str s)), .val (.d (.int .i64 k)), .val (.d (.int .i64 n))] =
    br (decide (n < (↑s.length : Int))) (chk ((0 : Int) ≤ n ∧ n < (↑s.length : Int)) (br (k == (1 : Int)) (br (betw (byteAt s n) (33 : Int) (126 : Int)) (chk ([(60 : UInt8), (62 : UInt8), (34 : UInt8), (123 : UInt8), (125 : UInt8), (124 : UInt8), (94 : UInt8), (96 : UInt8), (92 : UInt8)].length ≤ Big) (br (!!isIn (byteAt s n) [(60 : UInt8), (62 : UInt8), (34 : UInt8), (123 : UInt8), (125 : UInt8), (124 : UInt8), (94 : UInt8), (96 : UInt8), (92 : UInt8)]) (some (Rnd.out Ex.ret [SV.val (AV.d (D.bool false))])) (some (Rnd.again [SV.val (AV.d (D.str s)), SV.val (AV.d (D.int IntKind.i64 k)), SV.val (AV.d (D.int IntKind.i64 (IntKind.i64.wrap (n + (1 : Int)))))])))) (some (Rnd.out Ex.ret [SV.val (AV.d (D.bool false))]))) (br (k == (2 : Int)) (br (betw (byteAt s n) (32 : Int) (126 : Int)) (some (Rnd.again [SV.val (AV.d (D.str s)), SV.val (AV.d (D.int IntKind.i64 k)), SV.val (AV.d (D.int IntKind.i64 (IntKind.i64.wrap (n + (1 : Int)))))])) (br (byteAt s n == (10 : Int)) (some (Rnd.again [SV.val (AV.d (D.str s)), SV.val (AV.d (D.int IntKind.i64 k)), SV.val (AV.d (D.int IntKind.i64 (IntKind.i64.wrap (n + (1 : Int)))))])) (br (!byteAt s n == (9 : Int)) (some (Rnd.out Ex.ret [SV.val (AV.d (D.bool false))])) (some (Rnd.again [SV.val (AV.d (D.str s)), SV.val (AV.d (D.int IntKind.i64 k)), SV.val (AV.d (D.int IntKind.i64 (IntKind.i64.wrap (n + (1 : Int)))))]))))) (br (k == (3 : Int)) (br (betw (byteAt s n) (97 : Int) (122 : Int)) (some (Rnd.again [SV.val (AV.d (D.str s)), SV.val (AV.d (D.int IntKind.i64 k)), SV.val (AV.d (D.int IntKind.i64 (IntKind.i64.wrap (n + (1 : Int)))))])) (br (betw (byteAt s n) (65 : Int) (90 : Int)) (some (Rnd.again [SV.val (AV.d (D.str s)), SV.val (AV.d (D.int IntKind.i64 k)), SV.val (AV.d (D.int IntKind.i64 (IntKind.i64.wrap (n + (1 : Int)))))])) (br (betw (byteAt s n) (48 : Int) (57 : Int)) (some (Rnd.again [SV.val (AV.d (D.str s)), SV.val (AV.d (D.int IntKind.i64 k)), SV.val (AV.d (D.int IntKind.i64 (IntKind.i64.wrap (n + (1 : Int)))))])) (br (!byteAt s n == (95 : Int)) (some (Rnd.out Ex.ret [SV.val (AV.d (D.bool false))])) (some (Rnd.again [SV.val (AV.d (D.str s)), SV.val (AV.d (D.int IntKind.i64 k)), SV.val (AV.d (D.int IntKind.i64 (IntKind.i64.wrap (n + (1 : Int)))))])))))) (br (k == (4 : Int)) (br (!betw (byteAt s n) (97 : Int) (122 : Int)) (some (Rnd.out Ex.ret [SV.val (AV.d (D.bool false))])) (some (Rnd.again [SV.val (AV.d (D.str s)), SV.val (AV.d (D.int IntKind.i64 k)), SV.val (AV.d (D.int IntKind.i64 (IntKind.i64.wrap (n + (1 : Int)))))]))) (some (Rnd.out Ex.ret [SV.val (AV.d (D.bool false))]))))))) (some (Rnd.out (Ex.exit (0 : Nat)) [SV.unk])) := by kernel_rfl
theorem lok28_0 : LoopOK T (En (E44)) (Ln L28) (loopAt 0 (loops (bodyOf Try.f53))) := by
  refine loopOK (live := [0, 1, 5]) (outs := [4]) (ks := [.v false [.str], .v false [.int .i64], .v false [.int .i64]]) (f := lf28_0) (by kernel_rfl) ?_
  rintro ⟨⟨(s : List UInt8), _⟩, ⟨(k : Int), _⟩, ⟨(n : Int), _⟩, _⟩ x h
  obtain ⟨⟨h0, h1, h2⟩, h⟩ := h
  have key := each_loop (T := T) (E := En E44) (LT := Ln L28) (c := loopAt 0 (loops (bodyOf Try.f53))) (ls := ls28_0) (s := s) (fun n => [.val (.d (.str s)), .val (.d (.int .i64 k)), .val (.d (.int .i64 n))]) (kindI k) (fun _ => (.ret, [.val (.d (.bool false))])) (.exit 0, [.unk])
    (Lg.Ends.out ((lt28_0 s k _).trans (br_eq (fun q => by simp at q) (fun _ => rfl))))
    (fun m b hm hb hd hp => Lg.Ends.out ((lt28_0 s k _).trans (by
      rw [hb]
      simp only [isIn_bad]
      unfold kindI at hp
      repeat' (first | refine br_eq (fun _ => ?_) (fun _ => ?_) | refine chk_eq ?_ ?_)
      all_goals first | rfl | omega | (simp only [Big]; decide) | (exfalso; clear h; simp_all [betw]; done) | (exfalso; clear h; (repeat' split at hp) <;> simp [betw] at * <;> omega))))
    (fun m b hm hb hp => (lt28_0 s k _).trans (by
      rw [hb, wrap64 (by omega) (by rw [Big_eq] at h2; omega)]
      simp only [isIn_bad]
      unfold kindI at hp
      repeat' (first | refine br_eq (fun _ => ?_) (fun _ => ?_) | refine chk_eq ?_ ?_)
      all_goals first | rfl | omega | (simp only [Big]; decide) | (exfalso; clear h; simp_all [betw]; done) | (exfalso; clear h; (repeat' split at hp) <;> simp [betw] at * <;> omega))) n.toNat (by omega)
  rw [Int.toNat_of_nonneg h0] at key
  rcases Out_br h with ⟨hp, h⟩ | ⟨hp, h⟩
  · rw [hp, if_pos rfl] at key; obtain rfl := Out_leaf h; exact key
  · rw [hp, if_neg (by simp)] at key; obtain rfl := Out_leaf h; exact key
theorem t28 (s : List UInt8) (k : Int) : evF T (En (E44)) (Ln L28) Try.f53 [.d (.str s), .d (.int .i64 k)] =
    chk ((0 : Int) ≤ (0 : Int) ∧ (0 : Int) ≤ (↑s.length : Int) ∧ s.length ≤ Big) (br (allI (kindI k) (List.drop (Int.toNat (0 : Int)) s)) (some (SV.val (AV.d (D.bool true)))) (some (SV.val (AV.d (D.bool false))))) := by kernel_rfl

theorem sat28 : Sat P 53 (S28) := by
  refine sat_mk (LT := Ln L28) hC ok44 mixed Try.func53 (by kernel_rfl) (c := bodyOf Try.f53) (by kernel_rfl) (by kernel_rfl) ?_ (loops1 (by kernel_rfl) lok28_0)
  rintro ⟨⟨(s : List UInt8), _⟩, ⟨(k : Int), _⟩, _⟩ sv h
  obtain ⟨hs, h⟩ := h
  obtain rfl := Out_leaf h
  refine (t28 s k).trans ?_
  refine chk_eq (by omega) (br_eq (fun q => ?_) (fun q => ?_)) <;> (refine vb_eq ?_; simp at q ⊢; simp_all)
def E28 : Es := (53, S28) :: E44
theorem ok28 : SatE P (En E28) := SatE.cons sat28 ok44
/-! ### function 14 -/
def S14 := mkS [str] fun ⟨⟨(s : List UInt8), _⟩, _⟩ => .chk (s.length ≤ Big) (bl (isName s))
def L14 : Ls := []
theorem t14 (s : List UInt8) : evF T (En (E28)) (Ln L14) Try.f31 [.d (.str s)] =
    br (decide ((↑s.length : Int) ≥ (1 : Int))) (br (decide ((↑s.length : Int) ≤ (32 : Int))) (chk (s.length ≤ Big) (br (allI (kindI (3 : Int)) s) (chk ((0 : Int) ≤ (0 : Int) ∧ (0 : Int) < (↑s.length : Int)) (br (betw (byteAt s (0 : Int)) (97 : Int) (122 : Int)) (some (SV.val (AV.d (D.bool true)))) (chk ((0 : Int) ≤ (0 : Int) ∧ (0 : Int) < (↑s.length : Int)) (some (SV.val (AV.d (D.bool (betw (byteAt s (0 : Int)) (65 : Int) (90 : Int))))))))) (some (SV.val (AV.d (D.bool false)))))) (some (SV.val (AV.d (D.bool false))))) (some (SV.val (AV.d (D.bool false)))) := by kernel_rfl

theorem sat14 : Sat P 31 (S14) := by
  refine sat_mk (LT := Ln L14) hC ok28 mixed Try.func31 (by kernel_rfl) (c := bodyOf Try.f31) (by kernel_rfl) (by kernel_rfl) ?_ (loops0 (by kernel_rfl))
  rintro ⟨⟨(s : List UInt8), _⟩, _⟩ sv h
  obtain ⟨hs, h⟩ := h
  obtain rfl := Out_leaf h
  refine (t14 s).trans ?_
  rw [isName_eq, kindI3]
  cases s with
  | nil => rfl
  | cons b r =>
    have hb : byteAt (b :: r) 0 = u b := rfl
    rw [hb]
    repeat' (first | refine br_eq (fun _ => ?_) (fun _ => ?_) | refine chk_eq ?_ ?_)
    all_goals first | assumption | (simp at *; done) | (refine vb_eq ?_; rw [Bool.eq_iff_iff]; simp_all [letterI, betw]; done) | (refine vb_eq ?_; rw [Bool.eq_iff_iff]; simp_all [letterI, betw]; omega) | (simp at *; omega)
def E14 : Es := (31, S14) :: E28
theorem ok14 : SatE P (En E14) := SatE.cons sat14 ok28
/-! ### function 29 -/
def S29 := mkS [str] fun ⟨⟨(s : List UInt8), _⟩, _⟩ => .chk (s.length ≤ Big) (bl (isIri s))
def L29 : Ls := []
theorem t29 (s : List UInt8) : evF T (En (E14)) (Ln L29) Try.f32 [.d (.str s)] =
    br (decide ((↑s.length : Int) ≥ (1 : Int))) (br (decide ((↑s.length : Int) ≤ (4096 : Int))) (chk (s.length ≤ Big) (some (SV.val (AV.d (D.bool (allI (kindI (1 : Int)) s)))))) (some (SV.val (AV.d (D.bool false))))) (some (SV.val (AV.d (D.bool false)))) := by kernel_rfl

theorem sat29 : Sat P 32 (S29) := by
  refine sat_mk (LT := Ln L29) hC ok14 mixed Try.func32 (by kernel_rfl) (c := bodyOf Try.f32) (by kernel_rfl) (by kernel_rfl) ?_ (loops0 (by kernel_rfl))
  rintro ⟨⟨(s : List UInt8), _⟩, _⟩ sv h
  obtain ⟨hs, h⟩ := h
  obtain rfl := Out_leaf h
  refine (t29 s).trans ?_
  simp only [isIri, kindI1]
  cases s with
  | nil => rfl
  | cons b r =>
    repeat' (first | refine br_eq (fun _ => ?_) (fun _ => ?_) | refine chk_eq ?_ ?_)
    all_goals first | assumption | (refine vb_eq ?_; simp_all; done) | (refine vb_eq ?_; simp_all; omega) | (exfalso; simp_all; done) | (exfalso; simp_all; omega)
def E29 : Es := (32, S29) :: E14
theorem ok29 : SatE P (En E29) := SatE.cons sat29 ok14
/-! ### function 30 -/
def S30 := mkS [str] fun ⟨⟨(s : List UInt8), _⟩, _⟩ => .chk (s.length ≤ Big) (bl (isLang s))
def L30 : Ls := []
theorem t30 (s : List UInt8) : evF T (En (E29)) (Ln L30) Try.f90 [.d (.str s)] =
    br (decide ((↑s.length : Int) ≥ (1 : Int))) (br (decide ((↑s.length : Int) ≤ (8 : Int))) (chk (s.length ≤ Big) (some (SV.val (AV.d (D.bool (allI (kindI (4 : Int)) s)))))) (some (SV.val (AV.d (D.bool false))))) (some (SV.val (AV.d (D.bool false)))) := by kernel_rfl

theorem sat30 : Sat P 90 (S30) := by
  refine sat_mk (LT := Ln L30) hC ok29 mixed Try.func90 (by kernel_rfl) (c := bodyOf Try.f90) (by kernel_rfl) (by kernel_rfl) ?_ (loops0 (by kernel_rfl))
  rintro ⟨⟨(s : List UInt8), _⟩, _⟩ sv h
  obtain ⟨hs, h⟩ := h
  obtain rfl := Out_leaf h
  refine (t30 s).trans ?_
  simp only [isLang, kindI4]
  cases s with
  | nil => rfl
  | cons b r =>
    repeat' (first | refine br_eq (fun _ => ?_) (fun _ => ?_) | refine chk_eq ?_ ?_)
    all_goals first | assumption | (refine vb_eq ?_; simp_all; done) | (refine vb_eq ?_; simp_all; omega) | (exfalso; simp_all; done) | (exfalso; simp_all; omega)
def E30 : Es := (90, S30) :: E29
theorem ok30 : SatE P (En E30) := SatE.cons sat30 ok29
/-! ### function 12 -/
def S12 := mkS [trm] fun ⟨⟨(k : Int), (a : List UInt8), (t : List UInt8), (l : List UInt8), _⟩, _⟩ => .chk (a.length ≤ Big ∧ t.length ≤ Big ∧ l.length ≤ Big) (bl (right k a t l))
def L12 : Ls := []
theorem t12 (k : Int) (a t l : List UInt8) : evF T (En (E30)) (Ln L12) Try.f70 [.agg [.int .i64 k, .str a, .str t, .str l]] =
    br (k == (2 : Int)) (br (decide ((↑a.length : Int) ≤ (4096 : Int))) (chk (a.length ≤ Big) (br (allI (kindI (2 : Int)) a) (br (t == []) (br (l == []) (some (SV.val (AV.d (D.bool true)))) (br (t == []) (chk (l.length ≤ Big) (some (SV.val (AV.d (D.bool (isLang l)))))) (some (SV.val (AV.d (D.bool false)))))) (chk (t.length ≤ Big) (br (isIri t) (br (l == []) (some (SV.val (AV.d (D.bool true)))) (br (t == []) (chk (l.length ≤ Big) (some (SV.val (AV.d (D.bool (isLang l)))))) (some (SV.val (AV.d (D.bool false)))))) (some (SV.val (AV.d (D.bool false))))))) (some (SV.val (AV.d (D.bool false)))))) (some (SV.val (AV.d (D.bool false))))) (br (!t == []) (some (SV.val (AV.d (D.bool false)))) (br (!l == []) (some (SV.val (AV.d (D.bool false)))) (br (k == (0 : Int)) (some (SV.val (AV.d (D.bool (a == []))))) (br (k == (1 : Int)) (chk (a.length ≤ Big) (some (SV.val (AV.d (D.bool (isIri a)))))) (br (k == (3 : Int)) (br (k == (3 : Int)) (chk (a.length ≤ Big) (some (SV.val (AV.d (D.bool (isName a)))))) (some (SV.val (AV.d (D.bool false))))) (br (k == (4 : Int)) (chk (a.length ≤ Big) (some (SV.val (AV.d (D.bool (isName a)))))) (some (SV.val (AV.d (D.bool false)))))))))) := by kernel_rfl

theorem sat12 : Sat P 70 (S12) := by
  refine sat_mk (LT := Ln L12) hC ok30 mixed Try.func70 (by kernel_rfl) (c := bodyOf Try.f70) (by kernel_rfl) (by kernel_rfl) ?_ (loops0 (by kernel_rfl))
  rintro ⟨⟨(k : Int), (a : List UInt8), (t : List UInt8), (l : List UInt8), _⟩, _⟩ sv h
  obtain ⟨⟨ha, ht, hl⟩, h⟩ := h
  obtain rfl := Out_leaf h
  refine (t12 k a t l).trans ?_
  simp only [right, isText, kindI2]
  clear h
  repeat' (first | refine br_eq (fun _ => ?_) (fun _ => ?_) | refine chk_eq ?_ ?_)
  all_goals first | assumption | (refine vb_eq ?_; simp_all; done) | (refine vb_eq ?_; simp_all; omega) | (refine vb_eq ?_; have hz : a.length ≤ 4096 := (by simp at *; omega); simp_all; done) | (refine vb_eq ?_; simp_all; intros; omega) | (exfalso; simp_all; done)
def E12 : Es := (70, S12) :: E30
theorem ok12 : SatE P (En E12) := SatE.cons sat12 ok30
end Go.Proofs.Ytfpojhphmgnfhaa.T7
end
