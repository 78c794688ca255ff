/- Part of a proof of the seat's statements: no statement by itself. -/
import Derived.Test.YtfafmpiajlgojaaDoorQ2
set_option maxRecDepth 100000
open Go.Proofs.YtfafmpiajlgojaaDoor.Lg Go Go.Proofs.YtfafmpiajlgojaaDoor.Sp
open Go.Proofs
namespace Go.Proofs.YtfafmpiajlgojaaDoor.T2
attribute [local simp] letterI digitI nameI badI iriI textI lowI

/-! ### function 45 -/
def S45 := mkS [byt] fun ⟨⟨(c : Int), _⟩, _⟩ => bl (letterI c)
def L45 : Ls := []
theorem t45 (c : Int) : evF T (En (E00)) (Ln L45) Tryd.f64 [.d (.int .u8 c)] =
    br (decide (c ≥ (97 : Int))) (br (decide (c ≤ (122 : Int))) (some (SV.val (AV.d (D.bool true)))) (br (decide (c ≥ (65 : Int))) (some (SV.val (AV.d (D.bool (decide (c ≤ (90 : Int))))))) (some (SV.val (AV.d (D.bool false)))))) (br (decide (c ≥ (65 : Int))) (some (SV.val (AV.d (D.bool (decide (c ≤ (90 : Int))))))) (some (SV.val (AV.d (D.bool false))))) := by kernel_rfl

theorem sat45 : Sat P 64 (S45) := by
  refine sat_mk (LT := Ln L45) hC ok00 mixed Tryd.func64 (by kernel_rfl) (c := bodyOf Tryd.f64) (by kernel_rfl) (by kernel_rfl) ?_ (loops0 (by kernel_rfl))
  rintro ⟨⟨(c : Int), _⟩, _⟩ sv h
  obtain rfl := Out_leaf h
  refine (t45 c).trans ?_
  repeat' (refine br_eq (fun _ => ?_) (fun _ => ?_))
  all_goals (refine vb_eq ?_; rw [Bool.eq_iff_iff]; simp at *; omega)
def E45 : Es := (64, S45) :: E00
theorem ok45 : SatE P (En E45) := SatE.cons sat45 ok00
/-! ### function 46 -/
def S46 := mkS [byt] fun ⟨⟨(c : Int), _⟩, _⟩ => bl (digitI c)
def L46 : Ls := []
theorem t46 (c : Int) : evF T (En (E45)) (Ln L46) Tryd.f65 [.d (.int .u8 c)] =
    br (decide (c ≥ (48 : Int))) (some (SV.val (AV.d (D.bool (decide (c ≤ (57 : Int))))))) (some (SV.val (AV.d (D.bool false)))) := by kernel_rfl

theorem sat46 : Sat P 65 (S46) := by
  refine sat_mk (LT := Ln L46) hC ok45 mixed Tryd.func65 (by kernel_rfl) (c := bodyOf Tryd.f65) (by kernel_rfl) (by kernel_rfl) ?_ (loops0 (by kernel_rfl))
  rintro ⟨⟨(c : Int), _⟩, _⟩ sv h
  obtain rfl := Out_leaf h
  refine (t46 c).trans ?_
  repeat' (refine br_eq (fun _ => ?_) (fun _ => ?_))
  all_goals (refine vb_eq ?_; rw [Bool.eq_iff_iff]; simp at *; omega)
def E46 : Es := (65, S46) :: E45
theorem ok46 : SatE P (En E46) := SatE.cons sat46 ok45
/-! ### function 43 -/
def S43 := mkS [byt] fun ⟨⟨(c : Int), _⟩, _⟩ => bl (iriI c)
def L43 : Ls := []
theorem t43 (c : Int) : evF T (En (E46)) (Ln L43) Tryd.f53 [.d (.int .u8 c)] =
    br (c == (60 : Int)) (some (SV.val (AV.d (D.bool false)))) (br (c == (62 : Int)) (br (c == (62 : Int)) (some (SV.val (AV.d (D.bool false)))) (br (decide (c ≥ (33 : Int))) (some (SV.val (AV.d (D.bool (decide (c ≤ (126 : Int))))))) (some (SV.val (AV.d (D.bool false)))))) (br (c == (34 : Int)) (br (c == (34 : Int)) (some (SV.val (AV.d (D.bool false)))) (br (decide (c ≥ (33 : Int))) (some (SV.val (AV.d (D.bool (decide (c ≤ (126 : Int))))))) (some (SV.val (AV.d (D.bool false)))))) (br (c == (123 : Int)) (br (c == (123 : Int)) (some (SV.val (AV.d (D.bool false)))) (br (decide (c ≥ (33 : Int))) (some (SV.val (AV.d (D.bool (decide (c ≤ (126 : Int))))))) (some (SV.val (AV.d (D.bool false)))))) (br (c == (125 : Int)) (br (c == (125 : Int)) (some (SV.val (AV.d (D.bool false)))) (br (decide (c ≥ (33 : Int))) (some (SV.val (AV.d (D.bool (decide (c ≤ (126 : Int))))))) (some (SV.val (AV.d (D.bool false)))))) (br (c == (124 : Int)) (br (c == (124 : Int)) (some (SV.val (AV.d (D.bool false)))) (br (decide (c ≥ (33 : Int))) (some (SV.val (AV.d (D.bool (decide (c ≤ (126 : Int))))))) (some (SV.val (AV.d (D.bool false)))))) (br (c == (94 : Int)) (br (c == (94 : Int)) (some (SV.val (AV.d (D.bool false)))) (br (decide (c ≥ (33 : Int))) (some (SV.val (AV.d (D.bool (decide (c ≤ (126 : Int))))))) (some (SV.val (AV.d (D.bool false)))))) (br (c == (96 : Int)) (br (c == (96 : Int)) (some (SV.val (AV.d (D.bool false)))) (br (decide (c ≥ (33 : Int))) (some (SV.val (AV.d (D.bool (decide (c ≤ (126 : Int))))))) (some (SV.val (AV.d (D.bool false)))))) (br (c == (92 : Int)) (some (SV.val (AV.d (D.bool false)))) (br (decide (c ≥ (33 : Int))) (some (SV.val (AV.d (D.bool (decide (c ≤ (126 : Int))))))) (some (SV.val (AV.d (D.bool false))))))))))))) := by kernel_rfl

theorem sat43 : Sat P 53 (S43) := by
  refine sat_mk (LT := Ln L43) hC ok46 mixed Tryd.func53 (by kernel_rfl) (c := bodyOf Tryd.f53) (by kernel_rfl) (by kernel_rfl) ?_ (loops0 (by kernel_rfl))
  rintro ⟨⟨(c : Int), _⟩, _⟩ sv h
  obtain rfl := Out_leaf h
  refine (t43 c).trans ?_
  repeat' (refine br_eq (fun _ => ?_) (fun _ => ?_))
  all_goals (refine vb_eq ?_; rw [Bool.eq_iff_iff]; simp at *; omega)
def E43 : Es := (53, S43) :: E46
theorem ok43 : SatE P (En E43) := SatE.cons sat43 ok46
/-! ### function 26 -/
def lf26_0 : St [.v false [.str], .v false [.int .i64]] → Tr (Ex × List SV) := fun ⟨⟨(s : List UInt8), _⟩, ⟨(n : Int), _⟩, _⟩ => .chk (0 ≤ n ∧ n ≤ (s.length : Int) ∧ s.length ≤ Big) (.br (allI textI (s.drop n.toNat)) (.leaf (.exit 0, [.unk])) (.leaf (.ret, [.val (.d (.bool false))])))
def ls26_0 : LoopS := mkL [0, 3] [2] [.v false [.str], .v false [.int .i64]] lf26_0
def S26 := mkS [str] fun ⟨⟨(s : List UInt8), _⟩, _⟩ => .chk (s.length ≤ Big) (bl (isText s))
def L26 : Ls := [(4, ls26_0)]
theorem lt26_0 (s : List UInt8) (n : Int) : evRound T (En (E43)) (Ln L26) (loopAt 0 (loops (bodyOf Tryd.f45))) ls26_0 [.val (.d (.str s)), .val (.d (.int .i64 n))] =
    br (decide (n < (↑s.length : Int))) (chk ((0 : Int) ≤ n ∧ n < (↑s.length : Int)) (br (decide (byteAt s n < (32 : Int))) (chk ((0 : Int) ≤ n ∧ n < (↑s.length : Int)) (br (byteAt s n != (10 : Int)) (chk ((0 : Int) ≤ n ∧ n < (↑s.length : Int)) (br (byteAt s n != (9 : Int)) (some (Rnd.out Ex.ret [SV.val (AV.d (D.bool false))])) (some (Rnd.again [SV.val (AV.d (D.str s)), SV.val (AV.d (D.int IntKind.i64 (IntKind.i64.wrap (n + (1 : Int)))))])))) (some (Rnd.again [SV.val (AV.d (D.str s)), SV.val (AV.d (D.int IntKind.i64 (IntKind.i64.wrap (n + (1 : Int)))))])))) (chk ((0 : Int) ≤ n ∧ n < (↑s.length : Int)) (br (decide (byteAt s n > (126 : Int))) (chk ((0 : Int) ≤ n ∧ n < (↑s.length : Int)) (br (byteAt s n != (10 : Int)) (chk ((0 : Int) ≤ n ∧ n < (↑s.length : Int)) (br (byteAt s n != (9 : Int)) (some (Rnd.out Ex.ret [SV.val (AV.d (D.bool false))])) (some (Rnd.again [SV.val (AV.d (D.str s)), SV.val (AV.d (D.int IntKind.i64 (IntKind.i64.wrap (n + (1 : Int)))))])))) (some (Rnd.again [SV.val (AV.d (D.str s)), SV.val (AV.d (D.int IntKind.i64 (IntKind.i64.wrap (n + (1 : Int)))))])))) (some (Rnd.again [SV.val (AV.d (D.str s)), SV.val (AV.d (D.int IntKind.i64 (IntKind.i64.wrap (n + (1 : Int)))))])))))) (some (Rnd.out (Ex.exit (0 : Nat)) [SV.unk])) := by kernel_rfl
theorem lok26_0 : LoopOK T (En (E43)) (Ln L26) (loopAt 0 (loops (bodyOf Tryd.f45))) := by
  refine loopOK (live := [0, 3]) (outs := [2]) (ks := [.v false [.str], .v false [.int .i64]]) (f := lf26_0) (by kernel_rfl) ?_
  rintro ⟨⟨(s : List UInt8), _⟩, ⟨(n : Int), _⟩, _⟩ x h
  obtain ⟨⟨h0, h1, h2⟩, h⟩ := h
  have key := each_loop (T := T) (E := En E43) (LT := Ln L26) (c := loopAt 0 (loops (bodyOf Tryd.f45))) (ls := ls26_0) (s := s) (fun n => [.val (.d (.str s)), .val (.d (.int .i64 n))]) textI (fun _ => (.ret, [.val (.d (.bool false))])) (.exit 0, [.unk])
    (Lg.Ends.out ((lt26_0 s _).trans (br_eq (fun q => by simp at q) (fun _ => rfl))))
    (fun m b hm hb hd hp => Lg.Ends.out ((lt26_0 s _).trans (by
      rw [hb]
      repeat' (first | refine br_eq (fun _ => ?_) (fun _ => ?_) | refine chk_eq ?_ ?_)
      all_goals first | rfl | (exfalso; simp at *; omega) | omega)))
    (fun m b hm hb hp => (lt26_0 s _).trans (by
      rw [hb, wrap64 (by omega) (by rw [Big_eq] at h2; omega)]
      repeat' (first | refine br_eq (fun _ => ?_) (fun _ => ?_) | refine chk_eq ?_ ?_)
      all_goals first | rfl | (exfalso; simp at *; omega) | omega)) n.toNat (by omega)
  rw [Int.toNat_of_nonneg h0] at key
  rcases Out_br h with ⟨hp, h⟩ | ⟨hp, h⟩
  · rw [hp, if_pos rfl] at key; obtain rfl := Out_leaf h; exact key
  · rw [hp, if_neg (by simp)] at key; obtain rfl := Out_leaf h; exact key
theorem t26 (s : List UInt8) : evF T (En (E43)) (Ln L26) Tryd.f45 [.d (.str s)] =
    br (decide ((↑s.length : Int) > (4096 : Int))) (some (SV.val (AV.d (D.bool false)))) (chk ((0 : Int) ≤ (0 : Int) ∧ (0 : Int) ≤ (↑s.length : Int) ∧ s.length ≤ Big) (br (allI textI (List.drop (Int.toNat (0 : Int)) s)) (some (SV.val (AV.d (D.bool true)))) (some (SV.val (AV.d (D.bool false)))))) := by kernel_rfl

theorem sat26 : Sat P 45 (S26) := by
  refine sat_mk (LT := Ln L26) hC ok43 mixed Tryd.func45 (by kernel_rfl) (c := bodyOf Tryd.f45) (by kernel_rfl) (by kernel_rfl) ?_ (loops1 (by kernel_rfl) lok26_0)
  rintro ⟨⟨(s : List UInt8), _⟩, _⟩ sv h
  obtain ⟨hs, h⟩ := h
  obtain rfl := Out_leaf h
  refine (t26 s).trans ?_
  simp only [isText]
  repeat' (first | refine br_eq (fun _ => ?_) (fun _ => ?_) | refine chk_eq ?_ ?_)
  all_goals first | (simp_all; omega) | simp_all
def E26 : Es := (45, S26) :: E43
theorem ok26 : SatE P (En E26) := SatE.cons sat26 ok43
/-! ### function 27 -/
def lf27_0 : St [.v false [.str], .v false [.int .i64]] → Tr (Ex × List SV) := fun ⟨⟨(s : List UInt8), _⟩, ⟨(n : Int), _⟩, _⟩ => .chk (0 ≤ n ∧ n ≤ (s.length : Int) ∧ s.length ≤ Big) (.br (allI lowI (s.drop n.toNat)) (.leaf (.exit 0, [.unk])) (.leaf (.ret, [.val (.d (.bool false))])))
def ls27_0 : LoopS := mkL [0, 3] [2] [.v false [.str], .v false [.int .i64]] lf27_0
def S27 := mkS [str] fun ⟨⟨(s : List UInt8), _⟩, _⟩ => .chk (s.length ≤ Big) (bl (isLang s))
def L27 : Ls := [(4, ls27_0)]
theorem lt27_0 (s : List UInt8) (n : Int) : evRound T (En (E26)) (Ln L27) (loopAt 0 (loops (bodyOf Tryd.f46))) ls27_0 [.val (.d (.str s)), .val (.d (.int .i64 n))] =
    br (decide (n < (↑s.length : Int))) (chk ((0 : Int) ≤ n ∧ n < (↑s.length : Int)) (br (decide (byteAt s n < (97 : Int))) (some (Rnd.out Ex.ret [SV.val (AV.d (D.bool false))])) (chk ((0 : Int) ≤ n ∧ n < (↑s.length : Int)) (br (decide (byteAt s n > (122 : Int))) (some (Rnd.out Ex.ret [SV.val (AV.d (D.bool false))])) (some (Rnd.again [SV.val (AV.d (D.str s)), SV.val (AV.d (D.int IntKind.i64 (IntKind.i64.wrap (n + (1 : Int)))))])))))) (some (Rnd.out (Ex.exit (0 : Nat)) [SV.unk])) := by kernel_rfl
theorem lok27_0 : LoopOK T (En (E26)) (Ln L27) (loopAt 0 (loops (bodyOf Tryd.f46))) := by
  refine loopOK (live := [0, 3]) (outs := [2]) (ks := [.v false [.str], .v false [.int .i64]]) (f := lf27_0) (by kernel_rfl) ?_
  rintro ⟨⟨(s : List UInt8), _⟩, ⟨(n : Int), _⟩, _⟩ x h
  obtain ⟨⟨h0, h1, h2⟩, h⟩ := h
  have key := each_loop (T := T) (E := En E26) (LT := Ln L27) (c := loopAt 0 (loops (bodyOf Tryd.f46))) (ls := ls27_0) (s := s) (fun n => [.val (.d (.str s)), .val (.d (.int .i64 n))]) lowI (fun _ => (.ret, [.val (.d (.bool false))])) (.exit 0, [.unk])
    (Lg.Ends.out ((lt27_0 s _).trans (br_eq (fun q => by simp at q) (fun _ => rfl))))
    (fun m b hm hb hd hp => Lg.Ends.out ((lt27_0 s _).trans (by
      rw [hb]
      repeat' (first | refine br_eq (fun _ => ?_) (fun _ => ?_) | refine chk_eq ?_ ?_)
      all_goals first | rfl | (exfalso; simp at *; omega) | omega)))
    (fun m b hm hb hp => (lt27_0 s _).trans (by
      rw [hb, wrap64 (by omega) (by rw [Big_eq] at h2; omega)]
      repeat' (first | refine br_eq (fun _ => ?_) (fun _ => ?_) | refine chk_eq ?_ ?_)
      all_goals first | rfl | (exfalso; simp at *; omega) | omega)) n.toNat (by omega)
  rw [Int.toNat_of_nonneg h0] at key
  rcases Out_br h with ⟨hp, h⟩ | ⟨hp, h⟩
  · rw [hp, if_pos rfl] at key; obtain rfl := Out_leaf h; exact key
  · rw [hp, if_neg (by simp)] at key; obtain rfl := Out_leaf h; exact key
theorem t27 (s : List UInt8) : evF T (En (E26)) (Ln L27) Tryd.f46 [.d (.str s)] =
    br (s == []) (some (SV.val (AV.d (D.bool false)))) (br (decide ((↑s.length : Int) > (8 : Int))) (some (SV.val (AV.d (D.bool false)))) (chk ((0 : Int) ≤ (0 : Int) ∧ (0 : Int) ≤ (↑s.length : Int) ∧ s.length ≤ Big) (br (allI lowI (List.drop (Int.toNat (0 : Int)) s)) (some (SV.val (AV.d (D.bool true)))) (some (SV.val (AV.d (D.bool false))))))) := by kernel_rfl

theorem sat27 : Sat P 46 (S27) := by
  refine sat_mk (LT := Ln L27) hC ok26 mixed Tryd.func46 (by kernel_rfl) (c := bodyOf Tryd.f46) (by kernel_rfl) (by kernel_rfl) ?_ (loops1 (by kernel_rfl) lok27_0)
  rintro ⟨⟨(s : List UInt8), _⟩, _⟩ sv h
  obtain ⟨hs, h⟩ := h
  obtain rfl := Out_leaf h
  refine (t27 s).trans ?_
  simp only [isLang]
  repeat' (first | refine br_eq (fun _ => ?_) (fun _ => ?_) | refine chk_eq ?_ ?_)
  all_goals first | (simp_all; omega) | simp_all
def E27 : Es := (46, S27) :: E26
theorem ok27 : SatE P (En E27) := SatE.cons sat27 ok26
/-! ### function 25 -/
def lf25_0 : St [.v false [.str], .sit] → Tr (Ex × List SV) := fun ⟨⟨(s : List UInt8), _⟩, ((s2 : List UInt8), (n : Nat)), _⟩ => .chk (s2 = s ∧ n ≤ s.length) (.br (allI iriI (s.drop n)) (.leaf (.exit 0, [.unk])) (.leaf (.ret, [.val (.d (.bool false))])))
def ls25_0 : LoopS := mkL [0, 12] [2] [.v false [.str], .sit] lf25_0
def S25 := mkS [str] fun ⟨⟨(s : List UInt8), _⟩, _⟩ => .chk (s.length ≤ Big) (bl (isIri s))
def L25 : Ls := [(4, ls25_0)]
theorem lt25_0 (s : List UInt8) (n : Nat) : evRound T (En (E27)) (Ln L25) (loopAt 0 (loops (bodyOf Tryd.f43))) ls25_0 [.val (.d (.str s)), .sit s n] =
    brP (n < s.length) (chk ((0 : Int) ≤ (↑n : Int) ∧ (↑n : Int) < (↑s.length : Int)) (br (!iriI (byteAt s (↑n : Int))) (some (Rnd.out Ex.ret [SV.val (AV.d (D.bool false))])) (some (Rnd.again [SV.val (AV.d (D.str s)), SV.sit s (n + (Utf8.decode { data := s.toArray } n).snd)])))) (some (Rnd.out (Ex.exit (0 : Nat)) [SV.unk])) := by kernel_rfl
theorem lok25_0 : LoopOK T (En (E27)) (Ln L25) (loopAt 0 (loops (bodyOf Tryd.f43))) := by
  refine loopOK (live := [0, 12]) (outs := [2]) (ks := [.v false [.str], .sit]) (f := lf25_0) (by kernel_rfl) ?_
  rintro ⟨⟨(s : List UInt8), _⟩, ⟨(s2 : List UInt8), (n : Nat)⟩, _⟩ x h
  obtain ⟨⟨h0, h1⟩, h⟩ := h
  subst h0
  have key := each_loop (T := T) (E := En E27) (LT := Ln L25) (c := loopAt 0 (loops (bodyOf Tryd.f43))) (ls := ls25_0) (s := s2) (fun n => [.val (.d (.str s2)), .sit s2 n.toNat]) iriI (fun _ => (.ret, [.val (.d (.bool false))])) (.exit 0, [.unk])
    (Lg.Ends.out ((lt25_0 s2 _).trans (brP_eq (fun q => by simp at q) (fun _ => rfl))))
    (fun m b hm hb hd hp => Lg.Ends.out ((lt25_0 s2 _).trans (by
      simp only [Int.toNat_natCast]
      rw [hb]
      exact brP_eq (fun _ => chk_eq (by omega) (br_eq (fun _ => rfl) (fun q => by rw [hp] at q; cases q))) (fun q => absurd hm q))))
    (fun m b hm hb hp => (lt25_0 s2 _).trans (by
      simp only [Int.toNat_natCast]
      have hdec : (Utf8.decode { data := s2.toArray } m).2 = 1 := by
        obtain ⟨b', _, hb', hg⟩ := byteAt_drop hm
        rw [hb] at hb'
        have hsz : m < (ByteArray.mk s2.toArray).size := by show m < s2.toArray.size; simpa using hm
        rw [decode_ascii _ m hsz]
        have hg2 : (ByteArray.mk s2.toArray)[m]'hsz = s2[m] := rfl
        rw [hg2]
        have : s2[m] = b' := by have := List.getElem?_eq_some_iff.1 hg; exact this.2
        rw [this]
        have hp2 : u b ≤ 126 := by simp only [iriI, Bool.and_eq_true, decide_eq_true_eq] at hp; exact hp.2
        rw [hb'] at hp2
        omega
      rw [hb, hdec]
      refine brP_eq (fun _ => chk_eq (by omega) (br_eq (fun q => by rw [hp] at q; cases q) (fun _ => ?_))) (fun q => absurd hm q)
      rfl)) n h1
  simp only [Int.toNat_natCast] at key
  rcases Out_br h with ⟨hp, h⟩ | ⟨hp, h⟩
  · rw [hp, if_pos rfl] at key; obtain rfl := Out_leaf h; exact key
  · rw [hp, if_neg (by simp)] at key; obtain rfl := Out_leaf h; exact key
theorem t25 (s : List UInt8) : evF T (En (E27)) (Ln L25) Tryd.f43 [.d (.str s)] =
    br (s == []) (some (SV.val (AV.d (D.bool false)))) (br (decide ((↑s.length : Int) > (4096 : Int))) (some (SV.val (AV.d (D.bool false)))) (chk (s = s ∧ (0 : Nat) ≤ s.length) (br (allI iriI (List.drop (0 : Nat) s)) (some (SV.val (AV.d (D.bool true)))) (some (SV.val (AV.d (D.bool false))))))) := by kernel_rfl

theorem sat25 : Sat P 43 (S25) := by
  refine sat_mk (LT := Ln L25) hC ok27 mixed Tryd.func43 (by kernel_rfl) (c := bodyOf Tryd.f43) (by kernel_rfl) (by kernel_rfl) ?_ (loops1 (by kernel_rfl) lok25_0)
  rintro ⟨⟨(s : List UInt8), _⟩, _⟩ sv h
  obtain ⟨hs, h⟩ := h
  obtain rfl := Out_leaf h
  refine (t25 s).trans ?_
  simp only [isIri]
  repeat' (first | refine br_eq (fun _ => ?_) (fun _ => ?_) | refine chk_eq ?_ ?_)
  all_goals first | (simp_all; omega) | simp_all
def E25 : Es := (43, S25) :: E27
theorem ok25 : SatE P (En E25) := SatE.cons sat25 ok27
/-! ### function 31 -/
def lf31_0 : St [.v false [.str], .v false [.int .i64]] → Tr (Ex × List SV) := fun ⟨⟨(s : List UInt8), _⟩, ⟨(n : Int), _⟩, _⟩ => .chk (0 ≤ n ∧ n ≤ (s.length : Int) ∧ n ≤ 32 ∧ s.length ≤ Big) (.leaf (.exit 0, [.val (.d (.int .i64 (n + nameRun (32 - n.toNat) (s.drop n.toNat))))]))
def ls31_0 : LoopS := mkL [0, 3] [3] [.v false [.str], .v false [.int .i64]] lf31_0
def S31 := mkS [str] fun ⟨⟨(s : List UInt8), _⟩, _⟩ => .chk (s.length ≤ Big) (ii (named s))
def L31 : Ls := [(4, ls31_0)]
theorem lt31_0 (s : List UInt8) (n : Int) : evRound T (En (E25)) (Ln L31) (loopAt 0 (loops (bodyOf Tryd.f54))) ls31_0 [.val (.d (.str s)), .val (.d (.int .i64 n))] =
    br (decide (n < (↑s.length : Int))) (br (decide (n < (32 : Int))) (chk ((0 : Int) ≤ n ∧ n < (↑s.length : Int)) (br (letterI (byteAt s n)) (some (Rnd.again [SV.val (AV.d (D.str s)), SV.val (AV.d (D.int IntKind.i64 (IntKind.i64.wrap (n + (1 : Int)))))])) (chk ((0 : Int) ≤ n ∧ n < (↑s.length : Int)) (br (digitI (byteAt s n)) (some (Rnd.again [SV.val (AV.d (D.str s)), SV.val (AV.d (D.int IntKind.i64 (IntKind.i64.wrap (n + (1 : Int)))))])) (chk ((0 : Int) ≤ n ∧ n < (↑s.length : Int)) (br (byteAt s n == (95 : Int)) (some (Rnd.again [SV.val (AV.d (D.str s)), SV.val (AV.d (D.int IntKind.i64 (IntKind.i64.wrap (n + (1 : Int)))))])) (some (Rnd.out (Ex.exit (0 : Nat)) [SV.val (AV.d (D.int IntKind.i64 n))])))))))) (some (Rnd.out (Ex.exit (0 : Nat)) [SV.val (AV.d (D.int IntKind.i64 n))]))) (some (Rnd.out (Ex.exit (0 : Nat)) [SV.val (AV.d (D.int IntKind.i64 n))])) := by kernel_rfl
theorem lok31_0 : LoopOK T (En (E25)) (Ln L31) (loopAt 0 (loops (bodyOf Tryd.f54))) := by
  refine loopOK (live := [0, 3]) (outs := [3]) (ks := [.v false [.str], .v false [.int .i64]]) (f := lf31_0) (by kernel_rfl) ?_
  rintro ⟨⟨(s : List UInt8), _⟩, ⟨(n : Int), _⟩, _⟩ x h
  obtain ⟨⟨h0, h1, h2, h3⟩, h⟩ := h
  obtain rfl := Out_leaf h
  have key : ∀ (k m : Nat), m + k = 32 → m ≤ s.length → Lg.Ends T (En E25) (Ln L31) (loopAt 0 (loops (bodyOf Tryd.f54))) ls31_0 [.val (.d (.str s)), .val (.d (.int .i64 (m : Int)))] (.exit 0, [.val (.d (.int .i64 ((m : Int) + nameRun k (s.drop m))))]) := by
    intro k
    induction k with
    | zero =>
      intro m hm hl
      refine Lg.Ends.out ((lt31_0 s _).trans ?_)
      simp only [nameRun]
      refine br_eq (fun _ => br_eq (fun q => by simp at q; omega) (fun _ => by simp)) (fun _ => by simp)
    | succ k ih =>
      intro m hm hl
      by_cases hlt : m < s.length
      · obtain ⟨b, hd, hb, _⟩ := byteAt_drop hlt
        rw [hd]
        simp only [nameRun]
        by_cases hp : nameI (u b) = true
        · rw [if_pos hp]
          refine Lg.Ends.again ((lt31_0 s _).trans ?_ : _ = some (.again [.val (.d (.str s)), .val (.d (.int .i64 ((m + 1 : Nat) : Int)))])) ?_
          · rw [hb, wrap64 (by omega) (by rw [Big_eq] at h3; omega)]
            change nameI (b.toNat : Int) = true at hp
            repeat' (first | refine br_eq (fun _ => ?_) (fun _ => ?_) | refine chk_eq ?_ ?_)
            all_goals first | rfl | omega | (exfalso; simp at *; omega)
          · have := ih (m + 1) (by omega) (by omega)
            rw [show ((m : Int) + ((nameRun k (s.drop (m + 1)) + 1 : Nat) : Int)) = ((m + 1 : Nat) : Int) + (nameRun k (s.drop (m + 1)) : Int) by omega]
            exact this
        · rw [if_neg hp]
          refine Lg.Ends.out ((lt31_0 s _).trans ?_)
          rw [hb]
          change ¬ nameI (b.toNat : Int) = true at hp
          simp only [Int.natCast_zero, Int.add_zero, Int.ofNat_zero]
          repeat' (first | refine br_eq (fun _ => ?_) (fun _ => ?_) | refine chk_eq ?_ ?_)
          all_goals first | rfl | omega | (exfalso; simp at *; omega)
      · refine Lg.Ends.out ((lt31_0 s _).trans ?_)
        rw [List.drop_of_length_le (by omega)]
        simp only [nameRun]
        exact br_eq (fun q => by simp at q; omega) (fun _ => by simp)
  have := key (32 - n.toNat) n.toNat (by omega) (by omega)
  rw [Int.toNat_of_nonneg h0] at this
  exact this
theorem t31 (s : List UInt8) : evF T (En (E25)) (Ln L31) Tryd.f54 [.d (.str s)] =
    br (s == []) (some (SV.val (AV.d (D.int IntKind.i64 (0 : Int))))) (chk ((0 : Int) ≤ (0 : Int) ∧ (0 : Int) < (↑s.length : Int)) (br (!letterI (byteAt s (0 : Int))) (some (SV.val (AV.d (D.int IntKind.i64 (0 : Int))))) (chk ((0 : Int) ≤ (1 : Int) ∧ (1 : Int) ≤ (↑s.length : Int) ∧ (1 : Int) ≤ (32 : Int) ∧ s.length ≤ Big) (some (SV.val (AV.d (D.int IntKind.i64 ((1 : Int) + (↑(nameRun ((32 : Nat) - Int.toNat (1 : Int)) (List.drop (Int.toNat (1 : Int)) s)) : Int))))))))) := by kernel_rfl

theorem sat31 : Sat P 54 (S31) := by
  refine sat_mk (LT := Ln L31) hC ok25 mixed Tryd.func54 (by kernel_rfl) (c := bodyOf Tryd.f54) (by kernel_rfl) (by kernel_rfl) ?_ (loops1 (by kernel_rfl) lok31_0)
  rintro ⟨⟨(s : List UInt8), _⟩, _⟩ sv h
  obtain ⟨hs, h⟩ := h
  obtain rfl := Out_leaf h
  refine (t31 s).trans ?_
  refine br_eq (fun q => ?_) (fun q => ?_)
  · simp at q; subst q; rfl
  · cases s with
    | nil => simp at q
    | cons b r =>
      have hb : byteAt (b :: r) 0 = u b := rfl
      rw [hb]
      refine chk_eq (by simp) (br_eq (fun h => ?_) (fun h => ?_))
      · have h2 : letterI (u b) = false := by
          cases e : letterI (u b) with
          | false => rfl
          | true => rw [e] at h; cases h
        simp only [named]
        rw [h2]; rfl
      · have h2 : letterI (u b) = true := by
          cases e : letterI (u b) with
          | false => rw [e] at h; cases h
          | true => rfl
        refine chk_eq ⟨by omega, by simp; omega, by omega, hs⟩ ?_
        simp only [named]
        rw [h2]
        refine vi_eq ?_
        show (1 : Int) + (nameRun 31 r : Nat) = ((nameRun 31 r + 1 : Nat) : Int)
        omega
def E31 : Es := (54, S31) :: E25
theorem ok31 : SatE P (En E31) := SatE.cons sat31 ok25
/-! ### function 13 -/
def S13 := mkS [str] fun ⟨⟨(s : List UInt8), _⟩, _⟩ => .chk (s.length ≤ Big) (bl (isName s))
def L13 : Ls := []
theorem t13 (s : List UInt8) : evF T (En (E31)) (Ln L13) Tryd.f44 [.d (.str s)] =
    br (!s == []) (chk (s.length ≤ Big) (some (SV.val (AV.d (D.bool ((↑(named s) : Int) == (↑s.length : Int))))))) (some (SV.val (AV.d (D.bool false)))) := by kernel_rfl

theorem sat13 : Sat P 44 (S13) := by
  refine sat_mk (LT := Ln L13) hC ok31 mixed Tryd.func44 (by kernel_rfl) (c := bodyOf Tryd.f44) (by kernel_rfl) (by kernel_rfl) ?_ (loops0 (by kernel_rfl))
  rintro ⟨⟨(s : List UInt8), _⟩, _⟩ sv h
  obtain ⟨hs, h⟩ := h
  obtain rfl := Out_leaf h
  refine (t13 s).trans ?_
  simp only [isName]
  refine br_eq (fun q => ?_) (fun q => ?_)
  · refine chk_eq hs (vb_eq ?_)
    cases s <;> simp_all
    rw [Bool.eq_iff_iff]; simp; omega
  · simp at q; subst q; rfl
def E13 : Es := (44, S13) :: E31
theorem ok13 : SatE P (En E13) := SatE.cons sat13 ok31
/-! ### function 11 -/
def S11 := mkS [trm] fun ⟨⟨(k : Int), (a : List UInt8), (t : List UInt8), (l : List UInt8), _⟩, _⟩ => .chk (a.length ≤ Big ∧ t.length ≤ Big ∧ l.length ≤ Big) (ii (if right k a t l then 0 else 2))
def L11 : Ls := []
theorem t11 (k : Int) (a t l : List UInt8) : evF T (En (E13)) (Ln L11) Tryd.f36 [.agg [.int .i64 k, .str a, .str t, .str l]] =
    br (t == []) (br (k == (0 : Int)) (br (l == []) (br (!a == []) (some (SV.val (AV.d (D.int IntKind.i64 (2 : Int))))) (some (SV.val (AV.d (D.int IntKind.i64 (0 : Int)))))) (some (SV.val (AV.d (D.int IntKind.i64 (2 : Int)))))) (br (k == (1 : Int)) (br (l == []) (chk (a.length ≤ Big) (br (!isIri a) (some (SV.val (AV.d (D.int IntKind.i64 (2 : Int))))) (some (SV.val (AV.d (D.int IntKind.i64 (0 : Int))))))) (some (SV.val (AV.d (D.int IntKind.i64 (2 : Int)))))) (br (k == (3 : Int)) (br (k == (3 : Int)) (br (l == []) (chk (a.length ≤ Big) (br (!isName a) (some (SV.val (AV.d (D.int IntKind.i64 (2 : Int))))) (some (SV.val (AV.d (D.int IntKind.i64 (0 : Int))))))) (some (SV.val (AV.d (D.int IntKind.i64 (2 : Int)))))) (br (k == (2 : Int)) (chk (a.length ≤ Big) (br (isText a) (br (t == []) (br (l == []) (some (SV.val (AV.d (D.int IntKind.i64 (0 : Int))))) (chk (l.length ≤ Big) (br (!isLang l) (some (SV.val (AV.d (D.int IntKind.i64 (2 : Int))))) (some (SV.val (AV.d (D.int IntKind.i64 (0 : Int)))))))) (chk (t.length ≤ Big) (br (isIri t) (br (l == []) (br (l == []) (some (SV.val (AV.d (D.int IntKind.i64 (0 : Int))))) (chk (l.length ≤ Big) (br (!isLang l) (some (SV.val (AV.d (D.int IntKind.i64 (2 : Int))))) (some (SV.val (AV.d (D.int IntKind.i64 (0 : Int)))))))) (some (SV.val (AV.d (D.int IntKind.i64 (2 : Int)))))) (some (SV.val (AV.d (D.int IntKind.i64 (2 : Int)))))))) (some (SV.val (AV.d (D.int IntKind.i64 (2 : Int))))))) (some (SV.val (AV.d (D.int IntKind.i64 (2 : Int))))))) (br (k == (4 : Int)) (br (l == []) (chk (a.length ≤ Big) (br (!isName a) (some (SV.val (AV.d (D.int IntKind.i64 (2 : Int))))) (some (SV.val (AV.d (D.int IntKind.i64 (0 : Int))))))) (some (SV.val (AV.d (D.int IntKind.i64 (2 : Int)))))) (br (k == (2 : Int)) (chk (a.length ≤ Big) (br (isText a) (br (t == []) (br (l == []) (some (SV.val (AV.d (D.int IntKind.i64 (0 : Int))))) (chk (l.length ≤ Big) (br (!isLang l) (some (SV.val (AV.d (D.int IntKind.i64 (2 : Int))))) (some (SV.val (AV.d (D.int IntKind.i64 (0 : Int)))))))) (chk (t.length ≤ Big) (br (isIri t) (br (l == []) (br (l == []) (some (SV.val (AV.d (D.int IntKind.i64 (0 : Int))))) (chk (l.length ≤ Big) (br (!isLang l) (some (SV.val (AV.d (D.int IntKind.i64 (2 : Int))))) (some (SV.val (AV.d (D.int IntKind.i64 (0 : Int)))))))) (some (SV.val (AV.d (D.int IntKind.i64 (2 : Int)))))) (some (SV.val (AV.d (D.int IntKind.i64 (2 : Int)))))))) (some (SV.val (AV.d (D.int IntKind.i64 (2 : Int))))))) (some (SV.val (AV.d (D.int IntKind.i64 (2 : Int))))))))))
  (br (k == (0 : Int)) (some (SV.val (AV.d (D.int IntKind.i64 (2 : Int))))) (br (k == (1 : Int)) (some (SV.val (AV.d (D.int IntKind.i64 (2 : Int))))) (br (k == (3 : Int)) (br (k == (3 : Int)) (some (SV.val (AV.d (D.int IntKind.i64 (2 : Int))))) (br (k == (2 : Int)) (chk (a.length ≤ Big) (br (isText a) (br (t == []) (br (l == []) (some (SV.val (AV.d (D.int IntKind.i64 (0 : Int))))) (chk (l.length ≤ Big) (br (!isLang l) (some (SV.val (AV.d (D.int IntKind.i64 (2 : Int))))) (some (SV.val (AV.d (D.int IntKind.i64 (0 : Int)))))))) (chk (t.length ≤ Big) (br (isIri t) (br (l == []) (br (l == []) (some (SV.val (AV.d (D.int IntKind.i64 (0 : Int))))) (chk (l.length ≤ Big) (br (!isLang l) (some (SV.val (AV.d (D.int IntKind.i64 (2 : Int))))) (some (SV.val (AV.d (D.int IntKind.i64 (0 : Int)))))))) (some (SV.val (AV.d (D.int IntKind.i64 (2 : Int)))))) (some (SV.val (AV.d (D.int IntKind.i64 (2 : Int)))))))) (some (SV.val (AV.d (D.int IntKind.i64 (2 : Int))))))) (some (SV.val (AV.d (D.int IntKind.i64 (2 : Int))))))) (br (k == (4 : Int)) (some (SV.val (AV.d (D.int IntKind.i64 (2 : Int))))) (br (k == (2 : Int)) (chk (a.length ≤ Big) (br (isText a) (br (t == []) (br (l == []) (some (SV.val (AV.d (D.int IntKind.i64 (0 : Int))))) (chk (l.length ≤ Big) (br (!isLang l) (some (SV.val (AV.d (D.int IntKind.i64 (2 : Int))))) (some (SV.val (AV.d (D.int IntKind.i64 (0 : Int)))))))) (chk (t.length ≤ Big) (br (isIri t) (br (l == []) (br (l == []) (some (SV.val (AV.d (D.int IntKind.i64 (0 : Int))))) (chk (l.length ≤ Big) (br (!isLang l) (some (SV.val (AV.d (D.int IntKind.i64 (2 : Int))))) (some (SV.val (AV.d (D.int IntKind.i64 (0 : Int)))))))) (some (SV.val (AV.d (D.int IntKind.i64 (2 : Int)))))) (some (SV.val (AV.d (D.int IntKind.i64 (2 : Int)))))))) (some (SV.val (AV.d (D.int IntKind.i64 (2 : Int))))))) (some (SV.val (AV.d (D.int IntKind.i64 (2 : Int)))))))))) := by kernel_rfl

theorem sat11 : Sat P 36 (S11) := by
  refine sat_mk (LT := Ln L11) hC ok13 mixed Tryd.func36 (by kernel_rfl) (c := bodyOf Tryd.f36) (by kernel_rfl) (by kernel_rfl) ?_ (loops0 (by kernel_rfl))
  rintro ⟨⟨(k : Int), (a : List UInt8), (t : List UInt8), (l : List UInt8), _⟩, _⟩ sv h
  obtain ⟨⟨ha, ht, hl⟩, h⟩ := h
  obtain rfl := Out_leaf h
  refine (t11 k a t l).trans ?_
  simp only [right]
  repeat' (first | refine br_eq (fun _ => ?_) (fun _ => ?_) | refine chk_eq ?_ ?_)
  all_goals first | assumption | (refine vi_eq ?_; simp_all; done) | (exfalso; simp_all; done)
def E11 : Es := (36, S11) :: E13
theorem ok11 : SatE P (En E11) := SatE.cons sat11 ok13

end Go.Proofs.YtfafmpiajlgojaaDoor.T2
