/- Part of a proof of the seat's statements: no statement by itself. -/
import Derived.Test.YtfafmpiajlgojaaDoorT2A
set_option maxRecDepth 100000
open Go.Proofs.YtfafmpiajlgojaaDoor.Lg Go Go.Proofs.YtfafmpiajlgojaaDoor.Sp
open Go.Proofs
namespace Go.Proofs.YtfafmpiajlgojaaDoor.T2


/-! ### legation/number.digits -/
def lkndigits_0 : St [.v false [.str], .v false [.int .i64], .v false [.int .i64]] → Prop := fun ⟨⟨(s : List UInt8), _⟩, ⟨(n : Int), _⟩, ⟨(i : Int), _⟩, _⟩ => 0 ≤ i ∧ i ≤ (s.length : Int) ∧ s.length ≤ 13 ∧ 0 ≤ n ∧ n < ((10 ^ i.toNat : Nat) : Int)
def lgndigits_0 : St [.v false [.str], .v false [.int .i64], .v false [.int .i64]] → Tr (Ex × List SV) := fun ⟨⟨(s : List UInt8), _⟩, ⟨(n : Int), _⟩, ⟨(i : Int), _⟩, _⟩ => .br (allI digitI (s.drop i.toNat)) (.leaf (.exit 0, [.val (.d (.int .i64 (valF n (s.drop i.toNat))))])) (.leaf (.ret, [.val (.d (.int .i64 (0))), .val (.d (.bool  (false)))]))
def lmndigits_0 : St [.v false [.str], .v false [.int .i64], .v false [.int .i64]] → Nat := fun ⟨⟨(s : List UInt8), _⟩, ⟨(n : Int), _⟩, ⟨(i : Int), _⟩, _⟩ => s.length - i.toNat
def lsndigits_0 : LoopS := mkR [0, 4, 5] [4] [2, 3] [.v false [.str], .v false [.int .i64], .v false [.int .i64]] (fun r => .chk (lkndigits_0 r) (lgndigits_0 r))
def Lndigits : Ls := [(3, lsndigits_0)]
def Sndigits := mkS [(false, [.str])] fun ⟨⟨(s : List UInt8), _⟩, _⟩ => .chk (s.length ≤ 13) (.br (allI digitI s) (.leaf (.val (.tup [.d (.int .i64 (valN s)), .d (.bool true)]))) (.leaf (.val (.tup [.d (.int .i64 0), .d (.bool false)]))))
theorem ltndigits_0 (s : List UInt8) (n : Int) (i : Int) : evRound T (En (ErAmount)) (Ln (Lndigits)) (loopAt 0 (loops (bodyOf Tryd.f28))) (lsndigits_0) [.val (.d (.str  s)), .val (.d (.int .i64 n)), .val (.d (.int .i64 i))] =
    br (decide (i < (↑s.length : Int))) (chk ((0 : Int) ≤ i ∧ i < (↑s.length : Int)) (br (decide (byteAt s i < (48 : Int))) (some (Rnd.out Ex.ret [SV.val (AV.d (D.int IntKind.i64 (0 : Int))), SV.val (AV.d (D.bool false))])) (chk ((0 : Int) ≤ i ∧ i < (↑s.length : Int)) (br (decide (byteAt s i > (57 : Int))) (some (Rnd.out Ex.ret [SV.val (AV.d (D.int IntKind.i64 (0 : Int))), SV.val (AV.d (D.bool false))])) (chk ((0 : Int) ≤ i ∧ i < (↑s.length : Int)) (some (Rnd.again [SV.val (AV.d (D.str s)), SV.val (AV.d (D.int IntKind.i64 (IntKind.i64.wrap (IntKind.i64.wrap ((10 : Int) * n) + IntKind.i64.wrap (IntKind.u8.wrap (byteAt s i - (48 : Int))))))), SV.val (AV.d (D.int IntKind.i64 (IntKind.i64.wrap (i + (1 : Int)))))]))))))) (some (Rnd.out (Ex.exit (0 : Nat)) [SV.val (AV.d (D.int IntKind.i64 n))])) := by kernel_rfl
theorem lokndigits_0 : LoopOK T (En (ErAmount)) (Ln (Lndigits)) (loopAt 0 (loops (bodyOf Tryd.f28))) := by
  refine loop_ok (live := [0, 4, 5]) (outs := [4]) (rets := [2, 3]) (ks := [.v false [.str], .v false [.int .i64], .v false [.int .i64]]) (G := lgndigits_0) (lkndigits_0) (lmndigits_0) (by kernel_rfl) ?_
  rintro ⟨⟨(s : List UInt8), _⟩, ⟨(n : Int), _⟩, ⟨(i : Int), _⟩, _⟩ x hok hx
  refine Leads.of_eq (ltndigits_0 s n i) ?_
  obtain ⟨h0, h1, h2, h3, h4⟩ := hok
  obtain ⟨m, rfl⟩ := Int.eq_ofNat_of_zero_le h0
  simp only [lgndigits_0, Int.toNat_natCast] at hx h4
  rcases drop_cases s m with ⟨hle, hd⟩ | ⟨b, hlt, hd, hb⟩
  · rw [hd] at hx
    have := Out_leaf (Out_tt hx)
    exact Leads.brD (fun q => by omega) (fun _ => Leads.one (Goes.out (by rw [this]; rfl)))
  · have hp := pow13 (m := m) (by omega)
    have hps : (10 : Nat) ^ (m + 1) = 10 ^ m * 10 := Nat.pow_succ ..
    have u0 := u_ge b
    have u1 := u_lt b
    rw [byteAt_u hb]
    rw [hd] at hx
    have hall : allI digitI (b :: s.drop (m + 1)) = (digitI (u b) && allI digitI (s.drop (m + 1))) := rfl
    rw [hall, valF_cons] at hx
    refine Leads.brD (fun _ => Leads.chk ⟨by omega, by omega⟩ fun _ => Leads.brD (fun z => Leads.one (Goes.out ?_)) (fun z => Leads.chk ⟨by omega, by omega⟩ fun _ => Leads.brD (fun y => Leads.one (Goes.out ?_)) (fun y => Leads.chk ⟨by omega, by omega⟩ fun _ => Leads.one ?_))) (fun q => by omega)
    · have z : u b < 48 := z
      rw [show digitI (u b) = false by unfold digitI; rw [decide_eq_false (by omega)]; rfl, Bool.false_and] at hx
      exact Out_leaf (Out_ff hx)
    · have y : u b > 57 := y
      rw [show digitI (u b) = false by unfold digitI; rw [decide_eq_false (p := u b ≤ 57) (by omega), Bool.and_false], Bool.false_and] at hx
      exact Out_leaf (Out_ff hx)
    · have z : ¬ u b < 48 := z
      have y : ¬ u b > 57 := y
      rw [show digitI (u b) = true by unfold digitI; rw [decide_eq_true (by omega), decide_eq_true (by omega)]; rfl, Bool.true_and] at hx
      have e8 : IntKind.u8.wrap (u b - 48) = u b - 48 := by
        generalize u b = c at *
        rcases (by omega : c = 48 ∨ c = 49 ∨ c = 50 ∨ c = 51 ∨ c = 52 ∨ c = 53 ∨ c = 54 ∨ c = 55 ∨ c = 56 ∨ c = 57) with rfl | rfl | rfl | rfl | rfl | rfl | rfl | rfl | rfl | rfl <;> rfl
      rw [e8, wrap64 (x := u b - 48) (by omega) (by omega), wrap64 (x := 10 * n) (by omega) (by omega), wrap64 (x := 10 * n + _) (by omega) (by omega), wrap64 (x := (m : Int) + 1) (by omega) (by omega)]
      refine Goes.again (ks := [.v false [.str], .v false [.int .i64], .v false [.int .i64]]) ((s, ()), ((10 * n + (u b - 48) : Int), ()), (((m : Int) + 1 : Int), ()), ()) rfl ?_ ?_ ?_
      · exact ⟨by omega, by omega, h2, by omega, by rw [toNat_add1, hps]; omega⟩
      · simp only [lmndigits_0, toNat_add1, Int.toNat_natCast]; omega
      · simp only [lgndigits_0, toNat_add1]; exact hx
theorem tndigits (s : List UInt8) : evF T (En (ErAmount)) (Ln (Lndigits)) Tryd.f28 [.d (.str s)] =
    chk (lkndigits_0 ((s, ()), ((0 : Int), ()), ((0 : Int), ()), ())) (br (allI digitI (List.drop (Int.toNat (0 : Int)) s)) (some (SV.val (AV.tup [AV.d (D.int IntKind.i64 (valF (0 : Int) (List.drop (Int.toNat (0 : Int)) s))), AV.d (D.bool true)]))) (some (SV.val (AV.tup [AV.d (D.int IntKind.i64 (0 : Int)), AV.d (D.bool false)])))) := by kernel_rfl
theorem satndigits : Sat P 28 (Sndigits) := by
  refine sat_mk (LT := Ln (Lndigits)) hC okrAmount mixed Tryd.func28 (by kernel_rfl) (c := bodyOf Tryd.f28) (by kernel_rfl) (by kernel_rfl) ?_ (loops1 (by kernel_rfl) (lokndigits_0))
  rintro ⟨⟨(s : List UInt8), _⟩, _⟩ sv h
  refine Leads.eq (Leads.of_eq (tndigits s) ?_)
  obtain ⟨hs, h⟩ := h
  refine Leads.chk ⟨by decide, by omega, hs, by decide, by decide⟩ fun _ => ?_
  rcases Out_br h with ⟨q, h⟩ | ⟨q, h⟩
  · have h := Out_leaf h
    exact Leads.br (fun _ => Leads.one (by rw [h]; rfl)) (fun z => by have z : allI digitI s = false := z; rw [q] at z; cases z)
  · have h := Out_leaf h
    exact Leads.br (fun z => by have z : allI digitI s = true := z; rw [q] at z; cases z) (fun _ => Leads.one (by rw [h]))
def Endigits : Es := (28, Sndigits) :: ErAmount
theorem okndigits : SatE P (En (Endigits)) := SatE.cons (satndigits) okrAmount
/-! ### legation/legationref02.Digits -/
def lkrDigits_0 : St [.v false [.int .i64], .v false [.int .i64], .v false [.str]] → Prop := fun ⟨⟨(n : Int), _⟩, ⟨(least : Int), _⟩, ⟨(out : List UInt8), _⟩, _⟩ => 0 ≤ n ∧ n ≤ 999999999 ∧ 0 ≤ least ∧ least ≤ 100 ∧ out.length + (n.toNat + (least.toNat - out.length)) ≤ 2000000000
def lgrDigits_0 : St [.v false [.int .i64], .v false [.int .i64], .v false [.str]] → Tr (Ex × List SV) := fun ⟨⟨(n : Int), _⟩, ⟨(least : Int), _⟩, ⟨(out : List UInt8), _⟩, _⟩ => .leaf (.exit 0, [.val (.d (.str  (digR n.toNat (least.toNat - out.length) ++ out)))])
def lmrDigits_0 : St [.v false [.int .i64], .v false [.int .i64], .v false [.str]] → Nat := fun ⟨⟨(n : Int), _⟩, ⟨(least : Int), _⟩, ⟨(out : List UInt8), _⟩, _⟩ => n.toNat + (least.toNat - out.length)
def lsrDigits_0 : LoopS := mkR [0, 1, 5] [5] [] [.v false [.int .i64], .v false [.int .i64], .v false [.str]] (fun r => .chk (lkrDigits_0 r) (lgrDigits_0 r))
def LrDigits : Ls := [(2, lsrDigits_0)]
def SrDigits := mkS [(false, [.int .i64]), (false, [.int .i64])] fun ⟨⟨(n : Int), _⟩, ⟨(least : Int), _⟩, _⟩ => .chk (0 ≤ n ∧ n ≤ 999999999 ∧ 0 ≤ least ∧ least ≤ 100) (.leaf (.val (.d (.str (digR n.toNat least.toNat)))))
theorem ltrDigits_0 (n : Int) (least : Int) (out : List UInt8) : evRound T (En (Endigits)) (Ln (LrDigits)) (loopAt 0 (loops (bodyOf Tryd.f37))) (lsrDigits_0) [.val (.d (.int .i64 n)), .val (.d (.int .i64 least)), .val (.d (.str  out))] =
    br (decide (n > (0 : Int))) (chk (¬(10 : Int) = (0 : Int)) (chk ((↑(bytesStr [(IntKind.u8.wrap (IntKind.i64.wrap ((48 : Int) + n.tmod (10 : Int))), ())]).length : Int) + (↑out.length : Int) ≤ maxI) (chk (¬(10 : Int) = (0 : Int)) (some (Rnd.again [SV.val (AV.d (D.int IntKind.i64 (IntKind.i64.wrap (n.tdiv (10 : Int))))), SV.val (AV.d (D.int IntKind.i64 least)), SV.val (AV.d (D.str (bytesStr [(IntKind.u8.wrap (IntKind.i64.wrap ((48 : Int) + n.tmod (10 : Int))), ())] ++ out)))]))))) (br (decide ((↑out.length : Int) < least)) (chk (¬(10 : Int) = (0 : Int)) (chk ((↑(bytesStr [(IntKind.u8.wrap (IntKind.i64.wrap ((48 : Int) + n.tmod (10 : Int))), ())]).length : Int) + (↑out.length : Int) ≤ maxI) (chk (¬(10 : Int) = (0 : Int)) (some (Rnd.again [SV.val (AV.d (D.int IntKind.i64 (IntKind.i64.wrap (n.tdiv (10 : Int))))), SV.val (AV.d (D.int IntKind.i64 least)), SV.val (AV.d (D.str (bytesStr [(IntKind.u8.wrap (IntKind.i64.wrap ((48 : Int) + n.tmod (10 : Int))), ())] ++ out)))]))))) (some (Rnd.out (Ex.exit (0 : Nat)) [SV.val (AV.d (D.str out))]))) := by kernel_rfl
theorem lokrDigits_0 : LoopOK T (En (Endigits)) (Ln (LrDigits)) (loopAt 0 (loops (bodyOf Tryd.f37))) := by
  refine loop_ok (live := [0, 1, 5]) (outs := [5]) (rets := []) (ks := [.v false [.int .i64], .v false [.int .i64], .v false [.str]]) (G := lgrDigits_0) (lkrDigits_0) (lmrDigits_0) (by kernel_rfl) ?_
  rintro ⟨⟨(n : Int), _⟩, ⟨(least : Int), _⟩, ⟨(out : List UInt8), _⟩, _⟩ x hok hx
  refine Leads.of_eq (ltrDigits_0 n least out) ?_
  obtain ⟨h0, h1, h2, h3, h4⟩ := hok
  obtain rfl := Out_leaf hx
  rw [digit_byte h0 (by omega), wrapI (i64_tdiv ⟨by omega, by omega⟩)]
  have e : n.tdiv 10 = n / 10 := by rw [tdiv10, if_pos h0]
  have et : (n.tdiv 10).toNat = n.toNat / 10 := by rw [e]; omega
  have step : (0 < n.toNat ∨ 0 < least.toNat - out.length) → digR n.toNat (least.toNat - out.length) ++ out = digR (n.tdiv 10).toNat (least.toNat - ([UInt8.ofNat (48 + n.toNat % 10)] ++ out).length) ++ ([UInt8.ofNat (48 + n.toNat % 10)] ++ out) := by
    intro q
    rw [digR_step q, et, List.append_assoc]
    refine congrArg (fun z => z ++ _) (congrArg (digR _) ?_)
    rw [List.length_append, List.length_cons, List.length_nil]; omega
  refine Leads.brD (fun z => Leads.chk (by decide : ¬ (10 : Int) = 0) fun _ => Leads.chk (by simp [maxI]; omega) fun _ => Leads.chk (by decide : ¬ (10 : Int) = 0) fun _ => Leads.one ?_) (fun z => Leads.brD (fun y => Leads.chk (by decide : ¬ (10 : Int) = 0) fun _ => Leads.chk (by simp [maxI]; omega) fun _ => Leads.chk (by decide : ¬ (10 : Int) = 0) fun _ => Leads.one ?_) (fun y => Leads.one (Goes.out ?_)))
  · have z : n > 0 := z
    refine Goes.again (ks := [.v false [.int .i64], .v false [.int .i64], .v false [.str]]) (((n.tdiv 10 : Int), ()), (least, ()), (([UInt8.ofNat (48 + n.toNat % 10)] ++ out), ()), ()) rfl ?_ ?_ ?_
    · rw [e]; refine ⟨by omega, by omega, h2, h3, ?_⟩; simp; omega
    · simp only [lmrDigits_0, et, List.length_append, List.length_cons, List.length_nil]; omega
    · simp only [lgrDigits_0]; rw [step (.inl (by omega))]; rfl
  · have y : (out.length : Int) < least := y
    refine Goes.again (ks := [.v false [.int .i64], .v false [.int .i64], .v false [.str]]) (((n.tdiv 10 : Int), ()), (least, ()), (([UInt8.ofNat (48 + n.toNat % 10)] ++ out), ()), ()) rfl ?_ ?_ ?_
    · rw [e]; refine ⟨by omega, by omega, h2, h3, ?_⟩; simp; omega
    · simp only [lmrDigits_0, et, List.length_append, List.length_cons, List.length_nil]; omega
    · simp only [lgrDigits_0]; rw [step (.inr (by omega))]; rfl
  · have z : ¬ n > 0 := z
    have y : ¬ (out.length : Int) < least := y
    obtain rfl : n = 0 := by omega
    rw [show least.toNat - out.length = 0 by omega]; rfl
theorem trDigits (n : Int) (least : Int) : evF T (En (Endigits)) (Ln (LrDigits)) Tryd.f37 [.d (.int .i64 n), .d (.int .i64 least)] =
    chk (lkrDigits_0 ((n, ()), (least, ()), ([], ()), ())) (some (SV.val (AV.d (D.str (digR n.toNat (least.toNat - (List.nil (α := RowE [.int .u8])).length) ++ []))))) := by kernel_rfl
theorem satrDigits : Sat P 37 (SrDigits) := by
  refine sat_mk (LT := Ln (LrDigits)) hC okndigits mixed Tryd.func37 (by kernel_rfl) (c := bodyOf Tryd.f37) (by kernel_rfl) (by kernel_rfl) ?_ (loops1 (by kernel_rfl) (lokrDigits_0))
  rintro ⟨⟨(n : Int), _⟩, ⟨(least : Int), _⟩, _⟩ sv h
  refine Leads.eq (Leads.of_eq (trDigits n least) ?_)
  obtain ⟨⟨h0, h1, h2, h3⟩, h⟩ := h
  have h := Out_leaf h
  exact Leads.chk ⟨h0, h1, h2, h3, by simp; omega⟩ fun _ => Leads.one (by rw [h]; simp)
def ErDigits : Es := (37, SrDigits) :: Endigits
theorem okrDigits : SatE P (En (ErDigits)) := SatE.cons (satrDigits) okndigits
/-! ### legation/number.Text -/
def lknText_0 : St [.box [.v (.int .i64), .v (.int .i64), .v .bool], .v false [.str]] → Prop := fun ⟨(n : KCs [.v (.int .i64), .v (.int .i64), .v .bool]), ⟨(s : List UInt8), _⟩, _⟩ => 0 ≤ n.2.1 ∧ n.2.1 ≤ 4 ∧ s.length ≤ 100
def lgnText_0 : St [.box [.v (.int .i64), .v (.int .i64), .v .bool], .v false [.str]] → Tr (Ex × List SV) := fun ⟨(n : KCs [.v (.int .i64), .v (.int .i64), .v .bool]), ⟨(s : List UInt8), _⟩, _⟩ => .leaf (.exit 0, [.box true (KCs.svs [.v (.int .i64), .v (.int .i64), .v .bool] (n)), .val (.d (.str  (padT s (n.2.1.toNat + 1))))])
def lmnText_0 : St [.box [.v (.int .i64), .v (.int .i64), .v .bool], .v false [.str]] → Nat := fun ⟨(n : KCs [.v (.int .i64), .v (.int .i64), .v .bool]), ⟨(s : List UInt8), _⟩, _⟩ => 100 - s.length
def lsnText_0 : LoopS := mkR [1, 5] [1, 5] [] [.box [.v (.int .i64), .v (.int .i64), .v .bool], .v false [.str]] (fun r => .chk (lknText_0 r) (lgnText_0 r))
def LnText : Ls := [(6, lsnText_0)]
def SnText := mkS [(true, nmS)] fun ⟨(n : RowE nmS), _⟩ => .br (rightN n) (.leaf (.val (.tup [.d (.str (textN n)), .d (.int .i64 0)]))) (.leaf (.val (.tup [.d (.str []), .d (.int .i64 2)])))
theorem ltnText_0 (n : KCs [.v (.int .i64), .v (.int .i64), .v .bool]) (s : List UInt8) : evRound T (En (ErDigits)) (Ln (LnText)) (loopAt 0 (loops (bodyOf Tryd.f13))) (lsnText_0) [.box true (KCs.svs [.v (.int .i64), .v (.int .i64), .v .bool] n), .val (.d (.str  s))] =
    br (decide ((↑s.length : Int) ≤ n.snd.fst)) (chk ((↑[(48 : UInt8)].length : Int) + (↑s.length : Int) ≤ maxI) (some (Rnd.again [SV.box true [SV.val (AV.d (D.int IntKind.i64 n.fst)), SV.val (AV.d (D.int IntKind.i64 n.snd.fst)), SV.val (AV.d (D.bool n.snd.snd.fst))], SV.val (AV.d (D.str ([(48 : UInt8)] ++ s)))]))) (some (Rnd.out (Ex.exit (0 : Nat)) [SV.box true [SV.val (AV.d (D.int IntKind.i64 n.fst)), SV.val (AV.d (D.int IntKind.i64 n.snd.fst)), SV.val (AV.d (D.bool n.snd.snd.fst))], SV.val (AV.d (D.str s))])) := by kernel_rfl
theorem loknText_0 : LoopOK T (En (ErDigits)) (Ln (LnText)) (loopAt 0 (loops (bodyOf Tryd.f13))) := by
  refine loop_ok (live := [1, 5]) (outs := [1, 5]) (rets := []) (ks := [.box [.v (.int .i64), .v (.int .i64), .v .bool], .v false [.str]]) (G := lgnText_0) (lknText_0) (lmnText_0) (by kernel_rfl) ?_
  rintro ⟨(n : KCs [.v (.int .i64), .v (.int .i64), .v .bool]), ⟨(s : List UInt8), _⟩, _⟩ x hok hx
  refine Leads.of_eq (ltnText_0 n s) ?_
  obtain ⟨h0, h1, h2⟩ := hok
  have h0 : (0 : Int) ≤ n.2.1 := h0
  have h1 : (n.2.1 : Int) ≤ 4 := h1
  obtain rfl := Out_leaf hx
  refine Leads.brD (fun z => Leads.chk (by (try dsimp only [CE, KC.T] at *); simp only [maxI, List.length_append, List.length_cons, List.length_nil, List.length_take, List.length_drop]; omega) fun _ => Leads.one ?_) (fun z => Leads.one (Goes.out ?_))
  · have z : (s.length : Int) ≤ n.2.1 := z
    refine Goes.again (ks := [.box [.v (.int .i64), .v (.int .i64), .v .bool], .v false [.str]]) (n, ((48 :: s), ()), ()) rfl ?_ ?_ ?_
    · exact ⟨h0, h1, by show (48 :: s).length ≤ 100; rw [List.length_cons]; ((try dsimp only [CE, KC.T] at *); omega)⟩
    · show 100 - (48 :: s).length < 100 - s.length; rw [List.length_cons]; ((try dsimp only [CE, KC.T] at *); omega)
    · simp only [lgnText_0]; rw [padT_step _ _ (by ((try dsimp only [CE, KC.T] at *); omega))]; rfl
  · have z : ¬ (s.length : Int) ≤ n.2.1 := z
    rw [padT_zero _ _ (by ((try dsimp only [CE, KC.T] at *); omega))]; rfl
theorem tnText (n : RowE nmS) : evF T (En (ErDigits)) (Ln (LnText)) Tryd.f13 [.agg (rowD nmS n)] =
    br ((if rightN (n.fst, n.snd.fst, n.snd.snd.fst, ()) = true then (0 : Int) else (2 : Int)) != (0 : Int)) (some (SV.val (AV.tup [AV.d (D.str []), AV.d (D.int IntKind.i64 (if rightN (n.fst, n.snd.fst, n.snd.snd.fst, ()) = true then (0 : Int) else (2 : Int)))])))
  (chk ((10 : Int) = (10 : Int) ∧ (-9223372036854775808 : Int) ≤ max2I n.fst (IntKind.i64.wrap (-n.fst)) ∧ max2I n.fst (IntKind.i64.wrap (-n.fst)) ≤ (9223372036854775807 : Int))
    (br n.snd.snd.fst
      (chk (lknText_0 ((n.fst, n.snd.fst, n.snd.snd.fst, ()), (Lib.itoa (max2I n.fst (IntKind.i64.wrap (-n.fst))), ()), ()))
        (chk ((0 : Int) ≤ IntKind.i64.wrap ((↑(List.length (padT (Lib.itoa (max2I n.fst (IntKind.i64.wrap (-n.fst)))) (Int.toNat n.snd.fst + (1 : Nat)))) : Int) - n.snd.fst) ∧ IntKind.i64.wrap ((↑(List.length (padT (Lib.itoa (max2I n.fst (IntKind.i64.wrap (-n.fst)))) (Int.toNat n.snd.fst + (1 : Nat)))) : Int) - n.snd.fst) ≤ (↑(List.length (padT (Lib.itoa (max2I n.fst (IntKind.i64.wrap (-n.fst)))) (Int.toNat n.snd.fst + (1 : Nat)))) : Int))
          (chk ((0 : Int) ≤ IntKind.i64.wrap ((↑(List.length (padT (Lib.itoa (max2I n.fst (IntKind.i64.wrap (-n.fst)))) (Int.toNat n.snd.fst + (1 : Nat)))) : Int) - n.snd.fst) ∧ IntKind.i64.wrap ((↑(List.length (padT (Lib.itoa (max2I n.fst (IntKind.i64.wrap (-n.fst)))) (Int.toNat n.snd.fst + (1 : Nat)))) : Int) - n.snd.fst) ≤ (↑(List.length (padT (Lib.itoa (max2I n.fst (IntKind.i64.wrap (-n.fst)))) (Int.toNat n.snd.fst + (1 : Nat)))) : Int))
            (br (List.drop (IntKind.i64.wrap ((↑(List.length (padT (Lib.itoa (max2I n.fst (IntKind.i64.wrap (-n.fst)))) (Int.toNat n.snd.fst + (1 : Nat)))) : Int) - n.snd.fst)).toNat (padT (Lib.itoa (max2I n.fst (IntKind.i64.wrap (-n.fst)))) (Int.toNat n.snd.fst + (1 : Nat))) == []) (chk ((↑(List.take (IntKind.i64.wrap ((↑(List.length (padT (Lib.itoa (max2I n.fst (IntKind.i64.wrap (-n.fst)))) (Int.toNat n.snd.fst + (1 : Nat)))) : Int) - n.snd.fst)).toNat (padT (Lib.itoa (max2I n.fst (IntKind.i64.wrap (-n.fst)))) (Int.toNat n.snd.fst + (1 : Nat)))).length : Int) + (↑[(46 : UInt8)].length : Int) ≤ maxI) (chk ((↑(List.take (IntKind.i64.wrap ((↑(List.length (padT (Lib.itoa (max2I n.fst (IntKind.i64.wrap (-n.fst)))) (Int.toNat n.snd.fst + (1 : Nat)))) : Int) - n.snd.fst)).toNat (padT (Lib.itoa (max2I n.fst (IntKind.i64.wrap (-n.fst)))) (Int.toNat n.snd.fst + (1 : Nat))) ++ [(46 : UInt8)]).length : Int) + (↑[(48 : UInt8)].length : Int) ≤ maxI) (br (decide (n.fst < (0 : Int))) (chk ((↑[(45 : UInt8)].length : Int) + (↑(List.take (IntKind.i64.wrap ((↑(List.length (padT (Lib.itoa (max2I n.fst (IntKind.i64.wrap (-n.fst)))) (Int.toNat n.snd.fst + (1 : Nat)))) : Int) - n.snd.fst)).toNat (padT (Lib.itoa (max2I n.fst (IntKind.i64.wrap (-n.fst)))) (Int.toNat n.snd.fst + (1 : Nat))) ++ [(46 : UInt8)] ++ [(48 : UInt8)]).length : Int) ≤ maxI) (some (SV.val (AV.tup [AV.d (D.str ([(45 : UInt8)] ++ (List.take (IntKind.i64.wrap ((↑(List.length (padT (Lib.itoa (max2I n.fst (IntKind.i64.wrap (-n.fst)))) (Int.toNat n.snd.fst + (1 : Nat)))) : Int) - n.snd.fst)).toNat (padT (Lib.itoa (max2I n.fst (IntKind.i64.wrap (-n.fst)))) (Int.toNat n.snd.fst + (1 : Nat))) ++ [(46 : UInt8)] ++ [(48 : UInt8)]))), AV.d (D.int IntKind.i64 (0 : Int))])))) (some (SV.val (AV.tup [AV.d (D.str (List.take (IntKind.i64.wrap ((↑(List.length (padT (Lib.itoa (max2I n.fst (IntKind.i64.wrap (-n.fst)))) (Int.toNat n.snd.fst + (1 : Nat)))) : Int) - n.snd.fst)).toNat (padT (Lib.itoa (max2I n.fst (IntKind.i64.wrap (-n.fst)))) (Int.toNat n.snd.fst + (1 : Nat))) ++ [(46 : UInt8)] ++ [(48 : UInt8)])), AV.d (D.int IntKind.i64 (0 : Int))]))))))
              (chk ((↑(List.take (IntKind.i64.wrap ((↑(List.length (padT (Lib.itoa (max2I n.fst (IntKind.i64.wrap (-n.fst)))) (Int.toNat n.snd.fst + (1 : Nat)))) : Int) - n.snd.fst)).toNat (padT (Lib.itoa (max2I n.fst (IntKind.i64.wrap (-n.fst)))) (Int.toNat n.snd.fst + (1 : Nat)))).length : Int) + (↑[(46 : UInt8)].length : Int) ≤ maxI) (chk ((↑(List.take (IntKind.i64.wrap ((↑(List.length (padT (Lib.itoa (max2I n.fst (IntKind.i64.wrap (-n.fst)))) (Int.toNat n.snd.fst + (1 : Nat)))) : Int) - n.snd.fst)).toNat (padT (Lib.itoa (max2I n.fst (IntKind.i64.wrap (-n.fst)))) (Int.toNat n.snd.fst + (1 : Nat))) ++ [(46 : UInt8)]).length : Int) + (↑(List.drop (IntKind.i64.wrap ((↑(List.length (padT (Lib.itoa (max2I n.fst (IntKind.i64.wrap (-n.fst)))) (Int.toNat n.snd.fst + (1 : Nat)))) : Int) - n.snd.fst)).toNat (padT (Lib.itoa (max2I n.fst (IntKind.i64.wrap (-n.fst)))) (Int.toNat n.snd.fst + (1 : Nat)))).length : Int) ≤ maxI) (br (decide (n.fst < (0 : Int))) (chk ((↑[(45 : UInt8)].length : Int) + (↑(List.take (IntKind.i64.wrap ((↑(List.length (padT (Lib.itoa (max2I n.fst (IntKind.i64.wrap (-n.fst)))) (Int.toNat n.snd.fst + (1 : Nat)))) : Int) - n.snd.fst)).toNat (padT (Lib.itoa (max2I n.fst (IntKind.i64.wrap (-n.fst)))) (Int.toNat n.snd.fst + (1 : Nat))) ++ [(46 : UInt8)] ++ List.drop (IntKind.i64.wrap ((↑(List.length (padT (Lib.itoa (max2I n.fst (IntKind.i64.wrap (-n.fst)))) (Int.toNat n.snd.fst + (1 : Nat)))) : Int) - n.snd.fst)).toNat (padT (Lib.itoa (max2I n.fst (IntKind.i64.wrap (-n.fst)))) (Int.toNat n.snd.fst + (1 : Nat)))).length : Int) ≤ maxI) (some (SV.val (AV.tup [AV.d (D.str ([(45 : UInt8)] ++ (List.take (IntKind.i64.wrap ((↑(List.length (padT (Lib.itoa (max2I n.fst (IntKind.i64.wrap (-n.fst)))) (Int.toNat n.snd.fst + (1 : Nat)))) : Int) - n.snd.fst)).toNat (padT (Lib.itoa (max2I n.fst (IntKind.i64.wrap (-n.fst)))) (Int.toNat n.snd.fst + (1 : Nat))) ++ [(46 : UInt8)] ++ List.drop (IntKind.i64.wrap ((↑(List.length (padT (Lib.itoa (max2I n.fst (IntKind.i64.wrap (-n.fst)))) (Int.toNat n.snd.fst + (1 : Nat)))) : Int) - n.snd.fst)).toNat (padT (Lib.itoa (max2I n.fst (IntKind.i64.wrap (-n.fst)))) (Int.toNat n.snd.fst + (1 : Nat)))))), AV.d (D.int IntKind.i64 (0 : Int))])))) (some (SV.val (AV.tup [AV.d (D.str (List.take (IntKind.i64.wrap ((↑(List.length (padT (Lib.itoa (max2I n.fst (IntKind.i64.wrap (-n.fst)))) (Int.toNat n.snd.fst + (1 : Nat)))) : Int) - n.snd.fst)).toNat (padT (Lib.itoa (max2I n.fst (IntKind.i64.wrap (-n.fst)))) (Int.toNat n.snd.fst + (1 : Nat))) ++ [(46 : UInt8)] ++ List.drop (IntKind.i64.wrap ((↑(List.length (padT (Lib.itoa (max2I n.fst (IntKind.i64.wrap (-n.fst)))) (Int.toNat n.snd.fst + (1 : Nat)))) : Int) - n.snd.fst)).toNat (padT (Lib.itoa (max2I n.fst (IntKind.i64.wrap (-n.fst)))) (Int.toNat n.snd.fst + (1 : Nat))))), AV.d (D.int IntKind.i64 (0 : Int))]))))))))))
      (br (decide (n.fst < (0 : Int))) (chk ((↑[(45 : UInt8)].length : Int) + (↑(Lib.itoa (max2I n.fst (IntKind.i64.wrap (-n.fst)))).length : Int) ≤ maxI) (some (SV.val (AV.tup [AV.d (D.str ([(45 : UInt8)] ++ Lib.itoa (max2I n.fst (IntKind.i64.wrap (-n.fst))))), AV.d (D.int IntKind.i64 (0 : Int))])))) (some (SV.val (AV.tup [AV.d (D.str (Lib.itoa (max2I n.fst (IntKind.i64.wrap (-n.fst))))), AV.d (D.int IntKind.i64 (0 : Int))])))))) := by kernel_rfl
theorem satnText : Sat P 13 (SnText) := by
  refine sat_mk (LT := Ln (LnText)) hC okrDigits mixed Tryd.func13 (by kernel_rfl) (c := bodyOf Tryd.f13) (by kernel_rfl) (by kernel_rfl) ?_ (loops1 (by kernel_rfl) (loknText_0))
  rintro ⟨(n : RowE nmS), _⟩ sv h
  refine Leads.eq (Leads.of_eq (tnText n) ?_)
  rcases Out_br h with ⟨q, h⟩ | ⟨q, h⟩
  · have h := Out_leaf h
    obtain ⟨r1, r2, r3, r4, _⟩ := (rightN_iff n).1 q
    have em : max2I n.1 (IntKind.i64.wrap (-n.1)) = (n.1.natAbs : Int) := by rw [wrap64 (by ((try dsimp only [CE, KC.T] at *); omega)) (by ((try dsimp only [CE, KC.T] at *); omega))]; unfold max2I; split <;> ((try dsimp only [CE, KC.T] at *); omega)
    have ei : Go.Lib.itoa (n.1.natAbs : Int) = Go.Lib.decDigits n.1.natAbs := by unfold Go.Lib.itoa; rw [if_neg (by ((try dsimp only [CE, KC.T] at *); omega))]; simp
    have dl := dec_len (n := n.1.natAbs) 8 (by have : (10 : Nat) ^ (8 + 1) = 1000000000 := rfl; omega)
    have dp := dec_pos n.1.natAbs
    refine Leads.brN (fun _ => ?_) (fun z => absurd (by show (if rightN n = true then (0:Int) else 2) = 0; rw [q]; rfl) z)
    rw [em, ei]
    have lD := padT_len (Go.Lib.decDigits n.1.natAbs) (n.2.1.toNat + 1)
    have tx : textN n = signN n.1 ++ bodyN n := rfl
    unfold bodyN at tx
    generalize padT (Go.Lib.decDigits n.1.natAbs) (n.2.1.toNat + 1) = D at *
    rw [wrap64 (x := (D.length : Int) - n.2.1) (by ((try dsimp only [CE, KC.T] at *); omega)) (by ((try dsimp only [CE, KC.T] at *); omega)), show ((D.length : Int) - n.2.1).toNat = D.length - n.2.1.toNat by ((try dsimp only [CE, KC.T] at *); omega)]
    refine Leads.chk ⟨rfl, by ((try dsimp only [CE, KC.T] at *); omega), by ((try dsimp only [CE, KC.T] at *); omega)⟩ fun _ => Leads.br (fun dc => Leads.chk ⟨r3, r4, by ((try dsimp only [CE, KC.T] at *); omega)⟩ fun _ => Leads.chk (by ((try dsimp only [CE, KC.T] at *); omega)) fun _ => Leads.chk (by ((try dsimp only [CE, KC.T] at *); omega)) fun _ => Leads.brE (fun z => Leads.chk (by (try dsimp only [CE, KC.T] at *); simp only [maxI, List.length_append, List.length_cons, List.length_nil, List.length_take, List.length_drop]; omega) fun _ => Leads.chk (by (try dsimp only [CE, KC.T] at *); simp only [maxI, List.length_append, List.length_cons, List.length_nil, List.length_take, List.length_drop]; omega) fun _ => Leads.brD (fun y => Leads.chk (by (try dsimp only [CE, KC.T] at *); simp only [maxI, List.length_append, List.length_cons, List.length_nil, List.length_take, List.length_drop]; omega) fun _ => Leads.one ?_) (fun y => Leads.one ?_)) (fun z => Leads.chk (by (try dsimp only [CE, KC.T] at *); simp only [maxI, List.length_append, List.length_cons, List.length_nil, List.length_take, List.length_drop]; omega) fun _ => Leads.chk (by (try dsimp only [CE, KC.T] at *); simp only [maxI, List.length_append, List.length_cons, List.length_nil, List.length_take, List.length_drop]; omega) fun _ => Leads.brD (fun y => Leads.chk (by (try dsimp only [CE, KC.T] at *); simp only [maxI, List.length_append, List.length_cons, List.length_nil, List.length_take, List.length_drop]; omega) fun _ => Leads.one ?_) (fun y => Leads.one ?_))) (fun dc => Leads.brD (fun y => Leads.chk (by (try dsimp only [CE, KC.T] at *); simp only [maxI, List.length_append, List.length_cons, List.length_nil, List.length_take, List.length_drop]; omega) fun _ => Leads.one ?_) (fun y => Leads.one ?_))
    · have z : D.drop (D.length - n.2.1.toNat) = [] := z
      have y : n.1 < 0 := y
      have := congrArg List.length z
      simp only [List.length_drop, List.length_nil] at this
      rw [h, tx, if_pos dc, if_pos (by ((try dsimp only [CE, KC.T] at *); omega)), signN, if_pos y]
    · have z : D.drop (D.length - n.2.1.toNat) = [] := z
      have y : ¬ n.1 < 0 := y
      have := congrArg List.length z
      simp only [List.length_drop, List.length_nil] at this
      rw [h, tx, if_pos dc, if_pos (by ((try dsimp only [CE, KC.T] at *); omega)), signN, if_neg y]; rfl
    · have y : n.1 < 0 := y
      have n0 : ¬ n.2.1 = 0 := fun e => z (by rw [e]; exact List.drop_of_length_le (by simp))
      rw [h, tx, if_pos dc, if_neg n0, signN, if_pos y]
    · have y : ¬ n.1 < 0 := y
      have n0 : ¬ n.2.1 = 0 := fun e => z (by rw [e]; exact List.drop_of_length_le (by simp))
      rw [h, tx, if_pos dc, if_neg n0, signN, if_neg y]; rfl
    · have y : n.1 < 0 := y
      rw [h, tx, if_neg (by rw [dc]; decide), signN, if_pos y]
    · have y : ¬ n.1 < 0 := y
      rw [h, tx, if_neg (by rw [dc]; decide), signN, if_neg y]; rfl
  · have h := Out_leaf h
    have e : (if rightN n = true then (0 : Int) else 2) = 2 := by rw [q]; rfl
    refine Leads.brN (fun z => ?_) (fun _ => Leads.one ?_)
    · exfalso
      have z : (if rightN n = true then (0 : Int) else 2) = 0 := z
      omega
    · rw [h]
      show SV.val (.tup [_, .d (.int .i64 (if rightN n = true then (0 : Int) else 2))]) = _
      rw [e]
def EnText : Es := (13, SnText) :: ErDigits
theorem oknText : SatE P (En (EnText)) := SatE.cons (satnText) okrDigits
/-! ### legation/legationref02.Text -/
def LrText : Ls := []
def SrText := mkS [(true, nmS)] fun ⟨(n : RowE nmS), _⟩ => .chk (rightN n = true) (.leaf (.val (.d (.str (textN n)))))
theorem trText (n : RowE nmS) : evF T (En (EnText)) (Ln (LrText)) Tryd.f24 [.agg (rowD nmS n)] =
    br (decide (n.fst < (0 : Int)))
  (br (!n.snd.snd.fst) (chk ((0 : Int) ≤ IntKind.i64.wrap ((0 : Int) - n.fst) ∧ IntKind.i64.wrap ((0 : Int) - n.fst) ≤ (999999999 : Int) ∧ (0 : Int) ≤ (1 : Int) ∧ (1 : Int) ≤ (100 : Int)) (chk ((↑[(45 : UInt8)].length : Int) + (↑(List.length (digR (IntKind.i64.wrap ((0 : Int) - n.fst)).toNat (Int.toNat (1 : Int)))) : Int) ≤ maxI) (some (SV.val (AV.d (D.str ([(45 : UInt8)] ++ digR (IntKind.i64.wrap ((0 : Int) - n.fst)).toNat (Int.toNat (1 : Int)))))))))
    (chk ((0 : Int) ≤ IntKind.i64.wrap ((0 : Int) - n.fst) ∧ IntKind.i64.wrap ((0 : Int) - n.fst) ≤ (999999999 : Int) ∧ (0 : Int) ≤ IntKind.i64.wrap (n.snd.fst + (1 : Int)) ∧ IntKind.i64.wrap (n.snd.fst + (1 : Int)) ≤ (100 : Int)) (br (n.snd.fst == (0 : Int)) (chk ((↑[(45 : UInt8)].length : Int) + (↑(List.length (digR (IntKind.i64.wrap ((0 : Int) - n.fst)).toNat (IntKind.i64.wrap (n.snd.fst + (1 : Int))).toNat)) : Int) ≤ maxI) (chk ((↑([(45 : UInt8)] ++ digR (IntKind.i64.wrap ((0 : Int) - n.fst)).toNat (IntKind.i64.wrap (n.snd.fst + (1 : Int))).toNat).length : Int) + (↑[(46 : UInt8), (48 : UInt8)].length : Int) ≤ maxI) (some (SV.val (AV.d (D.str ([(45 : UInt8)] ++ digR (IntKind.i64.wrap ((0 : Int) - n.fst)).toNat (IntKind.i64.wrap (n.snd.fst + (1 : Int))).toNat ++ [(46 : UInt8), (48 : UInt8)]))))))) (chk ((0 : Int) ≤ IntKind.i64.wrap ((↑(List.length (digR (IntKind.i64.wrap ((0 : Int) - n.fst)).toNat (IntKind.i64.wrap (n.snd.fst + (1 : Int))).toNat)) : Int) - n.snd.fst) ∧ IntKind.i64.wrap ((↑(List.length (digR (IntKind.i64.wrap ((0 : Int) - n.fst)).toNat (IntKind.i64.wrap (n.snd.fst + (1 : Int))).toNat)) : Int) - n.snd.fst) ≤ (↑(List.length (digR (IntKind.i64.wrap ((0 : Int) - n.fst)).toNat (IntKind.i64.wrap (n.snd.fst + (1 : Int))).toNat)) : Int)) (chk ((↑[(45 : UInt8)].length : Int) + (↑(List.take (IntKind.i64.wrap ((↑(List.length (digR (IntKind.i64.wrap ((0 : Int) - n.fst)).toNat (IntKind.i64.wrap (n.snd.fst + (1 : Int))).toNat)) : Int) - n.snd.fst)).toNat (digR (IntKind.i64.wrap ((0 : Int) - n.fst)).toNat (IntKind.i64.wrap (n.snd.fst + (1 : Int))).toNat)).length : Int) ≤ maxI) (chk ((↑([(45 : UInt8)] ++ List.take (IntKind.i64.wrap ((↑(List.length (digR (IntKind.i64.wrap ((0 : Int) - n.fst)).toNat (IntKind.i64.wrap (n.snd.fst + (1 : Int))).toNat)) : Int) - n.snd.fst)).toNat (digR (IntKind.i64.wrap ((0 : Int) - n.fst)).toNat (IntKind.i64.wrap (n.snd.fst + (1 : Int))).toNat)).length : Int) + (↑[(46 : UInt8)].length : Int) ≤ maxI) (chk ((0 : Int) ≤ IntKind.i64.wrap ((↑(List.length (digR (IntKind.i64.wrap ((0 : Int) - n.fst)).toNat (IntKind.i64.wrap (n.snd.fst + (1 : Int))).toNat)) : Int) - n.snd.fst) ∧ IntKind.i64.wrap ((↑(List.length (digR (IntKind.i64.wrap ((0 : Int) - n.fst)).toNat (IntKind.i64.wrap (n.snd.fst + (1 : Int))).toNat)) : Int) - n.snd.fst) ≤ (↑(List.length (digR (IntKind.i64.wrap ((0 : Int) - n.fst)).toNat (IntKind.i64.wrap (n.snd.fst + (1 : Int))).toNat)) : Int)) (chk ((↑([(45 : UInt8)] ++ List.take (IntKind.i64.wrap ((↑(List.length (digR (IntKind.i64.wrap ((0 : Int) - n.fst)).toNat (IntKind.i64.wrap (n.snd.fst + (1 : Int))).toNat)) : Int) - n.snd.fst)).toNat (digR (IntKind.i64.wrap ((0 : Int) - n.fst)).toNat (IntKind.i64.wrap (n.snd.fst + (1 : Int))).toNat) ++ [(46 : UInt8)]).length : Int) + (↑(List.drop (IntKind.i64.wrap ((↑(List.length (digR (IntKind.i64.wrap ((0 : Int) - n.fst)).toNat (IntKind.i64.wrap (n.snd.fst + (1 : Int))).toNat)) : Int) - n.snd.fst)).toNat (digR (IntKind.i64.wrap ((0 : Int) - n.fst)).toNat (IntKind.i64.wrap (n.snd.fst + (1 : Int))).toNat)).length : Int) ≤ maxI) (some (SV.val (AV.d (D.str ([(45 : UInt8)] ++ List.take (IntKind.i64.wrap ((↑(List.length (digR (IntKind.i64.wrap ((0 : Int) - n.fst)).toNat (IntKind.i64.wrap (n.snd.fst + (1 : Int))).toNat)) : Int) - n.snd.fst)).toNat (digR (IntKind.i64.wrap ((0 : Int) - n.fst)).toNat (IntKind.i64.wrap (n.snd.fst + (1 : Int))).toNat) ++ [(46 : UInt8)] ++ List.drop (IntKind.i64.wrap ((↑(List.length (digR (IntKind.i64.wrap ((0 : Int) - n.fst)).toNat (IntKind.i64.wrap (n.snd.fst + (1 : Int))).toNat)) : Int) - n.snd.fst)).toNat (digR (IntKind.i64.wrap ((0 : Int) - n.fst)).toNat (IntKind.i64.wrap (n.snd.fst + (1 : Int))).toNat))))))))))))))
  (br (!n.snd.snd.fst) (chk ((0 : Int) ≤ n.fst ∧ n.fst ≤ (999999999 : Int) ∧ (0 : Int) ≤ (1 : Int) ∧ (1 : Int) ≤ (100 : Int)) (chk ((↑(List.nil (α := RowE [.int .u8])).length : Int) + (↑(List.length (digR (Int.toNat n.fst) (Int.toNat (1 : Int)))) : Int) ≤ maxI) (some (SV.val (AV.d (D.str ([] ++ digR (Int.toNat n.fst) (Int.toNat (1 : Int))))))))) (chk ((0 : Int) ≤ n.fst ∧ n.fst ≤ (999999999 : Int) ∧ (0 : Int) ≤ IntKind.i64.wrap (n.snd.fst + (1 : Int)) ∧ IntKind.i64.wrap (n.snd.fst + (1 : Int)) ≤ (100 : Int)) (br (n.snd.fst == (0 : Int)) (chk ((↑(List.nil (α := RowE [.int .u8])).length : Int) + (↑(List.length (digR (Int.toNat n.fst) (IntKind.i64.wrap (n.snd.fst + (1 : Int))).toNat)) : Int) ≤ maxI) (chk ((↑([] ++ digR (Int.toNat n.fst) (IntKind.i64.wrap (n.snd.fst + (1 : Int))).toNat).length : Int) + (↑[(46 : UInt8), (48 : UInt8)].length : Int) ≤ maxI) (some (SV.val (AV.d (D.str ([] ++ digR (Int.toNat n.fst) (IntKind.i64.wrap (n.snd.fst + (1 : Int))).toNat ++ [(46 : UInt8), (48 : UInt8)]))))))) (chk ((0 : Int) ≤ IntKind.i64.wrap ((↑(List.length (digR (Int.toNat n.fst) (IntKind.i64.wrap (n.snd.fst + (1 : Int))).toNat)) : Int) - n.snd.fst) ∧ IntKind.i64.wrap ((↑(List.length (digR (Int.toNat n.fst) (IntKind.i64.wrap (n.snd.fst + (1 : Int))).toNat)) : Int) - n.snd.fst) ≤ (↑(List.length (digR (Int.toNat n.fst) (IntKind.i64.wrap (n.snd.fst + (1 : Int))).toNat)) : Int)) (chk ((↑(List.nil (α := RowE [.int .u8])).length : Int) + (↑(List.take (IntKind.i64.wrap ((↑(List.length (digR (Int.toNat n.fst) (IntKind.i64.wrap (n.snd.fst + (1 : Int))).toNat)) : Int) - n.snd.fst)).toNat (digR (Int.toNat n.fst) (IntKind.i64.wrap (n.snd.fst + (1 : Int))).toNat)).length : Int) ≤ maxI) (chk ((↑([] ++ List.take (IntKind.i64.wrap ((↑(List.length (digR (Int.toNat n.fst) (IntKind.i64.wrap (n.snd.fst + (1 : Int))).toNat)) : Int) - n.snd.fst)).toNat (digR (Int.toNat n.fst) (IntKind.i64.wrap (n.snd.fst + (1 : Int))).toNat)).length : Int) + (↑[(46 : UInt8)].length : Int) ≤ maxI) (chk ((0 : Int) ≤ IntKind.i64.wrap ((↑(List.length (digR (Int.toNat n.fst) (IntKind.i64.wrap (n.snd.fst + (1 : Int))).toNat)) : Int) - n.snd.fst) ∧ IntKind.i64.wrap ((↑(List.length (digR (Int.toNat n.fst) (IntKind.i64.wrap (n.snd.fst + (1 : Int))).toNat)) : Int) - n.snd.fst) ≤ (↑(List.length (digR (Int.toNat n.fst) (IntKind.i64.wrap (n.snd.fst + (1 : Int))).toNat)) : Int)) (chk ((↑([] ++ List.take (IntKind.i64.wrap ((↑(List.length (digR (Int.toNat n.fst) (IntKind.i64.wrap (n.snd.fst + (1 : Int))).toNat)) : Int) - n.snd.fst)).toNat (digR (Int.toNat n.fst) (IntKind.i64.wrap (n.snd.fst + (1 : Int))).toNat) ++ [(46 : UInt8)]).length : Int) + (↑(List.drop (IntKind.i64.wrap ((↑(List.length (digR (Int.toNat n.fst) (IntKind.i64.wrap (n.snd.fst + (1 : Int))).toNat)) : Int) - n.snd.fst)).toNat (digR (Int.toNat n.fst) (IntKind.i64.wrap (n.snd.fst + (1 : Int))).toNat)).length : Int) ≤ maxI) (some (SV.val (AV.d (D.str ([] ++ List.take (IntKind.i64.wrap ((↑(List.length (digR (Int.toNat n.fst) (IntKind.i64.wrap (n.snd.fst + (1 : Int))).toNat)) : Int) - n.snd.fst)).toNat (digR (Int.toNat n.fst) (IntKind.i64.wrap (n.snd.fst + (1 : Int))).toNat) ++ [(46 : UInt8)] ++ List.drop (IntKind.i64.wrap ((↑(List.length (digR (Int.toNat n.fst) (IntKind.i64.wrap (n.snd.fst + (1 : Int))).toNat)) : Int) - n.snd.fst)).toNat (digR (Int.toNat n.fst) (IntKind.i64.wrap (n.snd.fst + (1 : Int))).toNat)))))))))))))) := by kernel_rfl
theorem satrText : Sat P 24 (SrText) := by
  refine sat_mk (LT := Ln (LrText)) hC oknText mixed Tryd.func24 (by kernel_rfl) (c := bodyOf Tryd.f24) (by kernel_rfl) (by kernel_rfl) ?_ (loops0 (by kernel_rfl))
  rintro ⟨(n : RowE nmS), _⟩ sv h
  refine Leads.eq (Leads.of_eq (trText n) ?_)
  obtain ⟨q, h⟩ := h
  have h := Out_leaf h
  obtain ⟨r1, r2, r3, r4, _⟩ := (rightN_iff n).1 q
  have dl := dec_len (n := n.1.natAbs) 8 (by have : (10 : Nat) ^ (8 + 1) = 1000000000 := rfl; omega)
  have dp := dec_pos n.1.natAbs
  have lD := padT_len (Go.Lib.decDigits n.1.natAbs) (n.2.1.toNat + 1)
  have tx : textN n = signN n.1 ++ bodyN n := rfl
  unfold bodyN at tx
  rw [wrap64 (x := n.2.1 + 1) (by ((try dsimp only [CE, KC.T] at *); omega)) (by ((try dsimp only [CE, KC.T] at *); omega)), wrap64 (x := (0 : Int) - n.1) (by ((try dsimp only [CE, KC.T] at *); omega)) (by ((try dsimp only [CE, KC.T] at *); omega)), show (n.2.1 + 1).toNat = n.2.1.toNat + 1 by ((try dsimp only [CE, KC.T] at *); omega), show (1 : Int).toNat = 1 from rfl]
  rw [digR_pos (l := n.2.1.toNat + 1) (by ((try dsimp only [CE, KC.T] at *); omega)), digR_pos (l := n.2.1.toNat + 1) (by ((try dsimp only [CE, KC.T] at *); omega)), digR_pos (l := 1) (by ((try dsimp only [CE, KC.T] at *); omega)), digR_pos (l := 1) (by ((try dsimp only [CE, KC.T] at *); omega))]
  refine Leads.brD (fun y => ?_) (fun y => ?_)
  · have y : n.1 < 0 := y
    rw [show ((0 : Int) - n.1).toNat = n.1.natAbs by ((try dsimp only [CE, KC.T] at *); omega), padT_zero _ 1 (by ((try dsimp only [CE, KC.T] at *); omega))]
    generalize padT (Go.Lib.decDigits n.1.natAbs) (n.2.1.toNat + 1) = D at *
    rw [wrap64 (x := (D.length : Int) - n.2.1) (by ((try dsimp only [CE, KC.T] at *); omega)) (by ((try dsimp only [CE, KC.T] at *); omega)), show ((D.length : Int) - n.2.1).toNat = D.length - n.2.1.toNat by ((try dsimp only [CE, KC.T] at *); omega)]
    refine Leads.brG (fun dc => Leads.chk ⟨by ((try dsimp only [CE, KC.T] at *); omega), by ((try dsimp only [CE, KC.T] at *); omega), by ((try dsimp only [CE, KC.T] at *); omega), by ((try dsimp only [CE, KC.T] at *); omega)⟩ fun _ => Leads.brE (fun z => Leads.chk (by (try dsimp only [CE, KC.T] at *); simp only [maxI, List.length_append, List.length_cons, List.length_nil, List.length_take, List.length_drop]; omega) fun _ => Leads.chk (by (try dsimp only [CE, KC.T] at *); simp only [maxI, List.length_append, List.length_cons, List.length_nil, List.length_take, List.length_drop]; omega) fun _ => Leads.one ?_) (fun z => Leads.chk ⟨by ((try dsimp only [CE, KC.T] at *); omega), by ((try dsimp only [CE, KC.T] at *); omega)⟩ fun _ => Leads.chk (by (try dsimp only [CE, KC.T] at *); simp only [maxI, List.length_append, List.length_cons, List.length_nil, List.length_take, List.length_drop]; omega) fun _ => Leads.chk (by (try dsimp only [CE, KC.T] at *); simp only [maxI, List.length_append, List.length_cons, List.length_nil, List.length_take, List.length_drop]; omega) fun _ => Leads.chk ⟨by ((try dsimp only [CE, KC.T] at *); omega), by ((try dsimp only [CE, KC.T] at *); omega)⟩ fun _ => Leads.chk (by (try dsimp only [CE, KC.T] at *); simp only [maxI, List.length_append, List.length_cons, List.length_nil, List.length_take, List.length_drop]; omega) fun _ => Leads.one ?_)) (fun dc => Leads.chk ⟨by ((try dsimp only [CE, KC.T] at *); omega), by ((try dsimp only [CE, KC.T] at *); omega), by decide, by decide⟩ fun _ => Leads.chk (by (try dsimp only [CE, KC.T] at *); simp only [maxI, List.length_append, List.length_cons, List.length_nil, List.length_take, List.length_drop]; omega) fun _ => Leads.one ?_)
    · have z : n.2.1 = 0 := z
      rw [h, tx, if_pos dc, if_pos z, signN, if_pos y, z]; simp
    · have z : ¬ n.2.1 = 0 := z
      rw [h, tx, if_pos dc, if_neg z, signN, if_pos y]; simp
    · rw [h, tx, if_neg (by rw [dc]; decide), signN, if_pos y]
  · have y : ¬ n.1 < 0 := y
    rw [show n.1.toNat = n.1.natAbs by ((try dsimp only [CE, KC.T] at *); omega), padT_zero _ 1 (by ((try dsimp only [CE, KC.T] at *); omega))]
    generalize padT (Go.Lib.decDigits n.1.natAbs) (n.2.1.toNat + 1) = D at *
    rw [wrap64 (x := (D.length : Int) - n.2.1) (by ((try dsimp only [CE, KC.T] at *); omega)) (by ((try dsimp only [CE, KC.T] at *); omega)), show ((D.length : Int) - n.2.1).toNat = D.length - n.2.1.toNat by ((try dsimp only [CE, KC.T] at *); omega)]
    refine Leads.brG (fun dc => Leads.chk ⟨by ((try dsimp only [CE, KC.T] at *); omega), by ((try dsimp only [CE, KC.T] at *); omega), by ((try dsimp only [CE, KC.T] at *); omega), by ((try dsimp only [CE, KC.T] at *); omega)⟩ fun _ => Leads.brE (fun z => Leads.chk (by (try dsimp only [CE, KC.T] at *); simp only [maxI, List.length_append, List.length_cons, List.length_nil, List.length_take, List.length_drop]; omega) fun _ => Leads.chk (by (try dsimp only [CE, KC.T] at *); simp only [maxI, List.length_append, List.length_cons, List.length_nil, List.length_take, List.length_drop]; omega) fun _ => Leads.one ?_) (fun z => Leads.chk ⟨by ((try dsimp only [CE, KC.T] at *); omega), by ((try dsimp only [CE, KC.T] at *); omega)⟩ fun _ => Leads.chk (by (try dsimp only [CE, KC.T] at *); simp only [maxI, List.length_append, List.length_cons, List.length_nil, List.length_take, List.length_drop]; omega) fun _ => Leads.chk (by (try dsimp only [CE, KC.T] at *); simp only [maxI, List.length_append, List.length_cons, List.length_nil, List.length_take, List.length_drop]; omega) fun _ => Leads.chk ⟨by ((try dsimp only [CE, KC.T] at *); omega), by ((try dsimp only [CE, KC.T] at *); omega)⟩ fun _ => Leads.chk (by (try dsimp only [CE, KC.T] at *); simp only [maxI, List.length_append, List.length_cons, List.length_nil, List.length_take, List.length_drop]; omega) fun _ => Leads.one ?_)) (fun dc => Leads.chk ⟨by ((try dsimp only [CE, KC.T] at *); omega), by ((try dsimp only [CE, KC.T] at *); omega), by decide, by decide⟩ fun _ => Leads.chk (by (try dsimp only [CE, KC.T] at *); simp only [maxI, List.length_append, List.length_cons, List.length_nil, List.length_take, List.length_drop]; omega) fun _ => Leads.one ?_)
    · have z : n.2.1 = 0 := z
      rw [h, tx, if_pos dc, if_pos z, signN, if_neg y, z]; simp
    · have z : ¬ n.2.1 = 0 := z
      rw [h, tx, if_pos dc, if_neg z, signN, if_neg y]; simp
    · rw [h, tx, if_neg (by rw [dc]; decide), signN, if_neg y]
def ErText : Es := (24, SrText) :: EnText
theorem okrText : SatE P (En (ErText)) := SatE.cons (satrText) oknText
end Go.Proofs.YtfafmpiajlgojaaDoor.T2
