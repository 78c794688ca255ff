/- Part of a proof of the seat's statements: no statement by itself. -/
import Derived.Test.YtglchbjdjnffcaaQ3
import Derived.Test.YtglchbjdjnffcaaSpB
set_option maxRecDepth 100000
open Go.Proofs.Ytglchbjdjnffcaa.Lg Go Go.Proofs.Ytglchbjdjnffcaa.Sp
open Go.Proofs
namespace Go.Proofs.Ytglchbjdjnffcaa.T3
attribute [local simp] letterI digitI nameI badI iriI textI lowI

/-! ### function 54 -/
def S54 := mkS [str, byt] fun ⟨⟨(s : List UInt8), _⟩, ⟨(c : Int), _⟩, _⟩ => .leaf (.val (.d (.int .i64 (Lib.indexByte s c.toNat.toUInt8))))
def L54 : Ls := []
theorem sat54 : SatX P 81 S54 := satX_indexByte Try.func81 (by kernel_rfl) (by kernel_rfl) (by kernel_rfl) (by kernel_rfl)
def E54 : Es := (81, S54) :: E12
theorem ok54 : SatE P (En E54) := SatE.consX sat54 ok12
/-! ### function 47 -/
def S47 := mkS [str, byt] fun ⟨⟨(s : List UInt8), _⟩, ⟨(c : Int), _⟩, _⟩ => .leaf (.val (.d (.int .i64 (Lib.indexByte s c.toNat.toUInt8))))
def L47 : Ls := []
theorem t47 (s : List UInt8) (c : Int) : evF T (En (E54)) (Ln L47) Try.f69 [.d (.str s), .d (.int .u8 c)] =
    some (SV.val (AV.d (D.int IntKind.i64 (Lib.indexByte s c.toNat.toUInt8)))) := by kernel_rfl

theorem sat47 : Sat P 69 (S47) := by
  refine sat_mk (LT := Ln L47) hC ok54 mixed Try.func69 (by kernel_rfl) (c := bodyOf Try.f69) (by kernel_rfl) (by kernel_rfl) ?_ (loops0 (by kernel_rfl))
  rintro ⟨⟨(s : List UInt8), _⟩, ⟨(c : Int), _⟩, _⟩ sv h
  obtain rfl := Out_leaf h
  exact t47 s c
def E47 : Es := (69, S47) :: E54
theorem ok47 : SatE P (En E47) := SatE.cons sat47 ok54
/-! ### function 35 -/
def S35 := mkS [str, byt] fun ⟨⟨(s : List UInt8), _⟩, ⟨(c : Int), _⟩, _⟩ => .leaf (.val (.d (.int .i64 (Lib.indexByte s c.toNat.toUInt8))))
def L35 : Ls := []
theorem t35 (s : List UInt8) (c : Int) : evF T (En (E47)) (Ln L35) Try.f55 [.d (.str s), .d (.int .u8 c)] =
    some (SV.val (AV.d (D.int IntKind.i64 (Lib.indexByte s c.toNat.toUInt8)))) := by kernel_rfl

theorem sat35 : Sat P 55 (S35) := by
  refine sat_mk (LT := Ln L35) hC ok47 mixed Try.func55 (by kernel_rfl) (c := bodyOf Try.f55) (by kernel_rfl) (by kernel_rfl) ?_ (loops0 (by kernel_rfl))
  rintro ⟨⟨(s : List UInt8), _⟩, ⟨(c : Int), _⟩, _⟩ sv h
  obtain rfl := Out_leaf h
  exact t35 s c
def E35 : Es := (55, S35) :: E47
theorem ok35 : SatE P (En E35) := SatE.cons sat35 ok47
/-! ### function 49 -/
def S49 := mkS [str, str] fun ⟨⟨(s : List UInt8), _⟩, ⟨(p : List UInt8), _⟩, _⟩ => .chk (s.length ≤ Big ∧ p.length ≤ Big) (bl (decide (s.take p.length = p)))
def L49 : Ls := []
theorem t49 (s p : List UInt8) : evF T (En (E35)) (Ln L49) Try.f59 [.d (.str s), .d (.str p)] =
    br (decide ((↑s.length : Int) ≥ (↑p.length : Int))) (chk ((0 : Int) ≤ (↑p.length : Int) ∧ (↑p.length : Int) ≤ (↑s.length : Int)) (some (SV.val (AV.d (D.bool (List.take (↑p.length : Int).toNat s == p)))))) (some (SV.val (AV.d (D.bool false)))) := by kernel_rfl

theorem sat49 : Sat P 59 (S49) := by
  refine sat_mk (LT := Ln L49) hC ok35 mixed Try.func59 (by kernel_rfl) (c := bodyOf Try.f59) (by kernel_rfl) (by kernel_rfl) ?_ (loops0 (by kernel_rfl))
  rintro ⟨⟨(s : List UInt8), _⟩, ⟨(p : List UInt8), _⟩, _⟩ sv h
  obtain ⟨hs, h⟩ := h
  obtain rfl := Out_leaf h
  refine (t49 s p).trans ?_
  refine br_eq (fun q => chk_eq ?_ (vb_eq ?_)) (fun q => vb_eq ?_)
  · simp at q; omega
  · rw [Bool.eq_iff_iff]; simp
  · simp at q
    symm
    rw [decide_eq_false_iff_not]
    intro e
    have := congrArg List.length e
    simp at this; omega
def E49 : Es := (59, S49) :: E35
theorem ok49 : SatE P (En E49) := SatE.cons sat49 ok35
/-! ### function 37 -/
def S37 := mkS [str, str] fun ⟨⟨(s : List UInt8), _⟩, ⟨(p : List UInt8), _⟩, _⟩ => .chk (s.length ≤ Big ∧ p.length ≤ Big) (bl (decide (s.take p.length = p)))
def L37 : Ls := []
theorem t37 (s p : List UInt8) : evF T (En (E49)) (Ln L37) Try.f41 [.d (.str s), .d (.str p)] =
    chk (s.length ≤ Big ∧ p.length ≤ Big) (some (SV.val (AV.d (D.bool (decide (List.take p.length s = p)))))) := by kernel_rfl

theorem sat37 : Sat P 41 (S37) := by
  refine sat_mk (LT := Ln L37) hC ok49 mixed Try.func41 (by kernel_rfl) (c := bodyOf Try.f41) (by kernel_rfl) (by kernel_rfl) ?_ (loops0 (by kernel_rfl))
  rintro ⟨⟨(s : List UInt8), _⟩, ⟨(p : List UInt8), _⟩, _⟩ sv h
  obtain ⟨hs, h⟩ := h
  obtain rfl := Out_leaf h
  exact (t37 s p).trans (chk_eq hs rfl)
def E37 : Es := (41, S37) :: E49
theorem ok37 : SatE P (En E37) := SatE.cons sat37 ok49
/-! ### function 33 -/
def lf33_0 : St [.v false [.str], .a [.int .u8], .v false [.int .i64]] → Tr (Ex × List SV) := fun ⟨⟨(s : List UInt8), _⟩, (out : List (RowE [.int .u8])), ⟨(n : Int), _⟩, _⟩ => .chk (0 ≤ n ∧ n ≤ (s.length : Int) ∧ s.length ≤ 4096 ∧ out.length + 2 * (s.length - n.toNat) ≤ 100000) (.leaf (.exit 0, [.app [.int .u8] (out ++ rowsB (esc (s.drop n.toNat)))]))
def ls33_0 : LoopS := mkL [0, 3, 4] [3] [.v false [.str], .a [.int .u8], .v false [.int .i64]] lf33_0
def S33 := mkS [str] fun ⟨⟨(s : List UInt8), _⟩, _⟩ => .chk (s.length ≤ 4096) (.leaf (.val (.d (.str (quotedS s)))))
def L33 : Ls := [(3, ls33_0)]
theorem lt33_0 (s : List UInt8) (out : List (RowE [.int .u8])) (n : Int) : evRound T (En (E37)) (Ln L33) (loopAt 0 (loops (bodyOf Try.f52))) ls33_0 [.val (.d (.str s)), .app [.int .u8] out, .val (.d (.int .i64 n))] =
    br (decide (n < (↑s.length : Int))) (chk ((0 : Int) ≤ n ∧ n < (↑s.length : Int)) (br (byteAt s n == (34 : Int)) (br (byteAt s n == (34 : Int)) (chk ((0 : Int) ≤ n ∧ n < (↑s.length : Int)) (chk (((↑out.length : Int) + (↑[((92 : Int), ()), (byteAt s n, ())].length : Int)) * (↑(1 : Nat) : Int) < lim) (some (Rnd.again [SV.val (AV.d (D.str s)), SV.app [Sh.int IntKind.u8] (out ++ [((92 : Int), ()), (byteAt s n, ())]), SV.val (AV.d (D.int IntKind.i64 (IntKind.i64.wrap (n + (1 : Int)))))])))) (br (byteAt s n == (10 : Int)) (chk (((↑out.length : Int) + (↑[((92 : Int), ()), ((110 : Int), ())].length : Int)) * (↑(1 : Nat) : Int) < lim) (some (Rnd.again [SV.val (AV.d (D.str s)), SV.app [Sh.int IntKind.u8] (out ++ [((92 : Int), ()), ((110 : Int), ())]), SV.val (AV.d (D.int IntKind.i64 (IntKind.i64.wrap (n + (1 : Int)))))]))) (br (byteAt s n == (9 : Int)) (chk (((↑out.length : Int) + (↑[((92 : Int), ()), ((116 : Int), ())].length : Int)) * (↑(1 : Nat) : Int) < lim) (some (Rnd.again [SV.val (AV.d (D.str s)), SV.app [Sh.int IntKind.u8] (out ++ [((92 : Int), ()), ((116 : Int), ())]), SV.val (AV.d (D.int IntKind.i64 (IntKind.i64.wrap (n + (1 : Int)))))]))) (chk ((0 : Int) ≤ n ∧ n < (↑s.length : Int)) (chk (((↑out.length : Int) + (↑[(byteAt s n, ())].length : Int)) * (↑(1 : Nat) : Int) < lim) (some (Rnd.again [SV.val (AV.d (D.str s)), SV.app [Sh.int IntKind.u8] (out ++ [(byteAt s n, ())]), SV.val (AV.d (D.int IntKind.i64 (IntKind.i64.wrap (n + (1 : Int)))))]))))))) (br (byteAt s n == (92 : Int)) (chk ((0 : Int) ≤ n ∧ n < (↑s.length : Int)) (chk (((↑out.length : Int) + (↑[((92 : Int), ()), (byteAt s n, ())].length : Int)) * (↑(1 : Nat) : Int) < lim) (some (Rnd.again [SV.val (AV.d (D.str s)), SV.app [Sh.int IntKind.u8] (out ++ [((92 : Int), ()), (byteAt s n, ())]), SV.val (AV.d (D.int IntKind.i64 (IntKind.i64.wrap (n + (1 : Int)))))])))) (br (byteAt s n == (10 : Int)) (chk (((↑out.length : Int) + (↑[((92 : Int), ()), ((110 : Int), ())].length : Int)) * (↑(1 : Nat) : Int) < lim) (some (Rnd.again [SV.val (AV.d (D.str s)), SV.app [Sh.int IntKind.u8] (out ++ [((92 : Int), ()), ((110 : Int), ())]), SV.val (AV.d (D.int IntKind.i64 (IntKind.i64.wrap (n + (1 : Int)))))]))) (br (byteAt s n == (9 : Int)) (chk (((↑out.length : Int) + (↑[((92 : Int), ()), ((116 : Int), ())].length : Int)) * (↑(1 : Nat) : Int) < lim) (some (Rnd.again [SV.val (AV.d (D.str s)), SV.app [Sh.int IntKind.u8] (out ++ [((92 : Int), ()), ((116 : Int), ())]), SV.val (AV.d (D.int IntKind.i64 (IntKind.i64.wrap (n + (1 : Int)))))]))) (chk ((0 : Int) ≤ n ∧ n < (↑s.length : Int)) (chk (((↑out.length : Int) + (↑[(byteAt s n, ())].length : Int)) * (↑(1 : Nat) : Int) < lim) (some (Rnd.again [SV.val (AV.d (D.str s)), SV.app [Sh.int IntKind.u8] (out ++ [(byteAt s n, ())]), SV.val (AV.d (D.int IntKind.i64 (IntKind.i64.wrap (n + (1 : Int)))))]))))))))) (some (Rnd.out (Ex.exit (0 : Nat)) [SV.app [Sh.int IntKind.u8] out])) := by kernel_rfl
theorem lok33_0 : LoopOK T (En (E37)) (Ln L33) (loopAt 0 (loops (bodyOf Try.f52))) := by
  refine loopOK (live := [0, 3, 4]) (outs := [3]) (ks := [.v false [.str], .a [.int .u8], .v false [.int .i64]]) (f := lf33_0) (by kernel_rfl) ?_
  rintro ⟨⟨(s : List UInt8), _⟩, (out : List (RowE [.int .u8])), ⟨(n : Int), _⟩, _⟩ x h
  obtain ⟨⟨h0, h1, h2, h3⟩, h⟩ := h
  obtain rfl := Out_leaf h
  clear h
  have key : ∀ (k m : Nat) (out : List (RowE [.int .u8])), m + k = s.length → out.length + 2 * k ≤ 100000 → Lg.Ends T (En E37) (Ln L33) (loopAt 0 (loops (bodyOf Try.f52))) ls33_0 [.val (.d (.str s)), .app [.int .u8] out, .val (.d (.int .i64 (m : Int)))] (.exit 0, [.app [.int .u8] (out ++ rowsB (esc (s.drop m)))]) := by
    intro k
    induction k with
    | zero =>
      intro m out hm hl
      refine Lg.Ends.out ((lt33_0 s out _).trans (br_eq (fun q => by simp at q; omega) (fun _ => ?_)))
      rw [List.drop_of_length_le (by omega)]
      simp [esc, rowsB]
    | succ k ih =>
      intro m out hm hl
      have hlt : m < s.length := by omega
      obtain ⟨b, hd, hb, _⟩ := byteAt_drop hlt
      have hb : byteAt s m = u b := hb
      have hlen : (escB b).length ≤ 2 := by
        unfold escB
        split
        · simp
        · split
          · simp
          · split <;> simp
      have := ih (m + 1) (out ++ rowsB (escB b)) (by omega) (by simp [rowsB]; omega)
      rw [hd]
      simp only [esc]
      rw [rowsB_append, ← List.append_assoc]
      refine Lg.Ends.again ((lt33_0 s out _).trans ?_) this
      rw [hb, wrap64 (by omega) (by omega)]
      unfold escB
      repeat' (first | refine br_eq (fun _ => ?_) (fun _ => ?_) | refine chk_eq ?_ ?_)
      all_goals first | omega | (simp only [lim, List.length_cons, List.length_nil]; omega) | (simp only [beq_iff_eq, beq_eq_false_iff_ne] at *; simp [rowsB, u92, u110, u116, *]; done) | (simp only [beq_iff_eq, beq_eq_false_iff_ne] at *; simp [rowsB, u, *]; done) | (exfalso; simp at *; omega) | (exfalso; simp_all; done)
  have := key (s.length - n.toNat) n.toNat out (by omega) (by omega)
  rw [Int.toNat_of_nonneg h0] at this
  exact this
theorem t33 (s : List UInt8) : evF T (En (E37)) (Ln L33) Try.f52 [.d (.str s)] =
    chk ((0 : Int) ≤ (0 : Int) ∧ (0 : Int) ≤ (↑s.length : Int) ∧ s.length ≤ (4096 : Nat) ∧ [((34 : Int), ())].length + (2 : Nat) * (s.length - Int.toNat (0 : Int)) ≤ (100000 : Nat)) (chk (((↑([((34 : Int), ())] ++ rowsB (esc (List.drop (Int.toNat (0 : Int)) s))).length : Int) + (↑[((34 : Int), ())].length : Int)) * (↑(1 : Nat) : Int) < lim) (some (SV.val (AV.d (D.str (bytesStr ([((34 : Int), ())] ++ rowsB (esc (List.drop (Int.toNat (0 : Int)) s)) ++ [((34 : Int), ())]))))))) := by kernel_rfl

theorem sat33 : Sat P 52 (S33) := by
  refine sat_mk (LT := Ln L33) hC ok37 mixed Try.func52 (by kernel_rfl) (c := bodyOf Try.f52) (by kernel_rfl) (by kernel_rfl) ?_ (loops1 (by kernel_rfl) lok33_0)
  rintro ⟨⟨(s : List UInt8), _⟩, _⟩ sv h
  obtain ⟨hs, h⟩ := h
  obtain rfl := Out_leaf h
  have he := esc_le s
  refine (t33 s).trans ?_
  repeat' (first | refine br_eq (fun _ => ?_) (fun _ => ?_) | refine chk_eq ?_ ?_)
  all_goals first | (simp [lim, rowsB]; omega) | skip
  refine vs_eq ?_
  have e : ([((34 : Int), ())] ++ rowsB (esc (s.drop (Int.toNat 0))) ++ [((34 : Int), ())] : List (RowE [.int .u8])) = rowsB (quotedS s) := by simp [quotedS, rowsB, u34]
  exact (congrArg bytesStr e).trans (bytesStr_rowsB _)
def E33 : Es := (52, S33) :: E37
theorem ok33 : SatE P (En E33) := SatE.cons sat33 ok37
/-! ### function 16 -/
def S16 := mkS [trm] fun ⟨⟨(k : Int), (a : List UInt8), (t : List UInt8), (l : List UInt8), _⟩, _⟩ => .chk (a.length ≤ 140737488355328 ∧ t.length ≤ 140737488355328 ∧ l.length ≤ 140737488355328) (.br (right k a t l) (.leaf (.val (.tup [.d (.str (textS k a t l)), .d (.int .i64 0)]))) (.leaf (.val (.tup [.d (.str []), .d (.int .i64 2)]))))
def L16 : Ls := []
theorem t16 (k : Int) (a t l : List UInt8) : evF T (En (E33)) (Ln L16) Try.f37 [.agg [.int .i64 k, .str a, .str t, .str l]] =
    chk (a.length ≤ Big ∧ t.length ≤ Big ∧ l.length ≤ Big) (br ((if right k a t l = true then (0 : Int) else (2 : Int)) != (0 : Int)) (some (SV.val (AV.tup [AV.d (D.str []), AV.d (D.int IntKind.i64 (if right k a t l = true then (0 : Int) else (2 : Int)))]))) (br (k == (1 : Int)) (chk ((↑[(60 : UInt8)].length : Int) + (↑a.length : Int) ≤ maxI) (chk ((↑([(60 : UInt8)] ++ a).length : Int) + (↑[(62 : UInt8)].length : Int) ≤ maxI) (some (SV.val (AV.tup [AV.d (D.str ([(60 : UInt8)] ++ a ++ [(62 : UInt8)])), AV.d (D.int IntKind.i64 (0 : Int))]))))) (br (k == (3 : Int)) (chk ((↑[(95 : UInt8), (58 : UInt8)].length : Int) + (↑a.length : Int) ≤ maxI) (some (SV.val (AV.tup [AV.d (D.str ([(95 : UInt8), (58 : UInt8)] ++ a)), AV.d (D.int IntKind.i64 (0 : Int))])))) (br (k == (4 : Int)) (chk ((↑[(63 : UInt8)].length : Int) + (↑a.length : Int) ≤ maxI) (some (SV.val (AV.tup [AV.d (D.str ([(63 : UInt8)] ++ a)), AV.d (D.int IntKind.i64 (0 : Int))])))) (br (k == (2 : Int)) (chk (a.length ≤ (4096 : Nat)) (br (!t == []) (chk ((↑[(94 : UInt8), (94 : UInt8), (60 : UInt8)].length : Int) + (↑t.length : Int) ≤ maxI) (chk ((↑([(94 : UInt8), (94 : UInt8), (60 : UInt8)] ++ t).length : Int) + (↑[(62 : UInt8)].length : Int) ≤ maxI) (chk ((↑(List.length (quotedS a)) : Int) + (↑([(94 : UInt8), (94 : UInt8), (60 : UInt8)] ++ t ++ [(62 : UInt8)]).length : Int) ≤ maxI) (br (!l == []) (chk ((↑[(64 : UInt8)].length : Int) + (↑l.length : Int) ≤ maxI) (chk ((↑(quotedS a ++ ([(94 : UInt8), (94 : UInt8), (60 : UInt8)] ++ t ++ [(62 : UInt8)])).length : Int) + (↑([(64 : UInt8)] ++ l).length : Int) ≤ maxI) (some (SV.val (AV.tup [AV.d (D.str (quotedS a ++ ([(94 : UInt8), (94 : UInt8), (60 : UInt8)] ++ t ++ [(62 : UInt8)]) ++ ([(64 : UInt8)] ++ l))), AV.d (D.int IntKind.i64 (0 : Int))]))))) (some (SV.val (AV.tup [AV.d (D.str (quotedS a ++ ([(94 : UInt8), (94 : UInt8), (60 : UInt8)] ++ t ++ [(62 : UInt8)]))), AV.d (D.int IntKind.i64 (0 : Int))]))))))) (br (!l == []) (chk ((↑[(64 : UInt8)].length : Int) + (↑l.length : Int) ≤ maxI) (chk ((↑(List.length (quotedS a)) : Int) + (↑([(64 : UInt8)] ++ l).length : Int) ≤ maxI) (some (SV.val (AV.tup [AV.d (D.str (quotedS a ++ ([(64 : UInt8)] ++ l))), AV.d (D.int IntKind.i64 (0 : Int))]))))) (some (SV.val (AV.tup [AV.d (D.str (quotedS a)), AV.d (D.int IntKind.i64 (0 : Int))])))))) (some (SV.val (AV.tup [AV.d (D.str []), AV.d (D.int IntKind.i64 (0 : Int))])))))))) := by kernel_rfl

theorem sat16 : Sat P 37 (S16) := by
  refine sat_mk (LT := Ln L16) hC ok33 mixed Try.func37 (by kernel_rfl) (c := bodyOf Try.f37) (by kernel_rfl) (by kernel_rfl) ?_ (loops0 (by kernel_rfl))
  rintro ⟨⟨(k : Int), (a : List UInt8), (t : List UInt8), (l : List UInt8), _⟩, _⟩ sv h
  obtain ⟨⟨ha, ht, hl⟩, h⟩ := h
  have hB := Big_eq
  refine (t16 k a t l).trans ?_
  refine chk_eq ⟨by omega, by omega, by omega⟩ ?_
  rcases Out_br h with ⟨hr, h⟩ | ⟨hr, h⟩
  · obtain rfl := Out_leaf h
    rw [if_pos hr]
    clear h
    have hq : k = 2 → a.length ≤ 4096 := by
      intro e; subst e; simp [right, isText] at hr; omega
    have hql : (quotedS a).length ≤ 2 * a.length + 2 := by simp [quotedS]; have := esc_le a; omega
    refine br_eq (fun q => by simp at q) (fun _ => ?_)
    repeat' (first | refine br_eq (fun _ => ?_) (fun _ => ?_) | refine chk_eq ?_ ?_)
    all_goals first | (simp only [beq_iff_eq] at *; exact hq (by assumption)) | (simp only [List.length_append, List.length_cons, List.length_nil, maxI, beq_iff_eq] at *; have := hq (by assumption); omega) | (simp only [List.length_append, List.length_cons, List.length_nil, maxI]; omega) | (simp only [beq_iff_eq, beq_eq_false_iff_ne, Bool.not_eq_eq_eq_not, Bool.not_true, Bool.not_false] at *; simp [textS, *]; done)
  · obtain rfl := Out_leaf h
    rw [hr]
    exact br_eq (fun _ => rfl) (fun q => by simp at q)
def E16 : Es := (37, S16) :: E33
theorem ok16 : SatE P (En E16) := SatE.cons sat16 ok33
def pref (p : R) : Tr SV := .leaf (.val (.tup [.agg [.int .i64 p.1, .str p.2.1, .str p.2.2.1, .str p.2.2.2.1], .d (.int .i64 p.2.2.2.2)]))
def S20 (N : Nat) := mkS [str] fun ⟨⟨(s : List UInt8), _⟩, _⟩ => .chk (s.length < N ∧ okP s) (pref (prefixS s))
def E20 (N : Nat) : Es := (40, S20 N) :: E16
/-! ### function 48 -/
def lf48_0 : St [.v false [.str], .v false [.int .i64]] → Tr (Ex × List SV) := fun ⟨⟨(s : List UInt8), _⟩, ⟨(n : Int), _⟩, _⟩ => .chk (0 ≤ n ∧ n ≤ (s.length : Int) ∧ s.length ≤ Big) (.leaf (.exit 0, [.val (.d (.str s)), .val (.d (.int .i64 (n + (lowRun (s.drop n.toNat)).length)))]))
def ls48_0 : LoopS := mkL [1, 10] [1, 10] [.v false [.str], .v false [.int .i64]] lf48_0
def S48 (N : Nat) := mkS [trm, str, int] fun ⟨⟨(k : Int), (a : List UInt8), (t : List UInt8), (l : List UInt8), _⟩, ⟨(s : List UInt8), _⟩, ⟨(i : Int), _⟩, _⟩ => .chk (s.length ≤ Big ∧ 0 ≤ i ∧ i ≤ (s.length : Int) ∧ ((s.drop i.toNat).take 2 = [94, 94] → (s.drop (i.toNat + 2)).length < N ∧ okP (s.drop (i.toNat + 2)))) (pref (behindS k a t l s i.toNat))
def L48 : Ls := [(9, ls48_0)]
theorem lt48_0 (N : Nat) (s : List UInt8) (n : Int) : evRound T (En (E20 N)) (Ln L48) (loopAt 0 (loops (bodyOf Try.f74))) ls48_0 [.val (.d (.str s)), .val (.d (.int .i64 n))] =
    br (decide (n < (↑s.length : Int))) (chk ((0 : Int) ≤ n ∧ n < (↑s.length : Int)) (br (decide (byteAt s n ≥ (97 : Int))) (chk ((0 : Int) ≤ n ∧ n < (↑s.length : Int)) (br (decide (byteAt s n ≤ (122 : Int))) (some (Rnd.again [SV.val (AV.d (D.str s)), SV.val (AV.d (D.int IntKind.i64 (IntKind.i64.wrap (n + (1 : Int)))))])) (some (Rnd.out (Ex.exit (0 : Nat)) [SV.val (AV.d (D.str s)), SV.val (AV.d (D.int IntKind.i64 n))])))) (some (Rnd.out (Ex.exit (0 : Nat)) [SV.val (AV.d (D.str s)), SV.val (AV.d (D.int IntKind.i64 n))])))) (some (Rnd.out (Ex.exit (0 : Nat)) [SV.val (AV.d (D.str s)), SV.val (AV.d (D.int IntKind.i64 n))])) := by kernel_rfl
theorem lok48_0 (N : Nat) : LoopOK T (En (E20 N)) (Ln L48) (loopAt 0 (loops (bodyOf Try.f74))) := by
  refine loopOK (live := [1, 10]) (outs := [1, 10]) (ks := [.v false [.str], .v false [.int .i64]]) (f := lf48_0) (by kernel_rfl) ?_
  rintro ⟨⟨(s : List UInt8), _⟩, ⟨(n : Int), _⟩, _⟩ x h
  obtain ⟨⟨h0, h1, h2⟩, h⟩ := h
  obtain rfl := Out_leaf h
  clear h
  rw [Big_eq] at h2
  have key : ∀ (k m : Nat), m + k = s.length → Lg.Ends T (En (E20 N)) (Ln L48) (loopAt 0 (loops (bodyOf Try.f74))) ls48_0 [.val (.d (.str s)), .val (.d (.int .i64 (m : Int)))] (.exit 0, [.val (.d (.str s)), .val (.d (.int .i64 ((m : Int) + (lowRun (s.drop m)).length)))]) := by
    intro k
    induction k with
    | zero =>
      intro m hm
      refine Lg.Ends.out ((lt48_0 N s _).trans (br_eq (fun q => by simp at q; omega) (fun _ => ?_)))
      rw [List.drop_of_length_le (by omega)]
      simp [lowRun]
    | succ k ih =>
      intro m hm
      obtain ⟨b, hd, hb, _⟩ := byteAt_drop (s := s) (n := m) (by omega)
      have hb : byteAt s m = u b := hb
      rw [hd]
      simp only [lowRun]
      by_cases hp : lowI (u b) = true
      · rw [if_pos hp]
        have := ih (m + 1) (by omega)
        rw [List.length_cons, show ((m : Int) + (((lowRun (s.drop (m + 1))).length + 1 : Nat) : Int)) = ((m + 1 : Nat) : Int) + ((lowRun (s.drop (m + 1))).length : Int) by omega]
        refine Lg.Ends.again ((lt48_0 N s _).trans ?_) this
        rw [hb, wrap64 (by omega) (by omega)]
        simp only [lowI, Bool.and_eq_true, decide_eq_true_eq] at hp
        repeat' (first | refine br_eq (fun _ => ?_) (fun _ => ?_) | refine chk_eq ?_ ?_)
        all_goals first | rfl | omega | (exfalso; simp at *; omega)
      · rw [if_neg hp]
        refine Lg.Ends.out ((lt48_0 N s _).trans ?_)
        rw [hb]
        simp only [lowI, Bool.and_eq_true, decide_eq_true_eq] at hp
        repeat' (first | refine br_eq (fun _ => ?_) (fun _ => ?_) | refine chk_eq ?_ ?_)
        all_goals first | omega | (exfalso; simp at *; omega) | (simp; done)
  have := key (s.length - n.toNat) n.toNat (by omega)
  rw [Int.toNat_of_nonneg h0] at this
  exact this
theorem t48 (N : Nat) (k : Int) (a t l s : List UInt8) (i : Int) : evF T (En (E20 N)) (Ln L48) Try.f74 [.agg [.int .i64 k, .str a, .str t, .str l], .d (.str s), .d (.int .i64 i)] =
    chk ((0 : Int) ≤ i ∧ i ≤ (↑s.length : Int)) (chk ((List.drop i.toNat s).length ≤ Big ∧ [(94 : UInt8), (94 : UInt8)].length ≤ Big) (br (decide (List.take [(94 : UInt8), (94 : UInt8)].length (List.drop i.toNat s) = [(94 : UInt8), (94 : UInt8)])) (chk ((0 : Int) ≤ IntKind.i64.wrap (i + (2 : Int)) ∧ IntKind.i64.wrap (i + (2 : Int)) ≤ (↑s.length : Int)) (chk ((List.drop (IntKind.i64.wrap (i + (2 : Int))).toNat s).length < N ∧ okP (List.drop (IntKind.i64.wrap (i + (2 : Int))).toNat s)) (br ((prefixS (List.drop (IntKind.i64.wrap (i + (2 : Int))).toNat s)).fst == (1 : Int)) (some (SV.val (AV.tup [AV.agg [D.int IntKind.i64 k, D.str a, D.str (prefixS (List.drop (IntKind.i64.wrap (i + (2 : Int))).toNat s)).snd.fst, D.str l], AV.d (D.int IntKind.i64 (IntKind.i64.wrap (IntKind.i64.wrap (i + (2 : Int)) + (prefixS (List.drop (IntKind.i64.wrap (i + (2 : Int))).toNat s)).snd.snd.snd.snd)))]))) (some (SV.val (AV.tup [AV.agg [D.int IntKind.i64 k, D.str a, D.str t, D.str l], AV.d (D.int IntKind.i64 i)])))))) (br (decide (i < (↑s.length : Int))) (chk ((0 : Int) ≤ i ∧ i < (↑s.length : Int)) (br (byteAt s i == (64 : Int)) (chk ((0 : Int) ≤ IntKind.i64.wrap (i + (1 : Int)) ∧ IntKind.i64.wrap (i + (1 : Int)) ≤ (↑s.length : Int) ∧ s.length ≤ Big) (chk ((0 : Int) ≤ IntKind.i64.wrap (i + (1 : Int)) ∧ IntKind.i64.wrap (i + (1 : Int)) ≤ IntKind.i64.wrap (i + (1 : Int)) + (↑(List.length (lowRun (List.drop (IntKind.i64.wrap (i + (1 : Int))).toNat s))) : Int) ∧ IntKind.i64.wrap (i + (1 : Int)) + (↑(List.length (lowRun (List.drop (IntKind.i64.wrap (i + (1 : Int))).toNat s))) : Int) ≤ (↑s.length : Int)) (chk ((List.drop (IntKind.i64.wrap (i + (1 : Int))).toNat (List.take (IntKind.i64.wrap (i + (1 : Int)) + (↑(List.length (lowRun (List.drop (IntKind.i64.wrap (i + (1 : Int))).toNat s))) : Int)).toNat s)).length ≤ Big) (br (isLang (List.drop (IntKind.i64.wrap (i + (1 : Int))).toNat (List.take (IntKind.i64.wrap (i + (1 : Int)) + (↑(List.length (lowRun (List.drop (IntKind.i64.wrap (i + (1 : Int))).toNat s))) : Int)).toNat s))) (chk ((0 : Int) ≤ IntKind.i64.wrap (i + (1 : Int)) ∧ IntKind.i64.wrap (i + (1 : Int)) ≤ IntKind.i64.wrap (i + (1 : Int)) + (↑(List.length (lowRun (List.drop (IntKind.i64.wrap (i + (1 : Int))).toNat s))) : Int) ∧ IntKind.i64.wrap (i + (1 : Int)) + (↑(List.length (lowRun (List.drop (IntKind.i64.wrap (i + (1 : Int))).toNat s))) : Int) ≤ (↑s.length : Int)) (some (SV.val (AV.tup [AV.agg [D.int IntKind.i64 k, D.str a, D.str t, D.str (List.drop (IntKind.i64.wrap (i + (1 : Int))).toNat (List.take (IntKind.i64.wrap (i + (1 : Int)) + (↑(List.length (lowRun (List.drop (IntKind.i64.wrap (i + (1 : Int))).toNat s))) : Int)).toNat s))], AV.d (D.int IntKind.i64 (IntKind.i64.wrap (i + (1 : Int)) + (↑(List.length (lowRun (List.drop (IntKind.i64.wrap (i + (1 : Int))).toNat s))) : Int)))])))) (some (SV.val (AV.tup [AV.agg [D.int IntKind.i64 k, D.str a, D.str t, D.str l], AV.d (D.int IntKind.i64 i)]))))))) (some (SV.val (AV.tup [AV.agg [D.int IntKind.i64 k, D.str a, D.str t, D.str l], AV.d (D.int IntKind.i64 i)]))))) (some (SV.val (AV.tup [AV.agg [D.int IntKind.i64 k, D.str a, D.str t, D.str l], AV.d (D.int IntKind.i64 i)])))))) := by kernel_rfl

theorem sat48 (N : Nat) (okN : SatE P (En (E20 N))) : Sat P 74 (S48 N) := by
  refine sat_mk (LT := Ln L48) hC okN mixed Try.func74 (by kernel_rfl) (c := bodyOf Try.f74) (by kernel_rfl) (by kernel_rfl) ?_ (loops1 (by kernel_rfl) (lok48_0 N))
  rintro ⟨⟨(k : Int), (a : List UInt8), (t : List UInt8), (l : List UInt8), _⟩, ⟨(s : List UInt8), _⟩, ⟨(i : Int), _⟩, _⟩ sv h
  obtain ⟨⟨hs, h0, h1, h2⟩, h⟩ := h
  obtain rfl := Out_leaf h
  clear h
  have hB := hs
  rw [Big_eq] at hB
  refine (t48 N k a t l s i).trans ?_
  obtain ⟨j, rfl⟩ : ∃ j : Nat, i = j := ⟨i.toNat, by omega⟩
  rw [wrap64 (x := (j : Int) + 2) (by omega) (by omega), wrap64 (x := (j : Int) + 1) (by omega) (by omega)]
  have e2 : ((j : Int) + 2).toNat = j + 2 := by omega
  have e1 : ((j : Int) + 1).toNat = j + 1 := by omega
  rw [e2, e1]
  simp only [Int.toNat_natCast] at h2 ⊢
  refine chk_eq ⟨h0, h1⟩ (chk_eq ⟨by simp; omega, by simp [Big]⟩ (br_eq (fun q => ?_) (fun q => ?_)))
  · have q : (s.drop j).take 2 = [94, 94] := by simpa using q
    obtain ⟨h3, h4⟩ := h2 q
    have hl : j + 2 ≤ s.length := by
      have := congrArg List.length q
      simp at this; omega
    refine chk_eq ⟨by omega, by omega⟩ (chk_eq ⟨h3, h4⟩ ?_)
    have hpre := prefixS_iri (s.drop (j + 2))
    have hdd : (s.drop j).drop 2 = s.drop (j + 2) := by rw [List.drop_drop]
    cases hi : iriAt (s.drop (j + 2)) with
    | none =>
      rw [hi] at hpre
      refine br_eq (fun z => absurd (by simpa using z) hpre) (fun _ => ?_)
      simp only [behindS, q, if_true, hdd, hi]
    | some p =>
      obtain ⟨x, n⟩ := p
      rw [hi] at hpre
      refine br_eq (fun z => ?_) (fun z => by rw [hpre] at z; simp at z)
      have hn := iriAt_le hi
      rw [hpre]
      simp only [behindS, q, if_true, hdd, hi]
      rw [wrap64 (by omega) (by simp at hn; omega)]
      rfl
  · have q : ¬ (s.drop j).take 2 = [94, 94] := by simpa using q
    refine br_eq (fun z => ?_) (fun z => ?_)
    · have hj : j < s.length := by simp at z; exact z
      obtain ⟨b, hd, hb, _⟩ := byteAt_drop hj
      have hb : byteAt s j = u b := hb
      rw [hb]
      refine chk_eq ⟨by omega, by omega⟩ (br_eq (fun y => ?_) (fun y => ?_))
      · have y : b = 64 := u_inj (by simp at y; rw [y]; rfl)
        have hlr := lowRun_take (s.drop (j + 1))
        have hle : (lowRun (s.drop (j + 1))).length ≤ s.length - (j + 1) := by
          have := congrArg List.length hlr
          rw [List.length_take, List.length_drop] at this; omega
        have e3 : ((j : Int) + 1 + ((lowRun (s.drop (j + 1))).length : Int)).toNat = j + 1 + (lowRun (s.drop (j + 1))).length := by omega
        have e4 : (s.take (j + 1 + (lowRun (s.drop (j + 1))).length)).drop (j + 1) = lowRun (s.drop (j + 1)) := by
          rw [List.drop_take, show j + 1 + (lowRun (s.drop (j + 1))).length - (j + 1) = (lowRun (s.drop (j + 1))).length by omega]; exact hlr
        rw [e3, e4]
        have hh : ((s.drop j).head? = some 64) := by rw [hd, y]; rfl
        have hdd : (s.drop j).drop 1 = s.drop (j + 1) := by rw [List.drop_drop]
        refine chk_eq ⟨by omega, by omega, hs⟩ (chk_eq ⟨by omega, by omega, by omega⟩ (chk_eq (by rw [Big_eq]; omega) (br_eq (fun w => ?_) (fun w => ?_))))
        · refine chk_eq ⟨by omega, by omega, by omega⟩ ?_
          simp only [behindS, if_neg q, hh, hdd, w, and_self, if_true]
          rfl
        · simp only [behindS, if_neg q, hh, hdd, w, and_false, Bool.false_eq_true, if_false]
      · have y : ¬ (s.drop j).head? = some 64 := by
          rw [hd]; intro e; simp at e; subst e; simp [u] at y
        simp only [behindS, if_neg q, y, false_and, if_false]
    · have hj : ¬ j < s.length := by simp at z; omega
      have : s.drop j = [] := List.drop_of_length_le (by omega)
      simp only [behindS, if_neg q]
      simp [this]
def E48 (N : Nat) : Es := (74, S48 N) :: E20 N
theorem ok48 (N : Nat) (okN : SatE P (En (E20 N))) : SatE P (En (E48 N)) := SatE.cons (sat48 N okN) okN
def fin36 (s : List UInt8) (k : Int) (a t l : List UInt8) (out : List (RowE [.int .u8])) (x : Bool × B × Nat) : Ex × List SV := if x.1 = true then (.exit 0, [.val (.d (.str s)), .box true [.val (.d (.int .i64 k)), .val (.d (.str a)), .val (.d (.str t)), .val (.d (.str l))], .unk, .app [.int .u8] (out ++ rowsB x.2.1), .val (.d (.int .i64 (x.2.2 : Nat)))])
  else (.ret, [.val (.d (.str s)), .box true [.val (.d (.int .i64 0)), .val (.d (.str [])), .val (.d (.str [])), .val (.d (.str []))], .val (.d (.int .i64 0)), .app [.int .u8] (out ++ rowsB x.2.1), .val (.d (.int .i64 (x.2.2 : Nat)))])
theorem fin36_t (s : List UInt8) (k : Int) (a t l : List UInt8) (out : List (RowE [.int .u8])) (n : Nat) : fin36 s k a t l out (true, [], n) = (.exit 0, [.val (.d (.str s)), .box true [.val (.d (.int .i64 k)), .val (.d (.str a)), .val (.d (.str t)), .val (.d (.str l))], .unk, .app [.int .u8] out, .val (.d (.int .i64 (n : Nat)))]) := by
  simp [fin36, rowsB]
theorem fin36_f (s : List UInt8) (k : Int) (a t l : List UInt8) (out : List (RowE [.int .u8])) (n : Nat) : fin36 s k a t l out (false, [], n) = (.ret, [.val (.d (.str s)), .box true [.val (.d (.int .i64 0)), .val (.d (.str [])), .val (.d (.str [])), .val (.d (.str []))], .val (.d (.int .i64 0)), .app [.int .u8] out, .val (.d (.int .i64 (n : Nat)))]) := by
  simp [fin36, rowsB]
theorem fin36_app (s : List UInt8) (k : Int) (a t l : List UInt8) (out : List (RowE [.int .u8])) (b : UInt8) (x : Bool × B × Nat) : fin36 s k a t l (out ++ [(u b, ())]) x = fin36 s k a t l out (x.1, b :: x.2.1, x.2.2) := by
  simp [fin36, rowsB]
/-! ### function 36 -/
def lf36_0 : St [.v false [.str], .box [.v (.int .i64), .v .str, .v .str, .v .str], .a [.int .u8], .v false [.int .i64]] → Tr (Ex × List SV) := fun ⟨⟨(s : List UInt8), _⟩, ⟨(k : Int), (a : List UInt8), (t : List UInt8), (l : List UInt8), _⟩, (out : List (RowE [.int .u8])), ⟨(n : Int), _⟩, _⟩ => .chk (0 ≤ n ∧ n ≤ (s.length : Int) ∧ s.length ≤ Big ∧ out.length + run (s.drop n.toNat) + 2 ≤ 140737488355328) (.br (loopL (s.drop n.toNat) n.toNat).1
    (.leaf (.exit 0, [.val (.d (.str s)), .box true [.val (.d (.int .i64 k)), .val (.d (.str a)), .val (.d (.str t)), .val (.d (.str l))], .unk, .app [.int .u8] (out ++ rowsB (loopL (s.drop n.toNat) n.toNat).2.1), .val (.d (.int .i64 ((loopL (s.drop n.toNat) n.toNat).2.2 : Nat)))]))
    (.leaf (.ret, [.val (.d (.str s)), .box true [.val (.d (.int .i64 0)), .val (.d (.str [])), .val (.d (.str [])), .val (.d (.str []))], .val (.d (.int .i64 0)), .app [.int .u8] (out ++ rowsB (loopL (s.drop n.toNat) n.toNat).2.1), .val (.d (.int .i64 ((loopL (s.drop n.toNat) n.toNat).2.2 : Nat)))])))
def ls36_0 : LoopS := mkL [0, 2, 4, 5] [0, 2, 3, 4, 5] [.v false [.str], .box [.v (.int .i64), .v .str, .v .str, .v .str], .a [.int .u8], .v false [.int .i64]] lf36_0
def S36 (N : Nat) := mkS [str] fun ⟨⟨(s : List UInt8), _⟩, _⟩ => .chk (s.length ≤ Big ∧ 0 < s.length ∧ run (s.drop 1) + 2 ≤ 140737488355328 ∧ ((s.drop (run (s.drop 1) + 2)).take 2 = [94, 94] → (s.drop (run (s.drop 1) + 4)).length < N ∧ okP (s.drop (run (s.drop 1) + 4)))) (pref (literalS s))
def L36 : Ls := [(3, ls36_0)]
theorem lt36_0 (N : Nat) (s : List UInt8) (k : Int) (a t l : List UInt8) (out : List (RowE [.int .u8])) (n : Int) : evRound T (En (E48 N)) (Ln L36) (loopAt 0 (loops (bodyOf Try.f57))) ls36_0 [.val (.d (.str s)), .box true [.val (.d (.int .i64 k)), .val (.d (.str a)), .val (.d (.str t)), .val (.d (.str l))], .app [.int .u8] out, .val (.d (.int .i64 n))] =
    br (decide (n < (↑s.length : Int))) (chk ((0 : Int) ≤ n ∧ n < (↑s.length : Int)) (br (byteAt s n != (34 : Int)) (chk ((0 : Int) ≤ n ∧ n < (↑s.length : Int)) (br (byteAt s n == (92 : Int)) (br (IntKind.i64.wrap (n + (1 : Int)) == (↑s.length : Int)) (some (Rnd.out Ex.ret [SV.val (AV.d (D.str s)), SV.box true [SV.val (AV.d (D.int IntKind.i64 (CE.dflt (Sh.int IntKind.i64)))), SV.val (AV.d (D.str (CE.dflt Sh.str))), SV.val (AV.d (D.str (CE.dflt Sh.str))), SV.val (AV.d (D.str (CE.dflt Sh.str)))], SV.val (AV.d (D.int IntKind.i64 (0 : Int))), SV.app [Sh.int IntKind.u8] out, SV.val (AV.d (D.int IntKind.i64 (IntKind.i64.wrap (n + (1 : Int)))))])) (chk ((0 : Int) ≤ IntKind.i64.wrap (n + (1 : Int)) ∧ IntKind.i64.wrap (n + (1 : Int)) < (↑s.length : Int)) (br (decide (Lib.indexByte [(34 : UInt8), (92 : UInt8), (110 : UInt8), (116 : UInt8)] (byteAt s (IntKind.i64.wrap (n + (1 : Int)))).toNat.toUInt8 < (0 : Int))) (some (Rnd.out Ex.ret [SV.val (AV.d (D.str s)), SV.box true [SV.val (AV.d (D.int IntKind.i64 (CE.dflt (Sh.int IntKind.i64)))), SV.val (AV.d (D.str (CE.dflt Sh.str))), SV.val (AV.d (D.str (CE.dflt Sh.str))), SV.val (AV.d (D.str (CE.dflt Sh.str)))], SV.val (AV.d (D.int IntKind.i64 (0 : Int))), SV.app [Sh.int IntKind.u8] out, SV.val (AV.d (D.int IntKind.i64 (IntKind.i64.wrap (n + (1 : Int)))))])) (chk ((0 : Int) ≤ Lib.indexByte [(34 : UInt8), (92 : UInt8), (110 : UInt8), (116 : UInt8)] (byteAt s (IntKind.i64.wrap (n + (1 : Int)))).toNat.toUInt8 ∧ Lib.indexByte [(34 : UInt8), (92 : UInt8), (110 : UInt8), (116 : UInt8)] (byteAt s (IntKind.i64.wrap (n + (1 : Int)))).toNat.toUInt8 < (↑[(34 : UInt8), (92 : UInt8), (10 : UInt8), (9 : UInt8)].length : Int)) (chk (((↑out.length : Int) + (↑[(byteAt [(34 : UInt8), (92 : UInt8), (10 : UInt8), (9 : UInt8)] (Lib.indexByte [(34 : UInt8), (92 : UInt8), (110 : UInt8), (116 : UInt8)] (byteAt s (IntKind.i64.wrap (n + (1 : Int)))).toNat.toUInt8), ())].length : Int)) * (↑(1 : Nat) : Int) < lim) (some (Rnd.again [SV.val (AV.d (D.str s)), SV.box true [SV.val (AV.d (D.int IntKind.i64 k)), SV.val (AV.d (D.str a)), SV.val (AV.d (D.str t)), SV.val (AV.d (D.str l))], SV.app [Sh.int IntKind.u8] (out ++ [(byteAt [(34 : UInt8), (92 : UInt8), (10 : UInt8), (9 : UInt8)] (Lib.indexByte [(34 : UInt8), (92 : UInt8), (110 : UInt8), (116 : UInt8)] (byteAt s (IntKind.i64.wrap (n + (1 : Int)))).toNat.toUInt8), ())]), SV.val (AV.d (D.int IntKind.i64 (IntKind.i64.wrap (IntKind.i64.wrap (n + (1 : Int)) + (1 : Int)))))]))))))) (br (byteAt s n == (10 : Int)) (some (Rnd.out Ex.ret [SV.val (AV.d (D.str s)), SV.box true [SV.val (AV.d (D.int IntKind.i64 (CE.dflt (Sh.int IntKind.i64)))), SV.val (AV.d (D.str (CE.dflt Sh.str))), SV.val (AV.d (D.str (CE.dflt Sh.str))), SV.val (AV.d (D.str (CE.dflt Sh.str)))], SV.val (AV.d (D.int IntKind.i64 (0 : Int))), SV.app [Sh.int IntKind.u8] out, SV.val (AV.d (D.int IntKind.i64 n))])) (br (byteAt s n == (9 : Int)) (some (Rnd.out Ex.ret [SV.val (AV.d (D.str s)), SV.box true [SV.val (AV.d (D.int IntKind.i64 (CE.dflt (Sh.int IntKind.i64)))), SV.val (AV.d (D.str (CE.dflt Sh.str))), SV.val (AV.d (D.str (CE.dflt Sh.str))), SV.val (AV.d (D.str (CE.dflt Sh.str)))], SV.val (AV.d (D.int IntKind.i64 (0 : Int))), SV.app [Sh.int IntKind.u8] out, SV.val (AV.d (D.int IntKind.i64 n))])) (chk (((↑out.length : Int) + (↑[(byteAt s n, ())].length : Int)) * (↑(1 : Nat) : Int) < lim) (some (Rnd.again [SV.val (AV.d (D.str s)), SV.box true [SV.val (AV.d (D.int IntKind.i64 k)), SV.val (AV.d (D.str a)), SV.val (AV.d (D.str t)), SV.val (AV.d (D.str l))], SV.app [Sh.int IntKind.u8] (out ++ [(byteAt s n, ())]), SV.val (AV.d (D.int IntKind.i64 (IntKind.i64.wrap (n + (1 : Int)))))]))))))) (some (Rnd.out (Ex.exit (0 : Nat)) [SV.val (AV.d (D.str s)), SV.box true [SV.val (AV.d (D.int IntKind.i64 k)), SV.val (AV.d (D.str a)), SV.val (AV.d (D.str t)), SV.val (AV.d (D.str l))], SV.unk, SV.app [Sh.int IntKind.u8] out, SV.val (AV.d (D.int IntKind.i64 n))]))))
  (some (Rnd.out (Ex.exit (0 : Nat)) [SV.val (AV.d (D.str s)), SV.box true [SV.val (AV.d (D.int IntKind.i64 k)), SV.val (AV.d (D.str a)), SV.val (AV.d (D.str t)), SV.val (AV.d (D.str l))], SV.unk, SV.app [Sh.int IntKind.u8] out, SV.val (AV.d (D.int IntKind.i64 n))])) := by kernel_rfl
theorem lok36_0 (N : Nat) : LoopOK T (En (E48 N)) (Ln L36) (loopAt 0 (loops (bodyOf Try.f57))) := by
  refine loopOK (live := [0, 2, 4, 5]) (outs := [0, 2, 3, 4, 5]) (ks := [.v false [.str], .box [.v (.int .i64), .v .str, .v .str, .v .str], .a [.int .u8], .v false [.int .i64]]) (f := lf36_0) (by kernel_rfl) ?_
  rintro ⟨⟨(s : List UInt8), _⟩, ⟨(k : Int), (a : List UInt8), (t : List UInt8), (l : List UInt8), _⟩, (out : List (RowE [.int .u8])), ⟨(n : Int), _⟩, _⟩ x h
  obtain ⟨⟨h0, h1, h2, h3⟩, h⟩ := h
  rw [Big_eq] at h2
  have key : ∀ (d m : Nat) (out : List (RowE [.int .u8])), s.length - m ≤ d → m ≤ s.length → out.length + run (s.drop m) + 2 ≤ 140737488355328 →
      Lg.Ends T (En (E48 N)) (Ln L36) (loopAt 0 (loops (bodyOf Try.f57))) ls36_0 [.val (.d (.str s)), .box true [.val (.d (.int .i64 k)), .val (.d (.str a)), .val (.d (.str t)), .val (.d (.str l))], .app [.int .u8] out, .val (.d (.int .i64 (m : Int)))] (fin36 s k a t l out (loopL (s.drop m) m)) := by
    intro d
    induction d with
    | zero =>
      intro m out hd hm _
      rw [List.drop_of_length_le (by omega)]
      show Lg.Ends _ _ _ _ _ _ (fin36 s k a t l out (true, [], m))
      rw [fin36_t]
      exact Lg.Ends.out ((lt36_0 N s k a t l out _).trans (br_eq (fun q => by simp at q; omega) (fun _ => rfl)))
    | succ d ih =>
      intro m out hd hm hr
      by_cases hlt : m < s.length
      case neg =>
        rw [List.drop_of_length_le (by omega)]
        show Lg.Ends _ _ _ _ _ _ (fin36 s k a t l out (true, [], m))
        rw [fin36_t]
        exact Lg.Ends.out ((lt36_0 N s k a t l out _).trans (br_eq (fun q => by simp at q; omega) (fun _ => rfl)))
      obtain ⟨b, hdr, hb, _⟩ := byteAt_drop hlt
      have hb : byteAt s m = u b := hb
      rw [hdr] at hr ⊢
      have hw := wrap64 (x := (m : Int) + 1) (by omega) (by omega)
      by_cases q1 : u b = 34
      · rw [loopL_q q1, fin36_t]
        refine Lg.Ends.out ((lt36_0 N s k a t l out _).trans ?_)
        rw [hb, q1]
        exact br_eq (fun _ => chk_eq (by omega) (br_eq (fun q => by simp at q) (fun _ => rfl))) (fun q => by simp at q; omega)
      by_cases q2 : u b = 92
      · by_cases hlt2 : m + 1 < s.length
        case neg =>
          have e : s.drop (m + 1) = [] := List.drop_of_length_le (by omega)
          rw [e, loopL_e1 q2, fin36_f]
          refine Lg.Ends.out ((lt36_0 N s k a t l out _).trans ?_)
          rw [hb, q2, hw]
          exact br_eq (fun _ => chk_eq (by omega) (br_eq (fun _ => chk_eq (by omega) (br_eq (fun _ => br_eq (fun _ => rfl) (fun q => by simp at q; omega)) (fun q => by simp at q))) (fun q => by simp at q))) (fun q => by simp at q; omega)
        obtain ⟨c, hdr2, hc, _⟩ := byteAt_drop hlt2
        have hc : byteAt s ((m + 1 : Nat) : Int) = u c := hc
        have hc' : byteAt s ((m : Int) + 1) = u c := hc
        rw [hdr2] at hr ⊢
        have hix := unesc_ix c
        cases hu : unesc c with
        | none =>
          rw [hu] at hix
          have hix : Lib.indexByte [34, 92, 110, 116] c < 0 := hix
          rw [loopL_e2 q2 hu, fin36_f]
          refine Lg.Ends.out ((lt36_0 N s k a t l out _).trans ?_)
          rw [hb, q2, hw, hc', u_toU8]
          exact br_eq (fun _ => chk_eq (by omega) (br_eq (fun _ => chk_eq (by omega) (br_eq (fun _ => br_eq (fun q => by simp at q; omega) (fun _ => chk_eq (by omega) (br_eq (fun _ => rfl) (fun q => by simp at q; omega)))) (fun q => by simp at q))) (fun q => by simp at q))) (fun q => by simp at q; omega)
        | some e =>
          rw [hu] at hix
          obtain ⟨x1, x2, x3⟩ := hix
          have hrun : run (b :: c :: s.drop (m + 1 + 1)) = run (s.drop (m + 2)) + 2 := by simp [run, q2]
          have := ih (m + 2) (out ++ [(u e, ())]) (by omega) (by omega) (by simp; omega)
          rw [loopL_e3 q2 hu]
          rw [fin36_app] at this
          refine Lg.Ends.again ((lt36_0 N s k a t l out _).trans ?_) this
          rw [hb, q2, hw, hc', u_toU8, x3, wrap64 (by omega) (by omega)]
          refine br_eq (fun _ => chk_eq (by omega) (br_eq (fun _ => chk_eq (by omega) (br_eq (fun _ => br_eq (fun q => by simp at q; omega) (fun _ => chk_eq (by omega) (br_eq (fun q => by simp at q; omega) (fun _ => chk_eq (by simp; omega) (chk_eq (by simp [lim]; omega) ?_))))) (fun q => by simp at q))) (fun q => by simp at q))) (fun q => by simp at q; omega)
          have : (m : Int) + 1 + 1 = ((m + 2 : Nat) : Int) := by omega
          rw [this]
      by_cases q3 : u b = 10 ∨ u b = 9
      · rw [loopL_c q3, fin36_f]
        refine Lg.Ends.out ((lt36_0 N s k a t l out _).trans ?_)
        rw [hb]
        exact br_eq (fun _ => chk_eq (by omega) (br_eq (fun _ => chk_eq (by omega) (br_eq (fun q => by simp at q; omega) (fun _ => br_eq (fun _ => rfl) (fun z => br_eq (fun _ => rfl) (fun y => by simp at z y; omega))))) (fun q => by simp at q; omega))) (fun q => by simp at q; omega)
      · have hrun : run (b :: s.drop (m + 1)) = run (s.drop (m + 1)) + 1 := by
          conv => lhs; unfold run
          simp [q1, q2]
        have := ih (m + 1) (out ++ [(u b, ())]) (by omega) (by omega) (by simp; omega)
        rw [loopL_o q1 q2 q3]
        rw [fin36_app] at this
        refine Lg.Ends.again ((lt36_0 N s k a t l out _).trans ?_) this
        rw [hb, hw]
        exact br_eq (fun _ => chk_eq (by omega) (br_eq (fun _ => chk_eq (by omega) (br_eq (fun q => by simp at q; omega) (fun _ => br_eq (fun q => by simp at q; omega) (fun _ => br_eq (fun q => by simp at q; omega) (fun _ => chk_eq (by simp [lim]; omega) rfl))))) (fun q => by simp at q; omega))) (fun q => by simp at q; omega)
  have := key s.length n.toNat out (by omega) (by omega) h3
  rw [Int.toNat_of_nonneg h0] at this
  rcases Out_br h with ⟨hp, h⟩ | ⟨hp, h⟩
  · obtain rfl := Out_leaf h
    unfold fin36 at this
    rw [if_pos hp] at this; exact this
  · obtain rfl := Out_leaf h
    unfold fin36 at this
    rw [if_neg (by rw [hp]; simp)] at this; exact this
theorem t36 (N : Nat) (s : List UInt8) : evF T (En (E48 N)) (Ln L36) Try.f57 [.d (.str s)] =
    chk ((0 : Int) ≤ (1 : Int) ∧ (1 : Int) ≤ (↑s.length : Int) ∧ s.length ≤ Big ∧ (List.nil (α := RowE [.int .u8])).length + run (List.drop (Int.toNat (1 : Int)) s) + (2 : Nat) ≤ (140737488355328 : Nat)) (br (loopL (List.drop (Int.toNat (1 : Int)) s) (Int.toNat (1 : Int))).fst (br (decide ((↑(loopL (List.drop (Int.toNat (1 : Int)) s) (Int.toNat (1 : Int))).snd.snd : Int) ≥ (↑s.length : Int))) (some (SV.val (AV.tup [AV.agg [D.int IntKind.i64 (CE.dflt (Sh.int IntKind.i64)), D.str (CE.dflt Sh.str), D.str (CE.dflt Sh.str), D.str (CE.dflt Sh.str)], AV.d (D.int IntKind.i64 (0 : Int))]))) (chk ((bytesStr ([] ++ rowsB (loopL (List.drop (Int.toNat (1 : Int)) s) (Int.toNat (1 : Int))).snd.fst)).length ≤ Big) (br (!isText (bytesStr ([] ++ rowsB (loopL (List.drop (Int.toNat (1 : Int)) s) (Int.toNat (1 : Int))).snd.fst))) (some (SV.val (AV.tup [AV.agg [D.int IntKind.i64 (CE.dflt (Sh.int IntKind.i64)), D.str (CE.dflt Sh.str), D.str (CE.dflt Sh.str), D.str (CE.dflt Sh.str)], AV.d (D.int IntKind.i64 (0 : Int))]))) (chk (s.length ≤ Big ∧ (0 : Int) ≤ IntKind.i64.wrap ((↑(loopL (List.drop (Int.toNat (1 : Int)) s) (Int.toNat (1 : Int))).snd.snd : Int) + (1 : Int)) ∧ IntKind.i64.wrap ((↑(loopL (List.drop (Int.toNat (1 : Int)) s) (Int.toNat (1 : Int))).snd.snd : Int) + (1 : Int)) ≤ (↑s.length : Int) ∧ (List.take (2 : Nat) (List.drop (IntKind.i64.wrap ((↑(loopL (List.drop (Int.toNat (1 : Int)) s) (Int.toNat (1 : Int))).snd.snd : Int) + (1 : Int))).toNat s) = [(94 : UInt8), (94 : UInt8)] → (List.drop ((IntKind.i64.wrap ((↑(loopL (List.drop (Int.toNat (1 : Int)) s) (Int.toNat (1 : Int))).snd.snd : Int) + (1 : Int))).toNat + (2 : Nat)) s).length < N ∧ okP (List.drop ((IntKind.i64.wrap ((↑(loopL (List.drop (Int.toNat (1 : Int)) s) (Int.toNat (1 : Int))).snd.snd : Int) + (1 : Int))).toNat + (2 : Nat)) s))) (some (SV.val (AV.tup [AV.agg [D.int IntKind.i64 (behindS (2 : Int) (bytesStr ([] ++ rowsB (loopL (List.drop (Int.toNat (1 : Int)) s) (Int.toNat (1 : Int))).snd.fst)) (CE.dflt Sh.str) (CE.dflt Sh.str) s (IntKind.i64.wrap ((↑(loopL (List.drop (Int.toNat (1 : Int)) s) (Int.toNat (1 : Int))).snd.snd : Int) + (1 : Int))).toNat).fst, D.str (behindS (2 : Int) (bytesStr ([] ++ rowsB (loopL (List.drop (Int.toNat (1 : Int)) s) (Int.toNat (1 : Int))).snd.fst)) (CE.dflt Sh.str) (CE.dflt Sh.str) s (IntKind.i64.wrap ((↑(loopL (List.drop (Int.toNat (1 : Int)) s) (Int.toNat (1 : Int))).snd.snd : Int) + (1 : Int))).toNat).snd.fst, D.str (behindS (2 : Int) (bytesStr ([] ++ rowsB (loopL (List.drop (Int.toNat (1 : Int)) s) (Int.toNat (1 : Int))).snd.fst)) (CE.dflt Sh.str) (CE.dflt Sh.str) s (IntKind.i64.wrap ((↑(loopL (List.drop (Int.toNat (1 : Int)) s) (Int.toNat (1 : Int))).snd.snd : Int) + (1 : Int))).toNat).snd.snd.fst, D.str (behindS (2 : Int) (bytesStr ([] ++ rowsB (loopL (List.drop (Int.toNat (1 : Int)) s) (Int.toNat (1 : Int))).snd.fst)) (CE.dflt Sh.str) (CE.dflt Sh.str) s (IntKind.i64.wrap ((↑(loopL (List.drop (Int.toNat (1 : Int)) s) (Int.toNat (1 : Int))).snd.snd : Int) + (1 : Int))).toNat).snd.snd.snd.fst], AV.d (D.int IntKind.i64 (behindS (2 : Int) (bytesStr ([] ++ rowsB (loopL (List.drop (Int.toNat (1 : Int)) s) (Int.toNat (1 : Int))).snd.fst)) (CE.dflt Sh.str) (CE.dflt Sh.str) s (IntKind.i64.wrap ((↑(loopL (List.drop (Int.toNat (1 : Int)) s) (Int.toNat (1 : Int))).snd.snd : Int) + (1 : Int))).toNat).snd.snd.snd.snd)]))))))) (some (SV.val (AV.tup [AV.agg [D.int IntKind.i64 (0 : Int), D.str [], D.str [], D.str []], AV.d (D.int IntKind.i64 (0 : Int))])))) := by kernel_rfl

theorem sat36 (N : Nat) (okN : SatE P (En (E20 N))) : Sat P 57 (S36 N) := by
  refine sat_mk (LT := Ln L36) hC (ok48 N okN) mixed Try.func57 (by kernel_rfl) (c := bodyOf Try.f57) (by kernel_rfl) (by kernel_rfl) ?_ (loops1 (by kernel_rfl) (lok36_0 N))
  rintro ⟨⟨(s : List UInt8), _⟩, _⟩ sv h
  obtain ⟨⟨hs, hpos, hr, hn⟩, h⟩ := h
  obtain rfl := Out_leaf h
  clear h
  have hB := hs
  rw [Big_eq] at hB
  refine (t36 N s).trans ?_
  have hsc := loopL_scan (s.drop 1) 1
  refine chk_eq ⟨by omega, by omega, hs, by simpa using hr⟩ ?_
  unfold literalS
  cases hscan : scan (s.drop 1) with
  | none =>
    rw [hscan] at hsc
    have hl : (loopL (s.drop (Int.toNat 1)) (Int.toNat 1)).1 = false := hsc
    rw [hl]
    exact br_eq (fun q => by simp at q) (fun _ => rfl)
  | some p =>
    obtain ⟨o, r⟩ := p
    rw [hscan] at hsc
    obtain ⟨h1, h2, h3, h4, h5⟩ := hsc
    have hl : loopL (s.drop (Int.toNat 1)) (Int.toNat 1) = (true, o, run (s.drop 1) + 1) := by
      have : loopL (s.drop 1) 1 = (true, o, run (s.drop 1) + 1) := by rw [h1, h5, Nat.add_comm]
      exact this
    rw [hl]
    have hb : bytesStr ((List.nil (α := RowE [.int .u8])) ++ rowsB o) = o := by rw [List.nil_append]; exact bytesStr_rowsB o
    have hd1 : (s.drop 1).length = s.length - 1 := by simp
    refine br_eq (fun _ => ?_) (fun q => by simp at q)
    rcases h3 with h3 | ⟨b, t, h3, hq⟩
    · subst h3
      refine br_eq (fun _ => rfl) (fun q => ?_)
      exfalso
      simp at q h5 h2
      omega
    · subst h3
      have hrl : run (s.drop 1) + 1 + 1 + t.length = s.length := by
        have e1 : (b :: t).length = t.length + 1 := rfl
        rw [e1, hd1] at h2 h5
        omega
      refine br_eq (fun q => by have q := of_decide_eq_true q; simp only at q; omega) (fun _ => ?_)
      have hol : o.length ≤ Big := by
        have := scan_le (s.drop 1) o (b :: t) hscan
        rw [Big_eq]; simp at this; omega
      refine chk_eq (by rw [hb]; exact hol) ?_
      rw [hb]
      refine br_eq (fun q => ?_) (fun q => ?_)
      · have q : isText o = false := by simpa using q
        simp only [q]; rfl
      · have q : isText o = true := by simpa using q
        have hi : (((run (s.drop 1) + 1 : Nat) : Int) + 1) = ((run (s.drop 1) + 2 : Nat) : Int) := by omega
        simp only [hi]
        rw [wrap64 (by omega) (by omega)]
        refine chk_eq ⟨hs, by omega, by omega, by rw [Int.toNat_natCast]; exact hn⟩ ?_
        have ei : s.length - t.length = run (s.drop 1) + 2 := by omega
        simp only [q, if_true, ei, Int.toNat_natCast]
        rfl
def E36 (N : Nat) : Es := (57, S36 N) :: E48 N
theorem ok36 (N : Nat) (okN : SatE P (En (E20 N))) : SatE P (En (E36 N)) := SatE.cons (sat36 N okN) (ok48 N okN)
/-! ### function 20 -/
def S20x (N : Nat) := mkS [str] fun ⟨⟨(s : List UInt8), _⟩, _⟩ => .chk (s.length < N + 1 ∧ okP s) (pref (prefixS s))
def L20x : Ls := []
theorem t20x (N : Nat) (s : List UInt8) : evF T (En (E36 N)) (Ln L20x) Try.f40 [.d (.str s)] =
    br (s == []) (some (SV.val (AV.tup [AV.agg [D.int IntKind.i64 (CE.dflt (Sh.int IntKind.i64)), D.str (CE.dflt Sh.str), D.str (CE.dflt Sh.str), D.str (CE.dflt Sh.str)], AV.d (D.int IntKind.i64 (0 : Int))])))
  (chk ((0 : Int) ≤ (0 : Int) ∧ (0 : Int) < (↑s.length : Int))
    (br (byteAt s (0 : Int) == (60 : Int)) (br (decide (Lib.indexByte s (Int.toNat (62 : Int)).toUInt8 > (0 : Int))) (chk ((0 : Int) ≤ (1 : Int) ∧ (1 : Int) ≤ Lib.indexByte s (Int.toNat (62 : Int)).toUInt8 ∧ Lib.indexByte s (Int.toNat (62 : Int)).toUInt8 ≤ (↑s.length : Int)) (chk ((List.drop (Int.toNat (1 : Int)) (List.take (Lib.indexByte s (Int.toNat (62 : Int)).toUInt8).toNat s)).length ≤ Big) (br (isIri (List.drop (Int.toNat (1 : Int)) (List.take (Lib.indexByte s (Int.toNat (62 : Int)).toUInt8).toNat s))) (chk ((0 : Int) ≤ (1 : Int) ∧ (1 : Int) ≤ Lib.indexByte s (Int.toNat (62 : Int)).toUInt8 ∧ Lib.indexByte s (Int.toNat (62 : Int)).toUInt8 ≤ (↑s.length : Int)) (some (SV.val (AV.tup [AV.agg [D.int IntKind.i64 (1 : Int), D.str (List.drop (Int.toNat (1 : Int)) (List.take (Lib.indexByte s (Int.toNat (62 : Int)).toUInt8).toNat s)), D.str (CE.dflt Sh.str), D.str (CE.dflt Sh.str)], AV.d (D.int IntKind.i64 (IntKind.i64.wrap (Lib.indexByte s (Int.toNat (62 : Int)).toUInt8 + (1 : Int))))])))) (some (SV.val (AV.tup [AV.agg [D.int IntKind.i64 (CE.dflt (Sh.int IntKind.i64)), D.str (CE.dflt Sh.str), D.str (CE.dflt Sh.str), D.str (CE.dflt Sh.str)], AV.d (D.int IntKind.i64 (0 : Int))])))))) (some (SV.val (AV.tup [AV.agg [D.int IntKind.i64 (CE.dflt (Sh.int IntKind.i64)), D.str (CE.dflt Sh.str), D.str (CE.dflt Sh.str), D.str (CE.dflt Sh.str)], AV.d (D.int IntKind.i64 (0 : Int))]))))
      (chk ((0 : Int) ≤ (0 : Int) ∧ (0 : Int) < (↑s.length : Int)) (br (byteAt s (0 : Int) == (34 : Int)) (chk (s.length ≤ Big ∧ (0 : Nat) < s.length ∧ run (List.drop (1 : Nat) s) + (2 : Nat) ≤ (140737488355328 : Nat) ∧ (List.take (2 : Nat) (List.drop (run (List.drop (1 : Nat) s) + (2 : Nat)) s) = [(94 : UInt8), (94 : UInt8)] → (List.drop (run (List.drop (1 : Nat) s) + (4 : Nat)) s).length < N ∧ okP (List.drop (run (List.drop (1 : Nat) s) + (4 : Nat)) s))) (some (SV.val (AV.tup [AV.agg [D.int IntKind.i64 (literalS s).fst, D.str (literalS s).snd.fst, D.str (literalS s).snd.snd.fst, D.str (literalS s).snd.snd.snd.fst], AV.d (D.int IntKind.i64 (literalS s).snd.snd.snd.snd)])))) (chk ((0 : Int) ≤ (0 : Int) ∧ (0 : Int) < (↑s.length : Int)) (br (byteAt s (0 : Int) == (63 : Int)) (chk ((0 : Int) ≤ (1 : Int) ∧ (1 : Int) ≤ (↑s.length : Int)) (chk ((List.drop (Int.toNat (1 : Int)) s).length ≤ Big) (br (decide ((↑(named (List.drop (Int.toNat (1 : Int)) s)) : Int) > (0 : Int))) (chk ((0 : Int) ≤ (1 : Int) ∧ (1 : Int) ≤ IntKind.i64.wrap ((1 : Int) + (↑(named (List.drop (Int.toNat (1 : Int)) s)) : Int)) ∧ IntKind.i64.wrap ((1 : Int) + (↑(named (List.drop (Int.toNat (1 : Int)) s)) : Int)) ≤ (↑s.length : Int)) (some (SV.val (AV.tup [AV.agg [D.int IntKind.i64 (4 : Int), D.str (List.drop (Int.toNat (1 : Int)) (List.take (IntKind.i64.wrap ((1 : Int) + (↑(named (List.drop (Int.toNat (1 : Int)) s)) : Int))).toNat s)), D.str (CE.dflt Sh.str), D.str (CE.dflt Sh.str)], AV.d (D.int IntKind.i64 (IntKind.i64.wrap ((1 : Int) + (↑(named (List.drop (Int.toNat (1 : Int)) s)) : Int))))])))) (some (SV.val (AV.tup [AV.agg [D.int IntKind.i64 (CE.dflt (Sh.int IntKind.i64)), D.str (CE.dflt Sh.str), D.str (CE.dflt Sh.str), D.str (CE.dflt Sh.str)], AV.d (D.int IntKind.i64 (0 : Int))])))))) (chk (s.length ≤ Big ∧ [(95 : UInt8), (58 : UInt8)].length ≤ Big) (br (decide (List.take [(95 : UInt8), (58 : UInt8)].length s = [(95 : UInt8), (58 : UInt8)])) (chk ((0 : Int) ≤ (2 : Int) ∧ (2 : Int) ≤ (↑s.length : Int)) (chk ((List.drop (Int.toNat (2 : Int)) s).length ≤ Big) (br (decide ((↑(named (List.drop (Int.toNat (2 : Int)) s)) : Int) > (0 : Int))) (chk ((0 : Int) ≤ (2 : Int) ∧ (2 : Int) ≤ IntKind.i64.wrap ((2 : Int) + (↑(named (List.drop (Int.toNat (2 : Int)) s)) : Int)) ∧ IntKind.i64.wrap ((2 : Int) + (↑(named (List.drop (Int.toNat (2 : Int)) s)) : Int)) ≤ (↑s.length : Int)) (some (SV.val (AV.tup [AV.agg [D.int IntKind.i64 (3 : Int), D.str (List.drop (Int.toNat (2 : Int)) (List.take (IntKind.i64.wrap ((2 : Int) + (↑(named (List.drop (Int.toNat (2 : Int)) s)) : Int))).toNat s)), D.str (CE.dflt Sh.str), D.str (CE.dflt Sh.str)], AV.d (D.int IntKind.i64 (IntKind.i64.wrap ((2 : Int) + (↑(named (List.drop (Int.toNat (2 : Int)) s)) : Int))))])))) (some (SV.val (AV.tup [AV.agg [D.int IntKind.i64 (CE.dflt (Sh.int IntKind.i64)), D.str (CE.dflt Sh.str), D.str (CE.dflt Sh.str), D.str (CE.dflt Sh.str)], AV.d (D.int IntKind.i64 (0 : Int))])))))) (some (SV.val (AV.tup [AV.agg [D.int IntKind.i64 (CE.dflt (Sh.int IntKind.i64)), D.str (CE.dflt Sh.str), D.str (CE.dflt Sh.str), D.str (CE.dflt Sh.str)], AV.d (D.int IntKind.i64 (0 : Int))]))))))))))) := by kernel_rfl

theorem sat20x (N : Nat) (okN : SatE P (En (E20 N))) : Sat P 40 (S20 (N + 1)) := by
  refine sat_mk (LT := Ln L20x) hC (ok36 N okN) mixed Try.func40 (by kernel_rfl) (c := bodyOf Try.f40) (by kernel_rfl) (by kernel_rfl) ?_ (loops0 (by kernel_rfl))
  rintro ⟨⟨(s : List UInt8), _⟩, _⟩ sv h
  obtain ⟨⟨hN, hok⟩, h⟩ := h
  obtain rfl := Out_leaf h
  clear h
  have hs := hok.1
  have hB := hs
  rw [Big_eq] at hB
  refine (t20x N s).trans ?_
  cases s with
  | nil => rfl
  | cons b r =>
    have hb0 : byteAt (b :: r) 0 = u b := rfl
    rw [hb0]
    have hlen : ((b :: r).length : Int) = (r.length : Int) + 1 := by simp
    have e62 : (Int.toNat (62 : Int)).toUInt8 = 62 := rfl
    have e1 : (b :: r).drop (Int.toNat (1 : Int)) = r := rfl
    rw [e62]
    refine br_eq (fun q => by simp at q) (fun _ => chk_eq ⟨by omega, by omega⟩ ?_)
    by_cases q1 : u b = 60
    · refine br_eq (fun _ => ?_) (fun q => by simp at q; omega)
      have hI := indexByte_le (b :: r) 62
      have hbb : b = 60 := u_inj (by rw [q1]; rfl)
      by_cases z : 0 < Lib.indexByte (b :: r) 62
      · refine br_eq (fun _ => chk_eq ⟨by omega, by omega, by omega⟩ (chk_eq (by simp only [List.length_drop, List.length_take]; omega) ?_)) (fun q => absurd z (by simpa using q))
        by_cases w : isIri (((b :: r).take (Lib.indexByte (b :: r) 62).toNat).drop 1) = true
        · have hi : iriAt (b :: r) = some (((b :: r).take (Lib.indexByte (b :: r) 62).toNat).drop 1, (Lib.indexByte (b :: r) 62).toNat + 1) := by
            unfold iriAt
            rw [if_pos ⟨by rw [hbb]; rfl, z, w⟩]
          have hp : prefixS (b :: r) = (1, ((b :: r).take (Lib.indexByte (b :: r) 62).toNat).drop 1, [], [], (((Lib.indexByte (b :: r) 62).toNat + 1 : Nat) : Int)) := by
            simp only [prefixS, q1, if_true, hi]
          rw [hp]
          refine br_eq (fun _ => chk_eq ⟨by omega, by omega, by omega⟩ ?_) (fun q => by rw [show Int.toNat 1 = 1 from rfl, w] at q; cases q)
          rw [wrap64 (by omega) (by omega), show Lib.indexByte (b :: r) 62 + 1 = (((Lib.indexByte (b :: r) 62).toNat + 1 : Nat) : Int) by omega]
          rfl
        · have hi : iriAt (b :: r) = none := by
            unfold iriAt
            rw [if_neg fun q => w q.2.2]
          have hp : prefixS (b :: r) = noTerm := by simp only [prefixS, q1, if_true, hi]
          rw [hp]
          exact br_eq (fun q => absurd q w) (fun _ => rfl)
      · have hi : iriAt (b :: r) = none := by
          unfold iriAt
          rw [if_neg fun q => z q.2.1]
        have hp : prefixS (b :: r) = noTerm := by simp only [prefixS, q1, if_true, hi]
        rw [hp]
        exact br_eq (fun q => absurd (by simpa using q) z) (fun _ => rfl)
    refine br_eq (fun q => absurd (by simpa using q) q1) (fun _ => chk_eq ⟨by omega, by omega⟩ ?_)
    by_cases q2 : u b = 34
    · have hbb : b = 34 := u_inj (by rw [q2]; rfl)
      have hp : prefixS (b :: r) = literalS (b :: r) := by simp only [prefixS, q1, q2, if_true, if_false]; rfl
      rw [hp]
      have hrl := run_le r
      have hd : (b :: r).drop 1 = r := rfl
      refine br_eq (fun _ => chk_eq ⟨hs, by simp, ?_, fun hc => ⟨?_, ?_⟩⟩ rfl) (fun q => absurd q2 (by simpa using q))
      · rw [hd]
        rcases hok.2 with q | q
        · simp at q; omega
        · have := (q (by rw [hbb]; rfl)).1
          rw [hd] at this; exact this
      · rw [List.length_drop]; omega
      · rcases hok.2 with q | q
        · exact ⟨by rw [List.length_drop]; omega, .inl (by rw [List.length_drop]; omega)⟩
        · have := (q (by rw [hbb]; rfl)).2 hc
          exact ⟨by rw [List.length_drop]; omega, .inr (fun e => by rw [this] at e; simp at e)⟩
    refine br_eq (fun q => absurd (by simpa using q) q2) (fun _ => chk_eq ⟨by omega, by omega⟩ ?_)
    by_cases q3 : u b = 63
    · rw [e1]
      have hn := named_le r
      refine br_eq (fun _ => chk_eq ⟨by omega, by omega⟩ (chk_eq (by simp at hs; omega) ?_)) (fun q => absurd q3 (by simpa using q))
      by_cases z : 0 < named r
      · have hp : prefixS (b :: r) = (4, r.take (named r), [], [], ((named r + 1 : Nat) : Int)) := by simp [prefixS, q3, z]
        rw [hp]
        rw [wrap64 (by omega) (by simp at hB; omega)]
        refine br_eq (fun _ => chk_eq ⟨by omega, by omega, by omega⟩ ?_) (fun q => by simp at q; omega)
        have e3 : ((1 : Int) + (named r : Int)) = ((named r + 1 : Nat) : Int) := by omega
        rw [e3]
        rfl
      · have hp : prefixS (b :: r) = noTerm := by simp [prefixS, q3, z]
        rw [hp]
        exact br_eq (fun q => by simp at q; omega) (fun _ => rfl)
    refine br_eq (fun q => absurd (by simpa using q) q3) (fun _ => chk_eq ⟨hs, by simp [Big]⟩ ?_)
    by_cases q4 : u b = 95 ∧ r.head? = some 58
    · obtain ⟨c, r', rfl⟩ : ∃ c r', r = c :: r' := by
        cases r with
        | nil => simp at q4
        | cons c r' => exact ⟨c, r', rfl⟩
      have hbb : b = 95 := u_inj (by rw [q4.1]; rfl)
      have hcc : c = 58 := by simpa using q4.2
      have hn := named_le r'
      have e2 : (b :: c :: r').drop (Int.toNat (2 : Int)) = r' := rfl
      have hlen2 : ((b :: c :: r').length : Int) = (r'.length : Int) + 2 := by simp; omega
      rw [e2]
      refine br_eq (fun _ => chk_eq ⟨by omega, by omega⟩ (chk_eq (by simp at hs; omega) ?_)) (fun q => by simp [hbb, hcc] at q)
      by_cases z : 0 < named r'
      · have hp : prefixS (b :: c :: r') = (3, r'.take (named r'), [], [], ((named r' + 2 : Nat) : Int)) := by simp [prefixS, q4.1, hcc, z]
        rw [hp]
        rw [wrap64 (by omega) (by simp at hB; omega)]
        refine br_eq (fun _ => chk_eq ⟨by omega, by omega, by omega⟩ ?_) (fun q => by simp at q; omega)
        have e3 : ((2 : Int) + (named r' : Int)) = ((named r' + 2 : Nat) : Int) := by omega
        rw [e3]
        rfl
      · have hp : prefixS (b :: c :: r') = noTerm := by simp [prefixS, q4.1, hcc, z]
        rw [hp]
        exact br_eq (fun q => by simp at q; omega) (fun _ => rfl)
    · have hp : prefixS (b :: r) = noTerm := by simp only [prefixS, q1, q2, q3, q4, if_false]
      rw [hp]
      refine br_eq (fun q => ?_) (fun _ => rfl)
      exfalso
      apply q4
      have q : (b :: r).take 2 = [95, 58] := by simpa using q
      cases r with
      | nil => simp at q
      | cons c r' => simp at q; rw [q.1, q.2]; exact ⟨rfl, rfl⟩
def S20a := mkS [str] fun ⟨⟨(s : List UInt8), _⟩, _⟩ => .chk (okP s) (pref (prefixS s))
def E20a : Es := (40, S20a) :: E16
theorem sat20 : ∀ N, Sat P 40 (S20 N)
  | 0 => sat_zero Try.func40 (by kernel_rfl) (c := bodyOf Try.f40) (by kernel_rfl) fun vs sv h => by
    obtain ⟨⟨⟨(s : List UInt8), _⟩, _⟩, rfl, h⟩ := mkS_out h
    obtain ⟨⟨h, _⟩, _⟩ := h
    omega
  | N + 1 => sat20x N (SatE.cons (sat20 N) ok16)
theorem sat20a : Sat P 40 S20a := sat_lim (S := S20) sat20 fun vs sv h => by
  obtain ⟨⟨⟨(s : List UInt8), _⟩, _⟩, rfl, h1, h2⟩ := mkS_out h
  exact ⟨s.length + 1, ⟨⟨Nat.lt_succ_self _, h1⟩, h2⟩⟩
theorem ok20a : SatE P (En E20a) := SatE.cons sat20a ok16

end Go.Proofs.Ytglchbjdjnffcaa.T3
