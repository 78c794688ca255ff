/- Part of a proof of the seat's statements: no statement by itself. -/
import Derived.Test.YtoopcfjmmhmamaaQ6
import Derived.Test.YtoopcfjmmhmamaaSpB
set_option maxRecDepth 100000
open Go.Proofs.Ytoopcfjmmhmamaa.Lg Go Go.Proofs.Ytoopcfjmmhmamaa.Sp
open Go.Proofs
namespace Go.Proofs.Ytoopcfjmmhmamaa.T6
attribute [local simp] letterI digitI nameI badI iriI textI lowI

/-! ### function 33 -/
def lf33_0 : St [.v false [.str], .a [.int .u8], .v false [.int .i64]] → Tr (Ex × List SV) := fun ⟨⟨(s : List UInt8), _⟩, (out : List (RowE [.int .u8])), ⟨(n : Int), _⟩, _⟩ => .chk (0 ≤ n ∧ n ≤ (s.length : Int) ∧ s.length ≤ 4096 ∧ out.length + 2 * (s.length - n.toNat) ≤ 100000) (.leaf (.exit 0, [.app [.int .u8] (out ++ rowsB (esc (s.drop n.toNat)))]))
def ls33_0 : LoopS := mkL [0, 3, 4] [3] [.v false [.str], .a [.int .u8], .v false [.int .i64]] lf33_0
def S33 := mkS [str] fun ⟨⟨(s : List UInt8), _⟩, _⟩ => .chk (s.length ≤ 4096) (.leaf (.val (.d (.str (quotedS s)))))
def L33 : Ls := [(3, ls33_0)]
theorem lt33_0 (s : List UInt8) (out : List (RowE [.int .u8])) (n : Int) : evRound T (En (E12)) (Ln L33) (loopAt 0 (loops (bodyOf Try.f56))) ls33_0 [.val (.d (.str s)), .app [.int .u8] out, .val (.d (.int .i64 n))] =
    br (decide (n < (↑s.length : Int))) (chk ((0 : Int) ≤ n ∧ n < (↑s.length : Int)) (br (byteAt s n == (34 : Int)) (br (byteAt s n == (34 : Int)) (chk ((0 : Int) ≤ n ∧ n < (↑s.length : Int)) (chk (((↑out.length : Int) + (↑[((92 : Int), ()), (byteAt s n, ())].length : Int)) * (↑(1 : Nat) : Int) < lim) (some (Rnd.again [SV.val (AV.d (D.str s)), SV.app [Sh.int IntKind.u8] (out ++ [((92 : Int), ()), (byteAt s n, ())]), SV.val (AV.d (D.int IntKind.i64 (IntKind.i64.wrap (n + (1 : Int)))))])))) (br (byteAt s n == (10 : Int)) (chk (((↑out.length : Int) + (↑[((92 : Int), ()), ((110 : Int), ())].length : Int)) * (↑(1 : Nat) : Int) < lim) (some (Rnd.again [SV.val (AV.d (D.str s)), SV.app [Sh.int IntKind.u8] (out ++ [((92 : Int), ()), ((110 : Int), ())]), SV.val (AV.d (D.int IntKind.i64 (IntKind.i64.wrap (n + (1 : Int)))))]))) (br (byteAt s n == (9 : Int)) (chk (((↑out.length : Int) + (↑[((92 : Int), ()), ((116 : Int), ())].length : Int)) * (↑(1 : Nat) : Int) < lim) (some (Rnd.again [SV.val (AV.d (D.str s)), SV.app [Sh.int IntKind.u8] (out ++ [((92 : Int), ()), ((116 : Int), ())]), SV.val (AV.d (D.int IntKind.i64 (IntKind.i64.wrap (n + (1 : Int)))))]))) (chk ((0 : Int) ≤ n ∧ n < (↑s.length : Int)) (chk (((↑out.length : Int) + (↑[(byteAt s n, ())].length : Int)) * (↑(1 : Nat) : Int) < lim) (some (Rnd.again [SV.val (AV.d (D.str s)), SV.app [Sh.int IntKind.u8] (out ++ [(byteAt s n, ())]), SV.val (AV.d (D.int IntKind.i64 (IntKind.i64.wrap (n + (1 : Int)))))]))))))) (br (byteAt s n == (92 : Int)) (chk ((0 : Int) ≤ n ∧ n < (↑s.length : Int)) (chk (((↑out.length : Int) + (↑[((92 : Int), ()), (byteAt s n, ())].length : Int)) * (↑(1 : Nat) : Int) < lim) (some (Rnd.again [SV.val (AV.d (D.str s)), SV.app [Sh.int IntKind.u8] (out ++ [((92 : Int), ()), (byteAt s n, ())]), SV.val (AV.d (D.int IntKind.i64 (IntKind.i64.wrap (n + (1 : Int)))))])))) (br (byteAt s n == (10 : Int)) (chk (((↑out.length : Int) + (↑[((92 : Int), ()), ((110 : Int), ())].length : Int)) * (↑(1 : Nat) : Int) < lim) (some (Rnd.again [SV.val (AV.d (D.str s)), SV.app [Sh.int IntKind.u8] (out ++ [((92 : Int), ()), ((110 : Int), ())]), SV.val (AV.d (D.int IntKind.i64 (IntKind.i64.wrap (n + (1 : Int)))))]))) (br (byteAt s n == (9 : Int)) (chk (((↑out.length : Int) + (↑[((92 : Int), ()), ((116 : Int), ())].length : Int)) * (↑(1 : Nat) : Int) < lim) (some (Rnd.again [SV.val (AV.d (D.str s)), SV.app [Sh.int IntKind.u8] (out ++ [((92 : Int), ()), ((116 : Int), ())]), SV.val (AV.d (D.int IntKind.i64 (IntKind.i64.wrap (n + (1 : Int)))))]))) (chk ((0 : Int) ≤ n ∧ n < (↑s.length : Int)) (chk (((↑out.length : Int) + (↑[(byteAt s n, ())].length : Int)) * (↑(1 : Nat) : Int) < lim) (some (Rnd.again [SV.val (AV.d (D.str s)), SV.app [Sh.int IntKind.u8] (out ++ [(byteAt s n, ())]), SV.val (AV.d (D.int IntKind.i64 (IntKind.i64.wrap (n + (1 : Int)))))]))))))))) (some (Rnd.out (Ex.exit (0 : Nat)) [SV.app [Sh.int IntKind.u8] out])) := by kernel_rfl
theorem lok33_0 : LoopOK T (En (E12)) (Ln L33) (loopAt 0 (loops (bodyOf Try.f56))) := by
  refine loopOK (live := [0, 3, 4]) (outs := [3]) (ks := [.v false [.str], .a [.int .u8], .v false [.int .i64]]) (f := lf33_0) (by kernel_rfl) ?_
  rintro ⟨⟨(s : List UInt8), _⟩, (out : List (RowE [.int .u8])), ⟨(n : Int), _⟩, _⟩ x h
  obtain ⟨⟨h0, h1, h2, h3⟩, h⟩ := h
  obtain rfl := Out_leaf h
  clear h
  have key : ∀ (k m : Nat) (out : List (RowE [.int .u8])), m + k = s.length → out.length + 2 * k ≤ 100000 → Lg.Ends T (En E12) (Ln L33) (loopAt 0 (loops (bodyOf Try.f56))) ls33_0 [.val (.d (.str s)), .app [.int .u8] out, .val (.d (.int .i64 (m : Int)))] (.exit 0, [.app [.int .u8] (out ++ rowsB (esc (s.drop m)))]) := by
    intro k
    induction k with
    | zero =>
      intro m out hm hl
      refine Lg.Ends.out ((lt33_0 s out _).trans (br_eq (fun q => by simp at q; omega) (fun _ => ?_)))
      rw [List.drop_of_length_le (by omega)]
      simp [esc, rowsB]
    | succ k ih =>
      intro m out hm hl
      have hlt : m < s.length := by omega
      obtain ⟨b, hd, hb, _⟩ := byteAt_drop hlt
      have hb : byteAt s m = u b := hb
      have hlen : (escB b).length ≤ 2 := by
        unfold escB
        split
        · simp
        · split
          · simp
          · split <;> simp
      have := ih (m + 1) (out ++ rowsB (escB b)) (by omega) (by simp [rowsB]; omega)
      rw [hd]
      simp only [esc]
      rw [rowsB_append, ← List.append_assoc]
      refine Lg.Ends.again ((lt33_0 s out _).trans ?_) this
      rw [hb, wrap64 (by omega) (by omega)]
      unfold escB
      repeat' (first | refine br_eq (fun _ => ?_) (fun _ => ?_) | refine chk_eq ?_ ?_)
      all_goals first | omega | (simp only [lim, List.length_cons, List.length_nil]; omega) | (simp only [beq_iff_eq, beq_eq_false_iff_ne] at *; simp [rowsB, u92, u110, u116, *]; done) | (simp only [beq_iff_eq, beq_eq_false_iff_ne] at *; simp [rowsB, u, *]; done) | (exfalso; simp at *; omega) | (exfalso; simp_all; done)
  have := key (s.length - n.toNat) n.toNat out (by omega) (by omega)
  rw [Int.toNat_of_nonneg h0] at this
  exact this
theorem t33 (s : List UInt8) : evF T (En (E12)) (Ln L33) Try.f56 [.d (.str s)] =
    chk ((0 : Int) ≤ (0 : Int) ∧ (0 : Int) ≤ (↑s.length : Int) ∧ s.length ≤ (4096 : Nat) ∧ [((34 : Int), ())].length + (2 : Nat) * (s.length - Int.toNat (0 : Int)) ≤ (100000 : Nat)) (chk (((↑([((34 : Int), ())] ++ rowsB (esc (List.drop (Int.toNat (0 : Int)) s))).length : Int) + (↑[((34 : Int), ())].length : Int)) * (↑(1 : Nat) : Int) < lim) (some (SV.val (AV.d (D.str (bytesStr ([((34 : Int), ())] ++ rowsB (esc (List.drop (Int.toNat (0 : Int)) s)) ++ [((34 : Int), ())]))))))) := by kernel_rfl

theorem sat33 : Sat P 56 (S33) := by
  refine sat_mk (LT := Ln L33) hC ok12 mixed Try.func56 (by kernel_rfl) (c := bodyOf Try.f56) (by kernel_rfl) (by kernel_rfl) ?_ (loops1 (by kernel_rfl) lok33_0)
  rintro ⟨⟨(s : List UInt8), _⟩, _⟩ sv h
  obtain ⟨hs, h⟩ := h
  obtain rfl := Out_leaf h
  have he := esc_le s
  refine (t33 s).trans ?_
  repeat' (first | refine br_eq (fun _ => ?_) (fun _ => ?_) | refine chk_eq ?_ ?_)
  all_goals first | (simp [lim, rowsB]; omega) | skip
  refine vs_eq ?_
  have e : ([((34 : Int), ())] ++ rowsB (esc (s.drop (Int.toNat 0))) ++ [((34 : Int), ())] : List (RowE [.int .u8])) = rowsB (quotedS s) := by simp [quotedS, rowsB, u34]
  exact (congrArg bytesStr e).trans (bytesStr_rowsB _)
def E33 : Es := (56, S33) :: E12
theorem ok33 : SatE P (En E33) := SatE.cons sat33 ok12
/-! ### function 16 -/
def S16 := mkS [trm] fun ⟨⟨(k : Int), (a : List UInt8), (t : List UInt8), (l : List UInt8), _⟩, _⟩ => .chk (a.length ≤ 140737488355328 ∧ t.length ≤ 140737488355328 ∧ l.length ≤ 140737488355328) (.br (right k a t l) (.leaf (.val (.tup [.d (.str (textS k a t l)), .d (.int .i64 0)]))) (.leaf (.val (.tup [.d (.str []), .d (.int .i64 2)]))))
def L16 : Ls := []
theorem t16 (k : Int) (a t l : List UInt8) : evF T (En (E33)) (Ln L16) Try.f41 [.agg [.int .i64 k, .str a, .str t, .str l]] =
    chk (a.length ≤ Big ∧ t.length ≤ Big ∧ l.length ≤ Big) (br ((if right k a t l = true then (0 : Int) else (2 : Int)) != (0 : Int)) (some (SV.val (AV.tup [AV.d (D.str []), AV.d (D.int IntKind.i64 (if right k a t l = true then (0 : Int) else (2 : Int)))]))) (br (k == (1 : Int)) (chk ((↑[(60 : UInt8)].length : Int) + (↑a.length : Int) ≤ maxI) (chk ((↑([(60 : UInt8)] ++ a).length : Int) + (↑[(62 : UInt8)].length : Int) ≤ maxI) (some (SV.val (AV.tup [AV.d (D.str ([(60 : UInt8)] ++ a ++ [(62 : UInt8)])), AV.d (D.int IntKind.i64 (0 : Int))]))))) (br (k == (3 : Int)) (chk ((↑[(95 : UInt8), (58 : UInt8)].length : Int) + (↑a.length : Int) ≤ maxI) (some (SV.val (AV.tup [AV.d (D.str ([(95 : UInt8), (58 : UInt8)] ++ a)), AV.d (D.int IntKind.i64 (0 : Int))])))) (br (k == (4 : Int)) (chk ((↑[(63 : UInt8)].length : Int) + (↑a.length : Int) ≤ maxI) (some (SV.val (AV.tup [AV.d (D.str ([(63 : UInt8)] ++ a)), AV.d (D.int IntKind.i64 (0 : Int))])))) (br (k == (2 : Int)) (chk (a.length ≤ (4096 : Nat)) (br (!t == []) (chk ((↑[(94 : UInt8), (94 : UInt8), (60 : UInt8)].length : Int) + (↑t.length : Int) ≤ maxI) (chk ((↑([(94 : UInt8), (94 : UInt8), (60 : UInt8)] ++ t).length : Int) + (↑[(62 : UInt8)].length : Int) ≤ maxI) (chk ((↑(List.length (quotedS a)) : Int) + (↑([(94 : UInt8), (94 : UInt8), (60 : UInt8)] ++ t ++ [(62 : UInt8)]).length : Int) ≤ maxI) (br (!l == []) (chk ((↑[(64 : UInt8)].length : Int) + (↑l.length : Int) ≤ maxI) (chk ((↑(quotedS a ++ ([(94 : UInt8), (94 : UInt8), (60 : UInt8)] ++ t ++ [(62 : UInt8)])).length : Int) + (↑([(64 : UInt8)] ++ l).length : Int) ≤ maxI) (some (SV.val (AV.tup [AV.d (D.str (quotedS a ++ ([(94 : UInt8), (94 : UInt8), (60 : UInt8)] ++ t ++ [(62 : UInt8)]) ++ ([(64 : UInt8)] ++ l))), AV.d (D.int IntKind.i64 (0 : Int))]))))) (some (SV.val (AV.tup [AV.d (D.str (quotedS a ++ ([(94 : UInt8), (94 : UInt8), (60 : UInt8)] ++ t ++ [(62 : UInt8)]))), AV.d (D.int IntKind.i64 (0 : Int))]))))))) (br (!l == []) (chk ((↑[(64 : UInt8)].length : Int) + (↑l.length : Int) ≤ maxI) (chk ((↑(List.length (quotedS a)) : Int) + (↑([(64 : UInt8)] ++ l).length : Int) ≤ maxI) (some (SV.val (AV.tup [AV.d (D.str (quotedS a ++ ([(64 : UInt8)] ++ l))), AV.d (D.int IntKind.i64 (0 : Int))]))))) (some (SV.val (AV.tup [AV.d (D.str (quotedS a)), AV.d (D.int IntKind.i64 (0 : Int))])))))) (some (SV.val (AV.tup [AV.d (D.str []), AV.d (D.int IntKind.i64 (0 : Int))])))))))) := by kernel_rfl

theorem sat16 : Sat P 41 (S16) := by
  refine sat_mk (LT := Ln L16) hC ok33 mixed Try.func41 (by kernel_rfl) (c := bodyOf Try.f41) (by kernel_rfl) (by kernel_rfl) ?_ (loops0 (by kernel_rfl))
  rintro ⟨⟨(k : Int), (a : List UInt8), (t : List UInt8), (l : List UInt8), _⟩, _⟩ sv h
  obtain ⟨⟨ha, ht, hl⟩, h⟩ := h
  have hB := Big_eq
  refine (t16 k a t l).trans ?_
  refine chk_eq ⟨by omega, by omega, by omega⟩ ?_
  rcases Out_br h with ⟨hr, h⟩ | ⟨hr, h⟩
  · obtain rfl := Out_leaf h
    rw [if_pos hr]
    clear h
    have hq : k = 2 → a.length ≤ 4096 := by
      intro e; subst e; simp [right, isText] at hr; omega
    have hql : (quotedS a).length ≤ 2 * a.length + 2 := by simp [quotedS]; have := esc_le a; omega
    refine br_eq (fun q => by simp at q) (fun _ => ?_)
    repeat' (first | refine br_eq (fun _ => ?_) (fun _ => ?_) | refine chk_eq ?_ ?_)
    all_goals first | (simp only [beq_iff_eq] at *; exact hq (by assumption)) | (simp only [List.length_append, List.length_cons, List.length_nil, maxI, beq_iff_eq] at *; have := hq (by assumption); omega) | (simp only [List.length_append, List.length_cons, List.length_nil, maxI]; omega) | (simp only [beq_iff_eq, beq_eq_false_iff_ne, Bool.not_eq_eq_eq_not, Bool.not_true, Bool.not_false] at *; simp [textS, *]; done)
  · obtain rfl := Out_leaf h
    rw [hr]
    exact br_eq (fun _ => rfl) (fun q => by simp at q)
def E16 : Es := (41, S16) :: E33
theorem ok16 : SatE P (En E16) := SatE.cons sat16 ok33
def pref (p : R) : Tr SV := .leaf (.val (.tup [.agg [.int .i64 p.1, .str p.2.1, .str p.2.2.1, .str p.2.2.2.1], .d (.int .i64 p.2.2.2.2)]))

end Go.Proofs.Ytoopcfjmmhmamaa.T6
