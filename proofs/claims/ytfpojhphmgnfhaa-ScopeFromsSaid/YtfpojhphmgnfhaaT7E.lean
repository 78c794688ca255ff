/- Part of a proof of the seat's statements: no statement by itself. -/
import Derived.Test.YtfpojhphmgnfhaaT7D
set_option maxRecDepth 100000
open Go.Proofs.Ytfpojhphmgnfhaa.Lg Go Go.Proofs.Ytfpojhphmgnfhaa.Sp
open Go.Proofs
namespace Go.Proofs.Ytfpojhphmgnfhaa.T7


/-! ### legation/legationref07.Needs -/
def Lq_Needs : Ls := []
def Sq_Needs := mkS [(true, opS)] fun ⟨(o : RowE opS), _⟩ => .leaf (.val (.d (.int .i64 (needsK o.1))))
theorem tq_Needs (o : RowE opS) : evF T (Ep (Es_From)) (Ln (Lq_Needs)) Try.f11 [.agg (rowD opS o)] =
    br (o.fst == (1 : Int)) (some (SV.val (AV.d (D.int IntKind.i64 (0 : Int))))) (br (o.fst == (2 : Int)) (some (SV.val (AV.d (D.int IntKind.i64 (0 : Int))))) (br (o.fst == (7 : Int)) (some (SV.val (AV.d (D.int IntKind.i64 (1 : Int))))) (br (o.fst == (8 : Int)) (some (SV.val (AV.d (D.int IntKind.i64 (1 : Int))))) (br (o.fst == (9 : Int)) (some (SV.val (AV.d (D.int IntKind.i64 (1 : Int))))) (br (o.fst == (3 : Int)) (some (SV.val (AV.d (D.int IntKind.i64 (2 : Int))))) (br (o.fst == (4 : Int)) (some (SV.val (AV.d (D.int IntKind.i64 (2 : Int))))) (br (o.fst == (5 : Int)) (some (SV.val (AV.d (D.int IntKind.i64 (2 : Int))))) (br (o.fst == (6 : Int)) (some (SV.val (AV.d (D.int IntKind.i64 (2 : Int))))) (some (SV.val (AV.d (D.int IntKind.i64 (-1 : Int))))))))))))) := by kernel_rfl
theorem satq_Needs : Sat P 11 (Sq_Needs) := by
  refine sat_mk (LT := Ln (Lq_Needs)) hC (SatE.ep oks_From) mixed Try.func11 (by kernel_rfl) (c := bodyOf Try.f11) (by kernel_rfl) (by kernel_rfl) ?_ (loops0 (by kernel_rfl))
  rintro ⟨(o : RowE opS), _⟩ sv h
  refine Leads.eq (Leads.of_eq (tq_Needs o) ?_)
  obtain rfl := Out_leaf h
  have key : ∀ n, needsK o.1 = n → Leads (some (SV.val (.d (.int .i64 n))) : Option SV) fun z => z = SV.val (.d (.int .i64 (needsK o.1))) := fun n e => by rw [e]; exact Leads.one rfl
  repeat' (first | refine Leads.brD (fun _ => ?_) (fun _ => ?_) | refine Leads.brE (fun _ => ?_) (fun _ => ?_) | refine Leads.brN (fun _ => ?_) (fun _ => ?_) | refine Leads.brM (fun _ => ?_) (fun _ => ?_) | refine Leads.brG (fun _ => ?_) (fun _ => ?_) | refine Leads.br (fun _ => ?_) (fun _ => ?_) | refine Leads.chk ?_ (fun _ => ?_) | refine Leads.one ?_ | refine Leads.brP (fun _ => ?_) (fun _ => ?_))
  all_goals (first | rfl | (refine congrArg (fun n : Int => SV.val (.d (.int .i64 n))) ?_; unfold needsK; simp_all))
def Eq_Needs : Es := (11, (Sq_Needs)) :: Es_From
theorem okq_Needs : SatE P (En (Eq_Needs)) := SatE.cons (satq_Needs) oks_From
/-! ### legation/legationref07.value -/
def Lq_value : Ls := []
def Sq_value := mkS [(true, tmS)] fun ⟨(t : RowE tmS), _⟩ => .chk (szT t) (bl (valT t))
theorem tq_value (t : RowE tmS) : evF T (Ep (Eq_Needs)) (Ln (Lq_value)) Try.f52 [.agg (rowD tmS t)] =
    chk (List.length t.snd.fst ≤ Big ∧ List.length t.snd.snd.fst ≤ Big ∧ List.length t.snd.snd.snd.fst ≤ Big) (br (right t.fst t.snd.fst t.snd.snd.fst t.snd.snd.snd.fst) (br (t.fst == (0 : Int)) (some (SV.val (AV.d (D.bool true)))) (br (t.fst == (1 : Int)) (some (SV.val (AV.d (D.bool true)))) (some (SV.val (AV.d (D.bool (t.fst == (2 : Int)))))))) (some (SV.val (AV.d (D.bool false))))) := by kernel_rfl
theorem satq_value : Sat P 52 (Sq_value) := by
  refine sat_mk (LT := Ln (Lq_value)) hC (SatE.ep okq_Needs) mixed Try.func52 (by kernel_rfl) (c := bodyOf Try.f52) (by kernel_rfl) (by kernel_rfl) ?_ (loops0 (by kernel_rfl))
  rintro ⟨(t : RowE tmS), _⟩ sv h
  refine Leads.eq (Leads.of_eq (tq_value t) ?_)
  obtain ⟨⟨s1, s2, s3⟩, h⟩ := h
  have h := Out_leaf h
  have fin : ∀ b, valT t = b → SV.val (.d (.bool b)) = sv := fun b e => by rw [h, e]
  have hN : 140737488355328 ≤ Big := by decide
  have hkind : rightT t = true → t.1 = 0 ∨ t.1 = 1 ∨ t.1 = 2 ∨ t.1 = 3 ∨ t.1 = 4 := fun e => by
    obtain ⟨(k : Int), a, b, c, _⟩ := t
    show k = 0 ∨ k = 1 ∨ k = 2 ∨ k = 3 ∨ k = 4
    by_cases q : k = 0 ∨ k = 1 ∨ k = 2 ∨ k = 3 ∨ k = 4
    · exact q
    · exfalso
      have e : right k a b c = true := e
      unfold right at e
      rw [if_neg (by omega), if_neg (by omega), if_neg (by omega), if_neg (by omega)] at e
      cases e
  refine Leads.chk ⟨by omega, by omega, by omega⟩ fun _ => Leads.br (fun e => Leads.brE (fun w => Leads.one (fin _ ?_)) (fun w => Leads.brE (fun w2 => Leads.one (fin _ ?_)) (fun w2 => Leads.one (fin _ ?_)))) (fun e => Leads.one (fin _ ?_))
  · have e : rightT t = true := e
    unfold valT; rw [e, w]; rfl
  · have e : rightT t = true := e
    unfold valT; rw [e, w2]; rfl
  · have e : rightT t = true := e
    unfold valT; rw [e]
    rcases hkind e with q | q | q | q | q
    · exact absurd q w
    · exact absurd q w2
    · rw [q]; rfl
    · rw [q]; rfl
    · rw [q]; rfl
  · have e : rightT t = false := e
    unfold valT; rw [e]; rfl
def Eq_value : Es := (52, (Sq_value)) :: Eq_Needs
theorem okq_value : SatE P (En (Eq_value)) := SatE.cons (satq_value) okq_Needs
/-! ### legation/legationref07.patterns -/
def lkq_patterns_0 : St [.v false [.sl [.int .i64, .str, .str, .str, .int .i64, .str, .str, .str, .int .i64, .str, .str, .str]], .v false [.int .i64]] → Prop := fun ⟨⟨(l : List (RowE [.int .i64, .str, .str, .str, .int .i64, .str, .str, .str, .int .i64, .str, .str, .str])), _⟩, ⟨(i : Int), _⟩, _⟩ => 0 ≤ i ∧ i ≤ (l.length : Int) ∧ l.length ≤ 140737488355328 ∧ ∀ t ∈ l, sz3 140737488355328 t
def lgq_patterns_0 : St [.v false [.sl [.int .i64, .str, .str, .str, .int .i64, .str, .str, .str, .int .i64, .str, .str, .str]], .v false [.int .i64]] → Tr (Ex × List SV) := fun ⟨⟨(l : List (RowE [.int .i64, .str, .str, .str, .int .i64, .str, .str, .str, .int .i64, .str, .str, .str])), _⟩, ⟨(i : Int), _⟩, _⟩ => .br ((l.drop i.toNat).all pat) (.leaf (.exit 0, [.val (.d (.sl [.int .i64, .str, .str, .str, .int .i64, .str, .str, .str, .int .i64, .str, .str, .str] (l)))])) (.leaf (.ret, [.val (.d (.bool  (false)))]))
def lmq_patterns_0 : St [.v false [.sl [.int .i64, .str, .str, .str, .int .i64, .str, .str, .str, .int .i64, .str, .str, .str]], .v false [.int .i64]] → Nat := fun ⟨⟨(l : List (RowE [.int .i64, .str, .str, .str, .int .i64, .str, .str, .str, .int .i64, .str, .str, .str])), _⟩, ⟨(i : Int), _⟩, _⟩ => l.length - i.toNat
def lsq_patterns_0 : LoopS := mkR [0, 3] [0] [2] [.v false [.sl [.int .i64, .str, .str, .str, .int .i64, .str, .str, .str, .int .i64, .str, .str, .str]], .v false [.int .i64]] (fun r => .chk (lkq_patterns_0 r) (lgq_patterns_0 r))
def Lq_patterns : Ls := [(2, lsq_patterns_0)]
def Sq_patterns := mkS [(false, [.sl [.int .i64, .str, .str, .str, .int .i64, .str, .str, .str, .int .i64, .str, .str, .str]])] fun ⟨⟨(l : List (RowE [.int .i64, .str, .str, .str, .int .i64, .str, .str, .str, .int .i64, .str, .str, .str])), _⟩, _⟩ => .chk (sz3L l) (bl (basicS l))
theorem ltq_patterns_0 (l : List (RowE [.int .i64, .str, .str, .str, .int .i64, .str, .str, .str, .int .i64, .str, .str, .str])) (i : Int) : evRound T (Ep (Eq_value)) (Ln (Lq_patterns)) (loopAt 0 (loops (bodyOf Try.f29))) (lsq_patterns_0) [.val (.d (.sl [.int .i64, .str, .str, .str, .int .i64, .str, .str, .str, .int .i64, .str, .str, .str] l)), .val (.d (.int .i64 i))] =
    br (decide (i < (↑l.length : Int))) (chk ((0 : Int) ≤ i ∧ i < (↑l.length : Int)) (chk (sz3 (140737488355328 : Nat) (getR t3S l i)) (br (!pat (getR t3S l i)) (some (Rnd.out Ex.ret [SV.val (AV.d (D.bool false))])) (some (Rnd.again [SV.val (AV.d (D.sl t3S l)), SV.val (AV.d (D.int IntKind.i64 (IntKind.i64.wrap (i + (1 : Int)))))]))))) (some (Rnd.out (Ex.exit (0 : Nat)) [SV.val (AV.d (D.sl t3S l))])) := by kernel_rfl
theorem lokq_patterns_0 : LoopOK T (Ep (Eq_value)) (Ln (Lq_patterns)) (loopAt 0 (loops (bodyOf Try.f29))) := by
  refine loop_ok (live := [0, 3]) (outs := [0]) (rets := [2]) (ks := [.v false [.sl [.int .i64, .str, .str, .str, .int .i64, .str, .str, .str, .int .i64, .str, .str, .str]], .v false [.int .i64]]) (G := lgq_patterns_0) (lkq_patterns_0) (lmq_patterns_0) (by kernel_rfl) ?_
  rintro ⟨⟨(l : List (RowE [.int .i64, .str, .str, .str, .int .i64, .str, .str, .str, .int .i64, .str, .str, .str])), _⟩, ⟨(i : Int), _⟩, _⟩ x hok hx
  refine Leads.of_eq (ltq_patterns_0 l i) ?_
  obtain ⟨h0, h1, h3, h4⟩ := hok
  obtain ⟨m, rfl⟩ := Int.eq_ofNat_of_zero_le h0
  simp only [lgq_patterns_0, Int.toNat_natCast] at hx
  rcases drop_cases l m with ⟨hle, hd⟩ | ⟨x1, hlt, hd, hb⟩
  · rw [hd] at hx
    exact Leads.brD (fun q => by omega) (fun _ => Leads.one (Goes.out (Out_leaf (Out_tt hx))))
  rw [hd, List.all_cons] at hx
  rw [getR_of hb, wrap64 (by omega) (by omega)]
  refine Leads.brD (fun _ => Leads.chk (by omega) fun _ => Leads.chk (h4 x1 (List.mem_of_getElem? hb)) fun _ => Leads.brG (fun e => Leads.one ?_) (fun e => Leads.one (Goes.out ?_))) (fun q => by omega)
  · have hp : pat x1 = true := e
    rw [hp, Bool.true_and] at hx
    refine Goes.again (ks := [.v false [.sl [.int .i64, .str, .str, .str, .int .i64, .str, .str, .str, .int .i64, .str, .str, .str]], .v false [.int .i64]]) ((_, ()), (_, ()), ()) rfl ?_ ?_ ?_
    · exact ⟨by omega, by omega, h3, h4⟩
    · simp only [lmq_patterns_0]; omega
    · simp only [lgq_patterns_0, toNat_add1]; exact hx
  · have hp : pat x1 = false := e
    rw [hp, Bool.false_and] at hx
    exact Out_leaf (Out_ff hx)
theorem tq_patterns (l : List (RowE [.int .i64, .str, .str, .str, .int .i64, .str, .str, .str, .int .i64, .str, .str, .str])) : evF T (Ep (Eq_value)) (Ln (Lq_patterns)) Try.f29 [.d (.sl [.int .i64, .str, .str, .str, .int .i64, .str, .str, .str, .int .i64, .str, .str, .str] l)] =
    chk (lkq_patterns_0 ((l, ()), ((0 : Int), ()), ())) (br ((List.drop (Int.toNat (0 : Int)) l).all pat) (some (SV.val (AV.d (D.bool (decide ((↑l.length : Int) ≤ (32 : Int))))))) (some (SV.val (AV.d (D.bool false))))) := by kernel_rfl
theorem satq_patterns : Sat P 29 (Sq_patterns) := by
  refine sat_mk (LT := Ln (Lq_patterns)) hC (SatE.ep okq_value) mixed Try.func29 (by kernel_rfl) (c := bodyOf Try.f29) (by kernel_rfl) (by kernel_rfl) ?_ (loops1 (by kernel_rfl) (lokq_patterns_0))
  rintro ⟨⟨(l : List (RowE [.int .i64, .str, .str, .str, .int .i64, .str, .str, .str, .int .i64, .str, .str, .str])), _⟩, _⟩ sv h
  refine Leads.eq (Leads.of_eq (tq_patterns l) ?_)
  obtain ⟨⟨h0, h1⟩, h⟩ := h
  have h := Out_leaf h
  have h0 : l.length ≤ 140737488355328 := h0
  refine Leads.chk ⟨by omega, by omega, h0, h1⟩ fun _ => Leads.br (fun z => Leads.one ?_) (fun z => Leads.one ?_)
  · have z : l.all pat = true := z
    rw [h, basicS, z, Bool.true_and]
    refine congrArg (fun b => SV.val (.d (.bool b))) (decide_eq_decide.2 ?_)
    omega
  · have z : l.all pat = false := z
    rw [h, basicS, z]; rfl
def Eq_patterns : Es := (29, (Sq_patterns)) :: Eq_value
theorem okq_patterns : SatE P (En (Eq_patterns)) := SatE.cons (satq_patterns) okq_value
/-! ### legation/legationref07.RightTable -/
def lkq_RightTable_0 : St [.box [.v (.sl [.str]), .v (.sl [.sl [.int .i64, .str, .str, .str]])], .v false [.int .i64]] → Prop := fun ⟨(t : KCs [.v (.sl [.str]), .v (.sl [.sl [.int .i64, .str, .str, .str]])]), ⟨(i : Int), _⟩, _⟩ => 0 ≤ i ∧ i ≤ (List.length t.1 : Int) ∧ szV t.1
def lgq_RightTable_0 : St [.box [.v (.sl [.str]), .v (.sl [.sl [.int .i64, .str, .str, .str]])], .v false [.int .i64]] → Tr (Ex × List SV) := fun ⟨(t : KCs [.v (.sl [.str]), .v (.sl [.sl [.int .i64, .str, .str, .str]])]), ⟨(i : Int), _⟩, _⟩ => .br (namesS (List.take i.toNat t.1) (List.drop i.toNat t.1)) (.leaf (.exit 0, [.box true (KCs.svs [.v (.sl [.str]), .v (.sl [.sl [.int .i64, .str, .str, .str]])] (t))])) (.leaf (.ret, [.val (.d (.bool  (false)))]))
def lmq_RightTable_0 : St [.box [.v (.sl [.str]), .v (.sl [.sl [.int .i64, .str, .str, .str]])], .v false [.int .i64]] → Nat := fun ⟨(t : KCs [.v (.sl [.str]), .v (.sl [.sl [.int .i64, .str, .str, .str]])]), ⟨(i : Int), _⟩, _⟩ => List.length t.1 - i.toNat
def lsq_RightTable_0 : LoopS := mkR [1, 3] [1] [2] [.box [.v (.sl [.str]), .v (.sl [.sl [.int .i64, .str, .str, .str]])], .v false [.int .i64]] (fun r => .chk (lkq_RightTable_0 r) (lgq_RightTable_0 r))
def lkq_RightTable_1 : St [.box [.v (.sl [.str]), .v (.sl [.sl [.int .i64, .str, .str, .str]])], .v false [.int .i64]] → Prop := fun ⟨(t : KCs [.v (.sl [.str]), .v (.sl [.sl [.int .i64, .str, .str, .str]])]), ⟨(i : Int), _⟩, _⟩ => 0 ≤ i ∧ i ≤ (List.length t.2.1 : Int) ∧ szR t.2.1 ∧ List.length t.1 ≤ 140737488355328
def lgq_RightTable_1 : St [.box [.v (.sl [.str]), .v (.sl [.sl [.int .i64, .str, .str, .str]])], .v false [.int .i64]] → Tr (Ex × List SV) := fun ⟨(t : KCs [.v (.sl [.str]), .v (.sl [.sl [.int .i64, .str, .str, .str]])]), ⟨(i : Int), _⟩, _⟩ => .br ((List.drop i.toNat t.2.1).all (rowS (List.length t.1))) (.leaf (.exit 2, [])) (.leaf (.ret, [.val (.d (.bool  (false)))]))
def lmq_RightTable_1 : St [.box [.v (.sl [.str]), .v (.sl [.sl [.int .i64, .str, .str, .str]])], .v false [.int .i64]] → Nat := fun ⟨(t : KCs [.v (.sl [.str]), .v (.sl [.sl [.int .i64, .str, .str, .str]])]), ⟨(i : Int), _⟩, _⟩ => List.length t.2.1 - i.toNat
def lsq_RightTable_1 : LoopS := mkR [1, 4] [] [2] [.box [.v (.sl [.str]), .v (.sl [.sl [.int .i64, .str, .str, .str]])], .v false [.int .i64]] (fun r => .chk (lkq_RightTable_1 r) (lgq_RightTable_1 r))
def lkq_RightTable_2 : St [.box [.v (.sl [.str]), .v (.sl [.sl [.int .i64, .str, .str, .str]])], .v false [.int .i64], .v false [.int .i64]] → Prop := fun ⟨(t : KCs [.v (.sl [.str]), .v (.sl [.sl [.int .i64, .str, .str, .str]])]), ⟨(i : Int), _⟩, ⟨(k : Int), _⟩, _⟩ => 0 ≤ i ∧ i < (List.length t.2.1 : Int) ∧ 0 ≤ k ∧ k ≤ ((getR [.sl tmS] t.2.1 i).1.length : Int) ∧ (getR [.sl tmS] t.2.1 i).1.length ≤ 140737488355328 ∧ ∀ y ∈ (getR [.sl tmS] t.2.1 i).1, szT y
def lgq_RightTable_2 : St [.box [.v (.sl [.str]), .v (.sl [.sl [.int .i64, .str, .str, .str]])], .v false [.int .i64], .v false [.int .i64]] → Tr (Ex × List SV) := fun ⟨(t : KCs [.v (.sl [.str]), .v (.sl [.sl [.int .i64, .str, .str, .str]])]), ⟨(i : Int), _⟩, ⟨(k : Int), _⟩, _⟩ => .br ((List.drop k.toNat (getR [.sl tmS] t.2.1 i).1).all fun t => valT t) (.leaf (.exit 4, [.box true (KCs.svs [.v (.sl [.str]), .v (.sl [.sl [.int .i64, .str, .str, .str]])] (t)), .val (.d (.int .i64 (i)))])) (.leaf (.ret, [.val (.d (.bool  (false)))]))
def lmq_RightTable_2 : St [.box [.v (.sl [.str]), .v (.sl [.sl [.int .i64, .str, .str, .str]])], .v false [.int .i64], .v false [.int .i64]] → Nat := fun ⟨(t : KCs [.v (.sl [.str]), .v (.sl [.sl [.int .i64, .str, .str, .str]])]), ⟨(i : Int), _⟩, ⟨(k : Int), _⟩, _⟩ => (getR [.sl tmS] t.2.1 i).1.length - k.toNat
def lsq_RightTable_2 : LoopS := mkR [1, 4, 5] [1, 4] [2] [.box [.v (.sl [.str]), .v (.sl [.sl [.int .i64, .str, .str, .str]])], .v false [.int .i64], .v false [.int .i64]] (fun r => .chk (lkq_RightTable_2 r) (lgq_RightTable_2 r))
def Lq_RightTable : Ls := [(4, lsq_RightTable_0), (9, lsq_RightTable_1), (14, lsq_RightTable_2)]
def Sq_RightTable := mkS [(true, tbS)] fun ⟨(t : RowE tbS), _⟩ => .chk (szV t.1 ∧ szR t.2.1) (bl (tableS t.1 t.2.1))
theorem ltq_RightTable_0 (t : KCs [.v (.sl [.str]), .v (.sl [.sl [.int .i64, .str, .str, .str]])]) (i : Int) : evRound T (Ep (Eq_patterns)) (Ln (Lq_RightTable)) (loopAt 0 (loops (bodyOf Try.f30))) (lsq_RightTable_0) [.box true (KCs.svs [.v (.sl [.str]), .v (.sl [.sl [.int .i64, .str, .str, .str]])] t), .val (.d (.int .i64 i))] =
    br (decide (i < (↑(List.length t.fst) : Int))) (chk ((0 : Int) ≤ i ∧ i < (↑(List.length t.fst) : Int)) (chk (List.length (getR [Sh.str] t.fst i).fst ≤ Big) (br (!isName (getR [Sh.str] t.fst i).fst) (some (Rnd.out Ex.ret [SV.val (AV.d (D.bool false))])) (chk ((0 : Int) ≤ i ∧ i ≤ (↑(List.length t.fst) : Int)) (chk ((0 : Int) ≤ i ∧ i < (↑(List.length t.fst) : Int)) (chk ((List.take i.toNat t.fst).length ≤ (140737488355328 : Nat)) (br (hasS (List.take i.toNat t.fst) (getR [Sh.str] t.fst i).fst) (some (Rnd.out Ex.ret [SV.val (AV.d (D.bool false))])) (some (Rnd.again [SV.box true [SV.val (AV.d (D.sl [Sh.str] t.fst)), SV.val (AV.d (D.sl [Sh.sl tmS] t.snd.fst))], SV.val (AV.d (D.int IntKind.i64 (IntKind.i64.wrap (i + (1 : Int)))))]))))))))) (some (Rnd.out (Ex.exit (0 : Nat)) [SV.box true [SV.val (AV.d (D.sl [Sh.str] t.fst)), SV.val (AV.d (D.sl [Sh.sl tmS] t.snd.fst))]])) := by kernel_rfl
theorem lokq_RightTable_0 : LoopOK T (Ep (Eq_patterns)) (Ln (Lq_RightTable)) (loopAt 0 (loops (bodyOf Try.f30))) := by
  refine loop_ok (live := [1, 3]) (outs := [1]) (rets := [2]) (ks := [.box [.v (.sl [.str]), .v (.sl [.sl [.int .i64, .str, .str, .str]])], .v false [.int .i64]]) (G := lgq_RightTable_0) (lkq_RightTable_0) (lmq_RightTable_0) (by kernel_rfl) ?_
  rintro ⟨(t : KCs [.v (.sl [.str]), .v (.sl [.sl [.int .i64, .str, .str, .str]])]), ⟨(i : Int), _⟩, _⟩ x hok hx
  refine Leads.of_eq (ltq_RightTable_0 t i) ?_
  obtain ⟨h0, h1, h3, h4⟩ := hok
  obtain ⟨m, rfl⟩ := Int.eq_ofNat_of_zero_le h0
  simp only [lgq_RightTable_0, Int.toNat_natCast] at hx
  have h1 : (m : Int) ≤ (List.length t.1 : Int) := h1
  have h3 : List.length t.1 ≤ 140737488355328 := h3
  rcases drop_cases t.1 m with ⟨hle, hd⟩ | ⟨x1, hlt, hd, hb⟩
  · rw [hd] at hx
    have hle : List.length t.1 ≤ m := hle
    exact Leads.brD (fun q => by have q : (m : Int) < (List.length t.1 : Int) := q; omega) (fun _ => Leads.one (Goes.out (Out_leaf (Out_tt hx))))
  have hlt : m < List.length t.1 := hlt
  rw [hd] at hx
  simp only [namesS] at hx
  rw [getR_of hb, wrap64 (by omega) (by omega)]
  have hm := h4 x1 (List.mem_of_getElem? hb)
  have c1 : (0 : Int) ≤ (m : Int) ∧ (m : Int) < (List.length t.1 : Int) := ⟨by omega, by omega⟩
  refine Leads.brD (fun _ => Leads.chk c1 fun _ => Leads.chk (Nat.le_trans hm (by decide)) fun _ => Leads.brG (fun e => Leads.chk ⟨c1.1, Int.le_of_lt c1.2⟩ fun _ => Leads.chk c1 fun _ => Leads.chk (by rw [List.length_take]; exact Nat.le_trans (Nat.min_le_right _ _) h3) fun _ => Leads.br (fun w => Leads.one (Goes.out ?_)) (fun w => Leads.one ?_)) (fun e => Leads.one (Goes.out ?_))) (fun q => absurd c1.2 q)
  · have e : isName x1.1 = true := e
    have w : hasS (List.take m t.1) x1.1 = true := w
    rw [e, w] at hx
    exact Out_leaf (Out_ff hx)
  · have e : isName x1.1 = true := e
    have w : hasS (List.take m t.1) x1.1 = false := w
    rw [e, w] at hx
    refine Goes.again (ks := [.box [.v (.sl [.str]), .v (.sl [.sl [.int .i64, .str, .str, .str]])], .v false [.int .i64]]) (_, (_, ()), ()) rfl ?_ ?_ ?_
    · exact ⟨by omega, by show (m : Int) + 1 ≤ (List.length t.1 : Int); omega, h3, h4⟩
    · show List.length t.1 - (m + 1) < List.length t.1 - m
      omega
    · simp only [lgq_RightTable_0, toNat_add1]
      rw [List.take_add_one, hb]
      exact hx
  · have e : isName x1.1 = false := e
    rw [e] at hx
    exact Out_leaf (Out_ff hx)
theorem ltq_RightTable_1 (t : KCs [.v (.sl [.str]), .v (.sl [.sl [.int .i64, .str, .str, .str]])]) (i : Int) : evRound T (Ep (Eq_patterns)) (Ln (Lq_RightTable)) (loopAt 1 (loops (bodyOf Try.f30))) (lsq_RightTable_1) [.box true (KCs.svs [.v (.sl [.str]), .v (.sl [.sl [.int .i64, .str, .str, .str]])] t), .val (.d (.int .i64 i))] =
    br (decide (i < (↑(List.length t.snd.fst) : Int))) (chk ((0 : Int) ≤ i ∧ i < (↑(List.length t.snd.fst) : Int)) (br ((↑(List.length (getR [Sh.sl tmS] t.snd.fst i).fst) : Int) != (↑(List.length t.fst) : Int)) (some (Rnd.out Ex.ret [SV.val (AV.d (D.bool false))])) (chk (lkq_RightTable_2 (t, (i, ()), ((0 : Int), ()), ())) (br ((List.drop (Int.toNat (0 : Int)) (getR [Sh.sl tmS] t.snd.fst i).fst).all fun t => valT t) (some (Rnd.again [SV.box true [SV.val (AV.d (D.sl [Sh.str] t.fst)), SV.val (AV.d (D.sl [Sh.sl tmS] t.snd.fst))], SV.val (AV.d (D.int IntKind.i64 (IntKind.i64.wrap (i + (1 : Int)))))])) (some (Rnd.out Ex.ret [SV.val (AV.d (D.bool false))])))))) (some (Rnd.out (Ex.exit (2 : Nat)) [])) := by kernel_rfl
theorem lokq_RightTable_1 : LoopOK T (Ep (Eq_patterns)) (Ln (Lq_RightTable)) (loopAt 1 (loops (bodyOf Try.f30))) := by
  refine loop_ok (live := [1, 4]) (outs := []) (rets := [2]) (ks := [.box [.v (.sl [.str]), .v (.sl [.sl [.int .i64, .str, .str, .str]])], .v false [.int .i64]]) (G := lgq_RightTable_1) (lkq_RightTable_1) (lmq_RightTable_1) (by kernel_rfl) ?_
  rintro ⟨(t : KCs [.v (.sl [.str]), .v (.sl [.sl [.int .i64, .str, .str, .str]])]), ⟨(i : Int), _⟩, _⟩ x hok hx
  refine Leads.of_eq (ltq_RightTable_1 t i) ?_
  obtain ⟨h0, h1, ⟨h4, h5⟩, h6⟩ := hok
  obtain ⟨m, rfl⟩ := Int.eq_ofNat_of_zero_le h0
  simp only [lgq_RightTable_1, Int.toNat_natCast] at hx
  have h1 : (m : Int) ≤ (List.length t.2.1 : Int) := h1
  have h4 : List.length t.2.1 ≤ 140737488355328 := h4
  have h6 : List.length t.1 ≤ 140737488355328 := h6
  rcases drop_cases t.2.1 m with ⟨hle, hd⟩ | ⟨x1, hlt, hd, hb⟩
  · rw [hd] at hx
    have hle : List.length t.2.1 ≤ m := hle
    exact Leads.brD (fun q => by have q : (m : Int) < (List.length t.2.1 : Int) := q; omega) (fun _ => Leads.one (Goes.out (Out_leaf (Out_tt hx))))
  have hlt : m < List.length t.2.1 := hlt
  rw [hd, List.all_cons] at hx
  rw [getR_of hb, wrap64 (by omega) (by omega)]
  obtain ⟨h7, h8⟩ := h5 x1 (List.mem_of_getElem? hb)
  have c1 : (0 : Int) ≤ (m : Int) ∧ (m : Int) < (List.length t.2.1 : Int) := ⟨by omega, by omega⟩
  refine Leads.brD (fun _ => Leads.chk c1 fun _ => Leads.brN (fun e => Leads.chk ?_ fun _ => ?_) (fun e => Leads.one (Goes.out ?_))) (fun q => absurd c1.2 q)
  · exact ⟨by omega, c1.2, by omega, by show (0 : Int) ≤ ((getR [.sl tmS] t.2.1 (m : Int)).1.length : Int); omega, by show (getR [.sl tmS] t.2.1 (m : Int)).1.length ≤ _; rw [getR_of hb]; exact h7, by show ∀ y ∈ (getR [.sl tmS] t.2.1 (m : Int)).1, szT y; rw [getR_of hb]; exact h8⟩
  · have e : (x1.1.length : Int) = (List.length t.1 : Int) := e
    have er : rowS (List.length t.1) x1 = x1.1.all fun t => valT t := by unfold rowS; rw [decide_eq_true (by omega), Bool.true_and]
    rw [er] at hx
    refine Leads.br (fun z => Leads.one ?_) (fun z => Leads.one (Goes.out ?_))
    · have z : (x1.1.all fun t => valT t) = true := z
      rw [z, Bool.true_and] at hx
      refine Goes.again (ks := [.box [.v (.sl [.str]), .v (.sl [.sl [.int .i64, .str, .str, .str]])], .v false [.int .i64]]) (_, (_, ()), ()) rfl ?_ ?_ ?_
      · exact ⟨by omega, by show (m : Int) + 1 ≤ (List.length t.2.1 : Int); omega, ⟨h4, h5⟩, h6⟩
      · show List.length t.2.1 - (m + 1) < List.length t.2.1 - m
        omega
      · simp only [lgq_RightTable_1, toNat_add1]; exact hx
    · have z : (x1.1.all fun t => valT t) = false := z
      rw [z, Bool.false_and] at hx
      exact Out_leaf (Out_ff hx)
  · have e : ¬ (x1.1.length : Int) = (List.length t.1 : Int) := e
    have er : rowS (List.length t.1) x1 = false := by unfold rowS; rw [decide_eq_false (by omega), Bool.false_and]
    rw [er] at hx
    exact Out_leaf (Out_ff hx)
theorem ltq_RightTable_2 (t : KCs [.v (.sl [.str]), .v (.sl [.sl [.int .i64, .str, .str, .str]])]) (i : Int) (k : Int) : evRound T (Ep (Eq_patterns)) (Ln (Lq_RightTable)) (loopAt 2 (loops (bodyOf Try.f30))) (lsq_RightTable_2) [.box true (KCs.svs [.v (.sl [.str]), .v (.sl [.sl [.int .i64, .str, .str, .str]])] t), .val (.d (.int .i64 i)), .val (.d (.int .i64 k))] =
    chk ((0 : Int) ≤ i ∧ i < (↑(List.length t.snd.fst) : Int)) (br (decide (k < (↑(List.length (getR [Sh.sl tmS] t.snd.fst i).fst) : Int))) (chk ((0 : Int) ≤ i ∧ i < (↑(List.length t.snd.fst) : Int)) (chk ((0 : Int) ≤ k ∧ k < (↑(List.length (getR [Sh.sl tmS] t.snd.fst i).fst) : Int)) (chk (szT (getR tmS (getR [Sh.sl tmS] t.snd.fst i).fst k)) (br (!valT (getR tmS (getR [Sh.sl tmS] t.snd.fst i).fst k)) (some (Rnd.out Ex.ret [SV.val (AV.d (D.bool false))])) (some (Rnd.again [SV.box true [SV.val (AV.d (D.sl [Sh.str] t.fst)), SV.val (AV.d (D.sl [Sh.sl tmS] t.snd.fst))], SV.val (AV.d (D.int IntKind.i64 i)), SV.val (AV.d (D.int IntKind.i64 (IntKind.i64.wrap (k + (1 : Int)))))])))))) (some (Rnd.out (Ex.exit (4 : Nat)) [SV.box true [SV.val (AV.d (D.sl [Sh.str] t.fst)), SV.val (AV.d (D.sl [Sh.sl tmS] t.snd.fst))], SV.val (AV.d (D.int IntKind.i64 i))]))) := by kernel_rfl
theorem lokq_RightTable_2 : LoopOK T (Ep (Eq_patterns)) (Ln (Lq_RightTable)) (loopAt 2 (loops (bodyOf Try.f30))) := by
  refine loop_ok (live := [1, 4, 5]) (outs := [1, 4]) (rets := [2]) (ks := [.box [.v (.sl [.str]), .v (.sl [.sl [.int .i64, .str, .str, .str]])], .v false [.int .i64], .v false [.int .i64]]) (G := lgq_RightTable_2) (lkq_RightTable_2) (lmq_RightTable_2) (by kernel_rfl) ?_
  rintro ⟨(t : KCs [.v (.sl [.str]), .v (.sl [.sl [.int .i64, .str, .str, .str]])]), ⟨(i : Int), _⟩, ⟨(k : Int), _⟩, _⟩ x hok hx
  refine Leads.of_eq (ltq_RightTable_2 t i k) ?_
  obtain ⟨g0, g1, h0, h1, h3, h4⟩ := hok
  obtain ⟨m, rfl⟩ := Int.eq_ofNat_of_zero_le h0
  simp only [lgq_RightTable_2, Int.toNat_natCast] at hx
  generalize hrow : (getR [.sl tmS] t.2.1 i).1 = row at *
  rcases drop_cases row m with ⟨hle, hd⟩ | ⟨x1, hlt, hd, hb⟩
  · rw [hd] at hx
    exact Leads.chk ⟨g0, g1⟩ fun _ => Leads.brD (fun q => by omega) (fun _ => Leads.one (Goes.out (Out_leaf (Out_tt hx))))
  rw [hd, List.all_cons] at hx
  rw [getR_of hb, wrap64 (by omega) (by omega)]
  refine Leads.chk ⟨g0, g1⟩ fun _ => Leads.brD (fun _ => Leads.chk ⟨g0, g1⟩ fun _ => Leads.chk (by omega) fun _ => Leads.chk (h4 x1 (List.mem_of_getElem? hb)) fun _ => Leads.brG (fun e => Leads.one ?_) (fun e => Leads.one (Goes.out ?_))) (fun q => by omega)
  · have hp : valT x1 = true := e
    rw [hp, Bool.true_and] at hx
    refine Goes.again (ks := [.box [.v (.sl [.str]), .v (.sl [.sl [.int .i64, .str, .str, .str]])], .v false [.int .i64], .v false [.int .i64]]) (_, (_, ()), (_, ()), ()) rfl ?_ ?_ ?_
    · subst hrow; exact ⟨g0, g1, by omega, by omega, h3, h4⟩
    · subst hrow; simp only [lmq_RightTable_2]; omega
    · subst hrow; simp only [lgq_RightTable_2, toNat_add1]; exact hx
  · have hp : valT x1 = false := e
    rw [hp, Bool.false_and] at hx
    exact Out_leaf (Out_ff hx)
theorem tq_RightTable (t : RowE tbS) : evF T (Ep (Eq_patterns)) (Ln (Lq_RightTable)) Try.f30 [.agg (rowD tbS t)] =
    br (decide ((↑(List.length t.fst) : Int) > (32 : Int))) (some (SV.val (AV.d (D.bool false)))) (br (decide ((↑(List.length t.snd.fst) : Int) > (64 : Int))) (some (SV.val (AV.d (D.bool false)))) (chk (lkq_RightTable_0 (t, ((0 : Int), ()), ())) (br (namesS (List.take (Int.toNat (0 : Int)) t.fst) (List.drop (Int.toNat (0 : Int)) t.fst)) (chk (lkq_RightTable_1 (t, ((0 : Int), ()), ())) (br ((List.drop (Int.toNat (0 : Int)) t.snd.fst).all (rowS (List.length t.fst))) (some (SV.val (AV.d (D.bool true)))) (some (SV.val (AV.d (D.bool false)))))) (some (SV.val (AV.d (D.bool false))))))) := by kernel_rfl
theorem satq_RightTable : Sat P 30 (Sq_RightTable) := by
  refine sat_mk (LT := Ln (Lq_RightTable)) hC (SatE.ep okq_patterns) mixed Try.func30 (by kernel_rfl) (c := bodyOf Try.f30) (by kernel_rfl) (by kernel_rfl) ?_ (loops3 (by kernel_rfl) (lokq_RightTable_0) (lokq_RightTable_1) (lokq_RightTable_2))
  rintro ⟨(t : RowE tbS), _⟩ sv h
  refine Leads.eq (Leads.of_eq (tq_RightTable t) ?_)
  obtain ⟨⟨⟨h0, h1⟩, h2, h3⟩, h⟩ := h
  have h := Out_leaf h
  have h0 : List.length t.1 ≤ 140737488355328 := h0
  have h2 : List.length t.2.1 ≤ 140737488355328 := h2
  have fin : ∀ b, tableS t.1 t.2.1 = b → SV.val (.d (.bool b)) = sv := fun b e => by rw [h, e]
  refine Leads.brD (fun e => Leads.one (fin _ ?_)) (fun e => Leads.brD (fun e2 => Leads.one (fin _ ?_)) (fun e2 => ?_))
  · unfold tableS; rw [decide_eq_false (show ¬ List.length t.1 ≤ 32 by omega)]; rfl
  · unfold tableS; rw [decide_eq_false (show ¬ List.length t.2.1 ≤ 64 by omega)]; simp
  have ht : tableS t.1 t.2.1 = (namesS [] t.1 && t.2.1.all (rowS (List.length t.1))) := by
    unfold tableS; rw [decide_eq_true (show List.length t.1 ≤ 32 by omega), decide_eq_true (show List.length t.2.1 ≤ 64 by omega)]; rfl
  refine Leads.chk (show _ ∧ _ ∧ _ from ⟨by omega, by show (0 : Int) ≤ (List.length t.1 : Int); omega, h0, h1⟩) fun _ => Leads.br (fun z => Leads.chk (show _ ∧ _ ∧ _ ∧ _ from ⟨by omega, by show (0 : Int) ≤ (List.length t.2.1 : Int); omega, ⟨h2, h3⟩, h0⟩) fun _ => Leads.br (fun y => Leads.one (fin _ ?_)) (fun y => Leads.one (fin _ ?_))) (fun z => Leads.one (fin _ ?_))
  · have z : namesS [] t.1 = true := z
    have y : t.2.1.all (rowS (List.length t.1)) = true := y
    rw [ht, z, y]; rfl
  · have z : namesS [] t.1 = true := z
    have y : t.2.1.all (rowS (List.length t.1)) = false := y
    rw [ht, z, y]; rfl
  · have z : namesS [] t.1 = false := z
    rw [ht, z]; rfl
def Eq_RightTable : Es := (30, (Sq_RightTable)) :: Eq_patterns
theorem okq_RightTable : SatE P (En (Eq_RightTable)) := SatE.cons (satq_RightTable) okq_patterns
/-! ### legation/legationref07.Right -/
def Lq_Right : Ls := []
def Sq_Right := mkS [(true, opS)] fun ⟨(o : RowE opS), _⟩ => .chk (szO o) (bl (rightO o))
theorem tq_Right_c0 (tr : List (RowE t9S)) (vs : List (RowE [.str])) (rows : List (RowE [.sl [.int .i64, .str, .str, .str]])) (f : List (RowE ptS)) (name : List UInt8) (sil : Bool) : evF T (Ep (Eq_RightTable)) (Ln (Lq_Right)) Try.f9 [.agg (rowD opS ((0 : Int), tr, vs, rows, f, name, sil, ()))] =
    br (decide ((↑f.length : Int) > (0 : Int))) (chk (allPt f) (br ((↑vs.length : Int) == (0 : Int)) (some (SV.val (AV.d (D.bool false)))) (some (SV.val (AV.d (D.bool false)))))) (br ((↑vs.length : Int) == (0 : Int)) (some (SV.val (AV.d (D.bool false)))) (some (SV.val (AV.d (D.bool false))))) := by kernel_rfl
theorem tq_Right_c1 (tr : List (RowE t9S)) (vs : List (RowE [.str])) (rows : List (RowE [.sl [.int .i64, .str, .str, .str]])) (f : List (RowE ptS)) (name : List UInt8) (sil : Bool) : evF T (Ep (Eq_RightTable)) (Ln (Lq_Right)) Try.f9 [.agg (rowD opS ((1 : Int), tr, vs, rows, f, name, sil, ()))] =
    br (decide ((↑f.length : Int) > (0 : Int))) (chk (allPt f) (br ((↑vs.length : Int) == (0 : Int)) (chk (sz3L tr) (br (basicS tr) (br ((↑rows.length : Int) == (0 : Int)) (br (!decide ((↑f.length : Int) > (0 : Int))) (br (name == []) (some (SV.val (AV.d (D.bool !sil)))) (some (SV.val (AV.d (D.bool false))))) (some (SV.val (AV.d (D.bool false))))) (some (SV.val (AV.d (D.bool false))))) (some (SV.val (AV.d (D.bool false)))))) (chk (sz3L tr) (br (basicS tr) (some (SV.val (AV.d (D.bool false)))) (some (SV.val (AV.d (D.bool false)))))))) (br ((↑vs.length : Int) == (0 : Int)) (chk (sz3L tr) (br (basicS tr) (br ((↑rows.length : Int) == (0 : Int)) (br (!decide ((↑f.length : Int) > (0 : Int))) (br (name == []) (some (SV.val (AV.d (D.bool !sil)))) (some (SV.val (AV.d (D.bool false))))) (some (SV.val (AV.d (D.bool false))))) (some (SV.val (AV.d (D.bool false))))) (some (SV.val (AV.d (D.bool false)))))) (chk (sz3L tr) (br (basicS tr) (some (SV.val (AV.d (D.bool false)))) (some (SV.val (AV.d (D.bool false))))))) := by kernel_rfl
theorem tq_Right_c2 (tr : List (RowE t9S)) (vs : List (RowE [.str])) (rows : List (RowE [.sl [.int .i64, .str, .str, .str]])) (f : List (RowE ptS)) (name : List UInt8) (sil : Bool) : evF T (Ep (Eq_RightTable)) (Ln (Lq_Right)) Try.f9 [.agg (rowD opS ((2 : Int), tr, vs, rows, f, name, sil, ()))] =
    br (decide ((↑f.length : Int) > (0 : Int))) (chk (allPt f) (br ((↑vs.length : Int) == (0 : Int)) (br ((↑tr.length : Int) == (0 : Int)) (chk (szV vs ∧ szR rows) (br (tableS vs rows) (br (!decide ((↑f.length : Int) > (0 : Int))) (br (name == []) (some (SV.val (AV.d (D.bool !sil)))) (some (SV.val (AV.d (D.bool false))))) (some (SV.val (AV.d (D.bool false))))) (some (SV.val (AV.d (D.bool false)))))) (some (SV.val (AV.d (D.bool false))))) (br ((↑tr.length : Int) == (0 : Int)) (chk (szV vs ∧ szR rows) (br (tableS vs rows) (br (!decide ((↑f.length : Int) > (0 : Int))) (br (name == []) (some (SV.val (AV.d (D.bool !sil)))) (some (SV.val (AV.d (D.bool false))))) (some (SV.val (AV.d (D.bool false))))) (some (SV.val (AV.d (D.bool false)))))) (some (SV.val (AV.d (D.bool false))))))) (br ((↑vs.length : Int) == (0 : Int)) (br ((↑tr.length : Int) == (0 : Int)) (chk (szV vs ∧ szR rows) (br (tableS vs rows) (br (!decide ((↑f.length : Int) > (0 : Int))) (br (name == []) (some (SV.val (AV.d (D.bool !sil)))) (some (SV.val (AV.d (D.bool false))))) (some (SV.val (AV.d (D.bool false))))) (some (SV.val (AV.d (D.bool false)))))) (some (SV.val (AV.d (D.bool false))))) (br ((↑tr.length : Int) == (0 : Int)) (chk (szV vs ∧ szR rows) (br (tableS vs rows) (br (!decide ((↑f.length : Int) > (0 : Int))) (br (name == []) (some (SV.val (AV.d (D.bool !sil)))) (some (SV.val (AV.d (D.bool false))))) (some (SV.val (AV.d (D.bool false))))) (some (SV.val (AV.d (D.bool false)))))) (some (SV.val (AV.d (D.bool false)))))) := by kernel_rfl
theorem tq_Right_c3 (tr : List (RowE t9S)) (vs : List (RowE [.str])) (rows : List (RowE [.sl [.int .i64, .str, .str, .str]])) (f : List (RowE ptS)) (name : List UInt8) (sil : Bool) : evF T (Ep (Eq_RightTable)) (Ln (Lq_Right)) Try.f9 [.agg (rowD opS ((3 : Int), tr, vs, rows, f, name, sil, ()))] =
    br (decide ((↑f.length : Int) > (0 : Int))) (chk (allPt f) (br ((↑vs.length : Int) == (0 : Int)) (br ((↑tr.length : Int) == (0 : Int)) (br ((↑rows.length : Int) == (0 : Int)) (br (!decide ((↑f.length : Int) > (0 : Int))) (br (name == []) (some (SV.val (AV.d (D.bool !sil)))) (some (SV.val (AV.d (D.bool false))))) (some (SV.val (AV.d (D.bool false))))) (some (SV.val (AV.d (D.bool false))))) (some (SV.val (AV.d (D.bool false))))) (br ((↑tr.length : Int) == (0 : Int)) (some (SV.val (AV.d (D.bool false)))) (some (SV.val (AV.d (D.bool false))))))) (br ((↑vs.length : Int) == (0 : Int)) (br ((↑tr.length : Int) == (0 : Int)) (br ((↑rows.length : Int) == (0 : Int)) (br (!decide ((↑f.length : Int) > (0 : Int))) (br (name == []) (some (SV.val (AV.d (D.bool !sil)))) (some (SV.val (AV.d (D.bool false))))) (some (SV.val (AV.d (D.bool false))))) (some (SV.val (AV.d (D.bool false))))) (some (SV.val (AV.d (D.bool false))))) (br ((↑tr.length : Int) == (0 : Int)) (some (SV.val (AV.d (D.bool false)))) (some (SV.val (AV.d (D.bool false)))))) := by kernel_rfl
theorem tq_Right_c4 (tr : List (RowE t9S)) (vs : List (RowE [.str])) (rows : List (RowE [.sl [.int .i64, .str, .str, .str]])) (f : List (RowE ptS)) (name : List UInt8) (sil : Bool) : evF T (Ep (Eq_RightTable)) (Ln (Lq_Right)) Try.f9 [.agg (rowD opS ((4 : Int), tr, vs, rows, f, name, sil, ()))] =
    br (decide ((↑f.length : Int) > (0 : Int))) (chk (allPt f) (br ((↑vs.length : Int) == (0 : Int)) (br ((↑tr.length : Int) == (0 : Int)) (br ((↑rows.length : Int) == (0 : Int)) (br (!decide ((↑f.length : Int) > (0 : Int))) (br (name == []) (some (SV.val (AV.d (D.bool !sil)))) (some (SV.val (AV.d (D.bool false))))) (some (SV.val (AV.d (D.bool false))))) (some (SV.val (AV.d (D.bool false))))) (some (SV.val (AV.d (D.bool false))))) (br ((↑tr.length : Int) == (0 : Int)) (some (SV.val (AV.d (D.bool false)))) (some (SV.val (AV.d (D.bool false))))))) (br ((↑vs.length : Int) == (0 : Int)) (br ((↑tr.length : Int) == (0 : Int)) (br ((↑rows.length : Int) == (0 : Int)) (br (!decide ((↑f.length : Int) > (0 : Int))) (br (name == []) (some (SV.val (AV.d (D.bool !sil)))) (some (SV.val (AV.d (D.bool false))))) (some (SV.val (AV.d (D.bool false))))) (some (SV.val (AV.d (D.bool false))))) (some (SV.val (AV.d (D.bool false))))) (br ((↑tr.length : Int) == (0 : Int)) (some (SV.val (AV.d (D.bool false)))) (some (SV.val (AV.d (D.bool false)))))) := by kernel_rfl
theorem tq_Right_c5 (tr : List (RowE t9S)) (vs : List (RowE [.str])) (rows : List (RowE [.sl [.int .i64, .str, .str, .str]])) (f : List (RowE ptS)) (name : List UInt8) (sil : Bool) : evF T (Ep (Eq_RightTable)) (Ln (Lq_Right)) Try.f9 [.agg (rowD opS ((5 : Int), tr, vs, rows, f, name, sil, ()))] =
    br (decide ((↑f.length : Int) > (0 : Int))) (chk (allPt f) (br ((↑vs.length : Int) == (0 : Int)) (br ((↑tr.length : Int) == (0 : Int)) (br ((↑rows.length : Int) == (0 : Int)) (br (!decide ((↑f.length : Int) > (0 : Int))) (br (name == []) (some (SV.val (AV.d (D.bool !sil)))) (some (SV.val (AV.d (D.bool false))))) (br (checkS f == (0 : Int)) (br (name == []) (some (SV.val (AV.d (D.bool !sil)))) (some (SV.val (AV.d (D.bool false))))) (some (SV.val (AV.d (D.bool false)))))) (some (SV.val (AV.d (D.bool false))))) (some (SV.val (AV.d (D.bool false))))) (br ((↑tr.length : Int) == (0 : Int)) (some (SV.val (AV.d (D.bool false)))) (some (SV.val (AV.d (D.bool false))))))) (br ((↑vs.length : Int) == (0 : Int)) (br ((↑tr.length : Int) == (0 : Int)) (br ((↑rows.length : Int) == (0 : Int)) (br (!decide ((↑f.length : Int) > (0 : Int))) (br (name == []) (some (SV.val (AV.d (D.bool !sil)))) (some (SV.val (AV.d (D.bool false))))) (some (SV.val (AV.d (D.bool false))))) (some (SV.val (AV.d (D.bool false))))) (some (SV.val (AV.d (D.bool false))))) (br ((↑tr.length : Int) == (0 : Int)) (some (SV.val (AV.d (D.bool false)))) (some (SV.val (AV.d (D.bool false)))))) := by kernel_rfl
theorem tq_Right_c6 (tr : List (RowE t9S)) (vs : List (RowE [.str])) (rows : List (RowE [.sl [.int .i64, .str, .str, .str]])) (f : List (RowE ptS)) (name : List UInt8) (sil : Bool) : evF T (Ep (Eq_RightTable)) (Ln (Lq_Right)) Try.f9 [.agg (rowD opS ((6 : Int), tr, vs, rows, f, name, sil, ()))] =
    br (decide ((↑f.length : Int) > (0 : Int))) (chk (allPt f) (br ((↑vs.length : Int) == (0 : Int)) (br ((↑tr.length : Int) == (0 : Int)) (br ((↑rows.length : Int) == (0 : Int)) (br (!decide ((↑f.length : Int) > (0 : Int))) (br (name == []) (some (SV.val (AV.d (D.bool !sil)))) (some (SV.val (AV.d (D.bool false))))) (some (SV.val (AV.d (D.bool false))))) (some (SV.val (AV.d (D.bool false))))) (some (SV.val (AV.d (D.bool false))))) (br ((↑tr.length : Int) == (0 : Int)) (some (SV.val (AV.d (D.bool false)))) (some (SV.val (AV.d (D.bool false))))))) (br ((↑vs.length : Int) == (0 : Int)) (br ((↑tr.length : Int) == (0 : Int)) (br ((↑rows.length : Int) == (0 : Int)) (br (!decide ((↑f.length : Int) > (0 : Int))) (br (name == []) (some (SV.val (AV.d (D.bool !sil)))) (some (SV.val (AV.d (D.bool false))))) (some (SV.val (AV.d (D.bool false))))) (some (SV.val (AV.d (D.bool false))))) (some (SV.val (AV.d (D.bool false))))) (br ((↑tr.length : Int) == (0 : Int)) (some (SV.val (AV.d (D.bool false)))) (some (SV.val (AV.d (D.bool false)))))) := by kernel_rfl
theorem tq_Right_c7 (tr : List (RowE t9S)) (vs : List (RowE [.str])) (rows : List (RowE [.sl [.int .i64, .str, .str, .str]])) (f : List (RowE ptS)) (name : List UInt8) (sil : Bool) : evF T (Ep (Eq_RightTable)) (Ln (Lq_Right)) Try.f9 [.agg (rowD opS ((7 : Int), tr, vs, rows, f, name, sil, ()))] =
    br (decide ((↑f.length : Int) > (0 : Int))) (chk (allPt f) (br ((↑vs.length : Int) == (0 : Int)) (br ((↑tr.length : Int) == (0 : Int)) (br ((↑rows.length : Int) == (0 : Int)) (br (checkS f == (0 : Int)) (br (name == []) (some (SV.val (AV.d (D.bool !sil)))) (some (SV.val (AV.d (D.bool false))))) (some (SV.val (AV.d (D.bool false))))) (some (SV.val (AV.d (D.bool false))))) (some (SV.val (AV.d (D.bool false))))) (br ((↑tr.length : Int) == (0 : Int)) (some (SV.val (AV.d (D.bool false)))) (some (SV.val (AV.d (D.bool false))))))) (br ((↑vs.length : Int) == (0 : Int)) (br ((↑tr.length : Int) == (0 : Int)) (br ((↑rows.length : Int) == (0 : Int)) (some (SV.val (AV.d (D.bool false)))) (some (SV.val (AV.d (D.bool false))))) (some (SV.val (AV.d (D.bool false))))) (br ((↑tr.length : Int) == (0 : Int)) (some (SV.val (AV.d (D.bool false)))) (some (SV.val (AV.d (D.bool false)))))) := by kernel_rfl
theorem tq_Right_c8 (tr : List (RowE t9S)) (vs : List (RowE [.str])) (rows : List (RowE [.sl [.int .i64, .str, .str, .str]])) (f : List (RowE ptS)) (name : List UInt8) (sil : Bool) : evF T (Ep (Eq_RightTable)) (Ln (Lq_Right)) Try.f9 [.agg (rowD opS ((8 : Int), tr, vs, rows, f, name, sil, ()))] =
    br (decide ((↑f.length : Int) > (0 : Int))) (chk (allPt f) (br ((↑vs.length : Int) == (0 : Int)) (br ((↑tr.length : Int) == (0 : Int)) (br ((↑rows.length : Int) == (0 : Int)) (br (checkS f == (0 : Int)) (chk (name.length ≤ Big) (br (isName name) (some (SV.val (AV.d (D.bool !sil)))) (some (SV.val (AV.d (D.bool false)))))) (some (SV.val (AV.d (D.bool false))))) (some (SV.val (AV.d (D.bool false))))) (some (SV.val (AV.d (D.bool false))))) (br ((↑tr.length : Int) == (0 : Int)) (some (SV.val (AV.d (D.bool false)))) (some (SV.val (AV.d (D.bool false))))))) (br ((↑vs.length : Int) == (0 : Int)) (br ((↑tr.length : Int) == (0 : Int)) (br ((↑rows.length : Int) == (0 : Int)) (some (SV.val (AV.d (D.bool false)))) (some (SV.val (AV.d (D.bool false))))) (some (SV.val (AV.d (D.bool false))))) (br ((↑tr.length : Int) == (0 : Int)) (some (SV.val (AV.d (D.bool false)))) (some (SV.val (AV.d (D.bool false)))))) := by kernel_rfl
theorem tq_Right_c9 (tr : List (RowE t9S)) (vs : List (RowE [.str])) (rows : List (RowE [.sl [.int .i64, .str, .str, .str]])) (f : List (RowE ptS)) (name : List UInt8) (sil : Bool) : evF T (Ep (Eq_RightTable)) (Ln (Lq_Right)) Try.f9 [.agg (rowD opS ((9 : Int), tr, vs, rows, f, name, sil, ()))] =
    br (decide ((↑f.length : Int) > (0 : Int))) (chk (allPt f) (br ((↑vs.length : Int) == (0 : Int)) (br ((↑tr.length : Int) == (0 : Int)) (br ((↑rows.length : Int) == (0 : Int)) (br (!decide ((↑f.length : Int) > (0 : Int))) (chk (name.length ≤ Big) (some (SV.val (AV.d (D.bool (isIri name)))))) (some (SV.val (AV.d (D.bool false))))) (some (SV.val (AV.d (D.bool false))))) (some (SV.val (AV.d (D.bool false))))) (br ((↑tr.length : Int) == (0 : Int)) (some (SV.val (AV.d (D.bool false)))) (some (SV.val (AV.d (D.bool false))))))) (br ((↑vs.length : Int) == (0 : Int)) (br ((↑tr.length : Int) == (0 : Int)) (br ((↑rows.length : Int) == (0 : Int)) (br (!decide ((↑f.length : Int) > (0 : Int))) (chk (name.length ≤ Big) (some (SV.val (AV.d (D.bool (isIri name)))))) (some (SV.val (AV.d (D.bool false))))) (some (SV.val (AV.d (D.bool false))))) (some (SV.val (AV.d (D.bool false))))) (br ((↑tr.length : Int) == (0 : Int)) (some (SV.val (AV.d (D.bool false)))) (some (SV.val (AV.d (D.bool false)))))) := by kernel_rfl
theorem tq_Right_c10 (m : Nat) (tr : List (RowE t9S)) (vs : List (RowE [.str])) (rows : List (RowE [.sl [.int .i64, .str, .str, .str]])) (f : List (RowE ptS)) (name : List UInt8) (sil : Bool) : evF T (Ep (Eq_RightTable)) (Ln (Lq_Right)) Try.f9 [.agg (rowD opS (Int.ofNat (m + 10), tr, vs, rows, f, name, sil, ()))] =
    br (decide ((↑f.length : Int) > (0 : Int))) (chk (allPt f) (br ((↑vs.length : Int) == (0 : Int)) (some (SV.val (AV.d (D.bool false)))) (some (SV.val (AV.d (D.bool false)))))) (br ((↑vs.length : Int) == (0 : Int)) (some (SV.val (AV.d (D.bool false)))) (some (SV.val (AV.d (D.bool false))))) := by kernel_rfl
theorem tq_Right_c11 (m : Nat) (tr : List (RowE t9S)) (vs : List (RowE [.str])) (rows : List (RowE [.sl [.int .i64, .str, .str, .str]])) (f : List (RowE ptS)) (name : List UInt8) (sil : Bool) : evF T (Ep (Eq_RightTable)) (Ln (Lq_Right)) Try.f9 [.agg (rowD opS (Int.negSucc m, tr, vs, rows, f, name, sil, ()))] =
    br (decide ((↑f.length : Int) > (0 : Int))) (chk (allPt f) (br ((↑vs.length : Int) == (0 : Int)) (some (SV.val (AV.d (D.bool false)))) (some (SV.val (AV.d (D.bool false)))))) (br ((↑vs.length : Int) == (0 : Int)) (some (SV.val (AV.d (D.bool false)))) (some (SV.val (AV.d (D.bool false))))) := by kernel_rfl
theorem pq_Right_c0 (tr : List (RowE t9S)) (vs : List (RowE [.str])) (rows : List (RowE [.sl [.int .i64, .str, .str, .str]])) (f : List (RowE ptS)) (name : List UInt8) (sil : Bool) (hs : szO ((0 : Int), tr, vs, rows, f, name, sil, ())) : evF T (Ep (Eq_RightTable)) (Ln (Lq_Right)) Try.f9 [.agg (rowD opS ((0 : Int), tr, vs, rows, f, name, sil, ()))] = some (.val (.d (.bool (rightO ((0 : Int), tr, vs, rows, f, name, sil, ()))))) := by
  obtain ⟨q1, q2, q3, ⟨q4, q5⟩, q6⟩ := id hs
  have q6 : name.length ≤ 140737488355328 := q6
  have e1 : ((tr.length : Int) == 0) = decide (tr.length = 0) := by by_cases z : tr.length = 0 <;> simp [z]
  have e2 : ((vs.length : Int) == 0) = decide (vs.length = 0) := by by_cases z : vs.length = 0 <;> simp [z]
  have e2r : ((rows.length : Int) == 0) = decide (rows.length = 0) := by by_cases z : rows.length = 0 <;> simp [z]
  have e3 : (name == []) = decide (name = []) := by cases name <;> simp
  have e4 : decide ((f.length : Int) > 0) = !decide (f.length = 0) := by by_cases z : f.length = 0 <;> simp [z] <;> omega
  have e5 : (checkS f == 0) = decide (checkS f = 0) := by by_cases z : checkS f = 0 <;> simp [z]
  have hne : decide (checkS f = 0) = true → decide (f.length = 0) = false := fun e => by
    cases f with
    | nil => exact absurd e (by decide)
    | cons _ _ => simp
  have hB : name.length ≤ Big := Nat.le_trans q6 (by decide)
  have hL : ∀ b c : Bool, b = c → Leads (some (SV.val (.d (.bool b))) : Option SV) fun z => z = SV.val (.d (.bool c)) := fun b c e => by rw [e]; exact Leads.one rfl
  refine Leads.eq (Leads.of_eq (tq_Right_c0 tr vs rows f name sil) ?_)
  have er : rightO ((0 : Int), tr, vs, rows, f, name, sil, ()) = (false) := by kernel_rfl
  rw [er]
  simp only [e1, e2, e2r, e3, e4, e5]
  generalize decide (tr.length = 0) = b0 at *
  generalize decide (vs.length = 0) = b1 at *
  generalize decide (rows.length = 0) = b2 at *
  generalize decide (name = []) = b3 at *
  generalize decide (f.length = 0) = b4 at *
  generalize decide (checkS f = 0) = b5 at *
  generalize basicS tr = c0 at *
  generalize tableS vs rows = c1 at *
  generalize isName name = c2 at *
  generalize isIri name = c3 at *
  have T1 : ∀ {X : Option SV} {Y : SV → Prop}, Leads X Y → Leads (chk (sz3L tr) X) Y := fun w => Leads.chk q1 fun _ => w
  have T2 : ∀ {X : Option SV} {Y : SV → Prop}, Leads X Y → Leads (chk (szV vs ∧ szR rows) X) Y := fun w => Leads.chk ⟨q2, q3⟩ fun _ => w
  have T3 : ∀ {X : Option SV} {Y : SV → Prop}, Leads X Y → Leads (chk (allPt f) X) Y := fun w => Leads.chk q5 fun _ => w
  have T4 : ∀ {X : Option SV} {Y : SV → Prop}, Leads X Y → Leads (chk (name.length ≤ Big) X) Y := fun w => Leads.chk hB fun _ => w
  clear hs q1 q2 q3 q4 q5 q6 e1 e2 e2r e3 e4 e5 er
  revert hne
  cases b1 <;> cases b4 <;> intro hne <;> first | (cases (hne rfl); done) | (repeat' (first | exact hL _ _ rfl | refine T1 ?_ | refine T2 ?_ | refine T3 ?_ | refine T4 ?_))
theorem pq_Right_c1 (tr : List (RowE t9S)) (vs : List (RowE [.str])) (rows : List (RowE [.sl [.int .i64, .str, .str, .str]])) (f : List (RowE ptS)) (name : List UInt8) (sil : Bool) (hs : szO ((1 : Int), tr, vs, rows, f, name, sil, ())) : evF T (Ep (Eq_RightTable)) (Ln (Lq_Right)) Try.f9 [.agg (rowD opS ((1 : Int), tr, vs, rows, f, name, sil, ()))] = some (.val (.d (.bool (rightO ((1 : Int), tr, vs, rows, f, name, sil, ()))))) := by
  obtain ⟨q1, q2, q3, ⟨q4, q5⟩, q6⟩ := id hs
  have q6 : name.length ≤ 140737488355328 := q6
  have e1 : ((tr.length : Int) == 0) = decide (tr.length = 0) := by by_cases z : tr.length = 0 <;> simp [z]
  have e2 : ((vs.length : Int) == 0) = decide (vs.length = 0) := by by_cases z : vs.length = 0 <;> simp [z]
  have e2r : ((rows.length : Int) == 0) = decide (rows.length = 0) := by by_cases z : rows.length = 0 <;> simp [z]
  have e3 : (name == []) = decide (name = []) := by cases name <;> simp
  have e4 : decide ((f.length : Int) > 0) = !decide (f.length = 0) := by by_cases z : f.length = 0 <;> simp [z] <;> omega
  have e5 : (checkS f == 0) = decide (checkS f = 0) := by by_cases z : checkS f = 0 <;> simp [z]
  have hne : decide (checkS f = 0) = true → decide (f.length = 0) = false := fun e => by
    cases f with
    | nil => exact absurd e (by decide)
    | cons _ _ => simp
  have hB : name.length ≤ Big := Nat.le_trans q6 (by decide)
  have hL : ∀ b c : Bool, b = c → Leads (some (SV.val (.d (.bool b))) : Option SV) fun z => z = SV.val (.d (.bool c)) := fun b c e => by rw [e]; exact Leads.one rfl
  refine Leads.eq (Leads.of_eq (tq_Right_c1 tr vs rows f name sil) ?_)
  have er : rightO ((1 : Int), tr, vs, rows, f, name, sil, ()) = (decide (vs.length = 0) && decide (rows.length = 0) && decide (f.length = 0) && (decide (name = []) && !sil) && basicS tr) := by kernel_rfl
  rw [er]
  simp only [e1, e2, e2r, e3, e4, e5]
  generalize decide (tr.length = 0) = b0 at *
  generalize decide (vs.length = 0) = b1 at *
  generalize decide (rows.length = 0) = b2 at *
  generalize decide (name = []) = b3 at *
  generalize decide (f.length = 0) = b4 at *
  generalize decide (checkS f = 0) = b5 at *
  generalize basicS tr = c0 at *
  generalize tableS vs rows = c1 at *
  generalize isName name = c2 at *
  generalize isIri name = c3 at *
  have T1 : ∀ {X : Option SV} {Y : SV → Prop}, Leads X Y → Leads (chk (sz3L tr) X) Y := fun w => Leads.chk q1 fun _ => w
  have T2 : ∀ {X : Option SV} {Y : SV → Prop}, Leads X Y → Leads (chk (szV vs ∧ szR rows) X) Y := fun w => Leads.chk ⟨q2, q3⟩ fun _ => w
  have T3 : ∀ {X : Option SV} {Y : SV → Prop}, Leads X Y → Leads (chk (allPt f) X) Y := fun w => Leads.chk q5 fun _ => w
  have T4 : ∀ {X : Option SV} {Y : SV → Prop}, Leads X Y → Leads (chk (name.length ≤ Big) X) Y := fun w => Leads.chk hB fun _ => w
  clear hs q1 q2 q3 q4 q5 q6 e1 e2 e2r e3 e4 e5 er
  revert hne
  cases b1 <;> cases b2 <;> cases b3 <;> cases b4 <;> cases sil <;> cases c0 <;> intro hne <;> first | (cases (hne rfl); done) | (repeat' (first | exact hL _ _ rfl | refine T1 ?_ | refine T2 ?_ | refine T3 ?_ | refine T4 ?_))
theorem pq_Right_c2 (tr : List (RowE t9S)) (vs : List (RowE [.str])) (rows : List (RowE [.sl [.int .i64, .str, .str, .str]])) (f : List (RowE ptS)) (name : List UInt8) (sil : Bool) (hs : szO ((2 : Int), tr, vs, rows, f, name, sil, ())) : evF T (Ep (Eq_RightTable)) (Ln (Lq_Right)) Try.f9 [.agg (rowD opS ((2 : Int), tr, vs, rows, f, name, sil, ()))] = some (.val (.d (.bool (rightO ((2 : Int), tr, vs, rows, f, name, sil, ()))))) := by
  obtain ⟨q1, q2, q3, ⟨q4, q5⟩, q6⟩ := id hs
  have q6 : name.length ≤ 140737488355328 := q6
  have e1 : ((tr.length : Int) == 0) = decide (tr.length = 0) := by by_cases z : tr.length = 0 <;> simp [z]
  have e2 : ((vs.length : Int) == 0) = decide (vs.length = 0) := by by_cases z : vs.length = 0 <;> simp [z]
  have e2r : ((rows.length : Int) == 0) = decide (rows.length = 0) := by by_cases z : rows.length = 0 <;> simp [z]
  have e3 : (name == []) = decide (name = []) := by cases name <;> simp
  have e4 : decide ((f.length : Int) > 0) = !decide (f.length = 0) := by by_cases z : f.length = 0 <;> simp [z] <;> omega
  have e5 : (checkS f == 0) = decide (checkS f = 0) := by by_cases z : checkS f = 0 <;> simp [z]
  have hne : decide (checkS f = 0) = true → decide (f.length = 0) = false := fun e => by
    cases f with
    | nil => exact absurd e (by decide)
    | cons _ _ => simp
  have hB : name.length ≤ Big := Nat.le_trans q6 (by decide)
  have hL : ∀ b c : Bool, b = c → Leads (some (SV.val (.d (.bool b))) : Option SV) fun z => z = SV.val (.d (.bool c)) := fun b c e => by rw [e]; exact Leads.one rfl
  refine Leads.eq (Leads.of_eq (tq_Right_c2 tr vs rows f name sil) ?_)
  have er : rightO ((2 : Int), tr, vs, rows, f, name, sil, ()) = (decide (tr.length = 0) && decide (f.length = 0) && (decide (name = []) && !sil) && tableS vs rows) := by kernel_rfl
  rw [er]
  simp only [e1, e2, e2r, e3, e4, e5]
  generalize decide (tr.length = 0) = b0 at *
  generalize decide (vs.length = 0) = b1 at *
  generalize decide (rows.length = 0) = b2 at *
  generalize decide (name = []) = b3 at *
  generalize decide (f.length = 0) = b4 at *
  generalize decide (checkS f = 0) = b5 at *
  generalize basicS tr = c0 at *
  generalize tableS vs rows = c1 at *
  generalize isName name = c2 at *
  generalize isIri name = c3 at *
  have T1 : ∀ {X : Option SV} {Y : SV → Prop}, Leads X Y → Leads (chk (sz3L tr) X) Y := fun w => Leads.chk q1 fun _ => w
  have T2 : ∀ {X : Option SV} {Y : SV → Prop}, Leads X Y → Leads (chk (szV vs ∧ szR rows) X) Y := fun w => Leads.chk ⟨q2, q3⟩ fun _ => w
  have T3 : ∀ {X : Option SV} {Y : SV → Prop}, Leads X Y → Leads (chk (allPt f) X) Y := fun w => Leads.chk q5 fun _ => w
  have T4 : ∀ {X : Option SV} {Y : SV → Prop}, Leads X Y → Leads (chk (name.length ≤ Big) X) Y := fun w => Leads.chk hB fun _ => w
  clear hs q1 q2 q3 q4 q5 q6 e1 e2 e2r e3 e4 e5 er
  revert hne
  cases b0 <;> cases b1 <;> cases b3 <;> cases b4 <;> cases sil <;> cases c1 <;> intro hne <;> first | (cases (hne rfl); done) | (repeat' (first | exact hL _ _ rfl | refine T1 ?_ | refine T2 ?_ | refine T3 ?_ | refine T4 ?_))
theorem pq_Right_c3 (tr : List (RowE t9S)) (vs : List (RowE [.str])) (rows : List (RowE [.sl [.int .i64, .str, .str, .str]])) (f : List (RowE ptS)) (name : List UInt8) (sil : Bool) (hs : szO ((3 : Int), tr, vs, rows, f, name, sil, ())) : evF T (Ep (Eq_RightTable)) (Ln (Lq_Right)) Try.f9 [.agg (rowD opS ((3 : Int), tr, vs, rows, f, name, sil, ()))] = some (.val (.d (.bool (rightO ((3 : Int), tr, vs, rows, f, name, sil, ()))))) := by
  obtain ⟨q1, q2, q3, ⟨q4, q5⟩, q6⟩ := id hs
  have q6 : name.length ≤ 140737488355328 := q6
  have e1 : ((tr.length : Int) == 0) = decide (tr.length = 0) := by by_cases z : tr.length = 0 <;> simp [z]
  have e2 : ((vs.length : Int) == 0) = decide (vs.length = 0) := by by_cases z : vs.length = 0 <;> simp [z]
  have e2r : ((rows.length : Int) == 0) = decide (rows.length = 0) := by by_cases z : rows.length = 0 <;> simp [z]
  have e3 : (name == []) = decide (name = []) := by cases name <;> simp
  have e4 : decide ((f.length : Int) > 0) = !decide (f.length = 0) := by by_cases z : f.length = 0 <;> simp [z] <;> omega
  have e5 : (checkS f == 0) = decide (checkS f = 0) := by by_cases z : checkS f = 0 <;> simp [z]
  have hne : decide (checkS f = 0) = true → decide (f.length = 0) = false := fun e => by
    cases f with
    | nil => exact absurd e (by decide)
    | cons _ _ => simp
  have hB : name.length ≤ Big := Nat.le_trans q6 (by decide)
  have hL : ∀ b c : Bool, b = c → Leads (some (SV.val (.d (.bool b))) : Option SV) fun z => z = SV.val (.d (.bool c)) := fun b c e => by rw [e]; exact Leads.one rfl
  refine Leads.eq (Leads.of_eq (tq_Right_c3 tr vs rows f name sil) ?_)
  have er : rightO ((3 : Int), tr, vs, rows, f, name, sil, ()) = (decide (tr.length = 0) && (decide (vs.length = 0) && decide (rows.length = 0)) && decide (f.length = 0) && (decide (name = []) && !sil)) := by kernel_rfl
  rw [er]
  simp only [e1, e2, e2r, e3, e4, e5]
  generalize decide (tr.length = 0) = b0 at *
  generalize decide (vs.length = 0) = b1 at *
  generalize decide (rows.length = 0) = b2 at *
  generalize decide (name = []) = b3 at *
  generalize decide (f.length = 0) = b4 at *
  generalize decide (checkS f = 0) = b5 at *
  generalize basicS tr = c0 at *
  generalize tableS vs rows = c1 at *
  generalize isName name = c2 at *
  generalize isIri name = c3 at *
  have T1 : ∀ {X : Option SV} {Y : SV → Prop}, Leads X Y → Leads (chk (sz3L tr) X) Y := fun w => Leads.chk q1 fun _ => w
  have T2 : ∀ {X : Option SV} {Y : SV → Prop}, Leads X Y → Leads (chk (szV vs ∧ szR rows) X) Y := fun w => Leads.chk ⟨q2, q3⟩ fun _ => w
  have T3 : ∀ {X : Option SV} {Y : SV → Prop}, Leads X Y → Leads (chk (allPt f) X) Y := fun w => Leads.chk q5 fun _ => w
  have T4 : ∀ {X : Option SV} {Y : SV → Prop}, Leads X Y → Leads (chk (name.length ≤ Big) X) Y := fun w => Leads.chk hB fun _ => w
  clear hs q1 q2 q3 q4 q5 q6 e1 e2 e2r e3 e4 e5 er
  revert hne
  cases b0 <;> cases b1 <;> cases b2 <;> cases b3 <;> cases b4 <;> cases sil <;> intro hne <;> first | (cases (hne rfl); done) | (repeat' (first | exact hL _ _ rfl | refine T1 ?_ | refine T2 ?_ | refine T3 ?_ | refine T4 ?_))
theorem pq_Right_c4 (tr : List (RowE t9S)) (vs : List (RowE [.str])) (rows : List (RowE [.sl [.int .i64, .str, .str, .str]])) (f : List (RowE ptS)) (name : List UInt8) (sil : Bool) (hs : szO ((4 : Int), tr, vs, rows, f, name, sil, ())) : evF T (Ep (Eq_RightTable)) (Ln (Lq_Right)) Try.f9 [.agg (rowD opS ((4 : Int), tr, vs, rows, f, name, sil, ()))] = some (.val (.d (.bool (rightO ((4 : Int), tr, vs, rows, f, name, sil, ()))))) := by
  obtain ⟨q1, q2, q3, ⟨q4, q5⟩, q6⟩ := id hs
  have q6 : name.length ≤ 140737488355328 := q6
  have e1 : ((tr.length : Int) == 0) = decide (tr.length = 0) := by by_cases z : tr.length = 0 <;> simp [z]
  have e2 : ((vs.length : Int) == 0) = decide (vs.length = 0) := by by_cases z : vs.length = 0 <;> simp [z]
  have e2r : ((rows.length : Int) == 0) = decide (rows.length = 0) := by by_cases z : rows.length = 0 <;> simp [z]
  have e3 : (name == []) = decide (name = []) := by cases name <;> simp
  have e4 : decide ((f.length : Int) > 0) = !decide (f.length = 0) := by by_cases z : f.length = 0 <;> simp [z] <;> omega
  have e5 : (checkS f == 0) = decide (checkS f = 0) := by by_cases z : checkS f = 0 <;> simp [z]
  have hne : decide (checkS f = 0) = true → decide (f.length = 0) = false := fun e => by
    cases f with
    | nil => exact absurd e (by decide)
    | cons _ _ => simp
  have hB : name.length ≤ Big := Nat.le_trans q6 (by decide)
  have hL : ∀ b c : Bool, b = c → Leads (some (SV.val (.d (.bool b))) : Option SV) fun z => z = SV.val (.d (.bool c)) := fun b c e => by rw [e]; exact Leads.one rfl
  refine Leads.eq (Leads.of_eq (tq_Right_c4 tr vs rows f name sil) ?_)
  have er : rightO ((4 : Int), tr, vs, rows, f, name, sil, ()) = (decide (tr.length = 0) && (decide (vs.length = 0) && decide (rows.length = 0)) && decide (f.length = 0) && (decide (name = []) && !sil)) := by kernel_rfl
  rw [er]
  simp only [e1, e2, e2r, e3, e4, e5]
  generalize decide (tr.length = 0) = b0 at *
  generalize decide (vs.length = 0) = b1 at *
  generalize decide (rows.length = 0) = b2 at *
  generalize decide (name = []) = b3 at *
  generalize decide (f.length = 0) = b4 at *
  generalize decide (checkS f = 0) = b5 at *
  generalize basicS tr = c0 at *
  generalize tableS vs rows = c1 at *
  generalize isName name = c2 at *
  generalize isIri name = c3 at *
  have T1 : ∀ {X : Option SV} {Y : SV → Prop}, Leads X Y → Leads (chk (sz3L tr) X) Y := fun w => Leads.chk q1 fun _ => w
  have T2 : ∀ {X : Option SV} {Y : SV → Prop}, Leads X Y → Leads (chk (szV vs ∧ szR rows) X) Y := fun w => Leads.chk ⟨q2, q3⟩ fun _ => w
  have T3 : ∀ {X : Option SV} {Y : SV → Prop}, Leads X Y → Leads (chk (allPt f) X) Y := fun w => Leads.chk q5 fun _ => w
  have T4 : ∀ {X : Option SV} {Y : SV → Prop}, Leads X Y → Leads (chk (name.length ≤ Big) X) Y := fun w => Leads.chk hB fun _ => w
  clear hs q1 q2 q3 q4 q5 q6 e1 e2 e2r e3 e4 e5 er
  revert hne
  cases b0 <;> cases b1 <;> cases b2 <;> cases b3 <;> cases b4 <;> cases sil <;> intro hne <;> first | (cases (hne rfl); done) | (repeat' (first | exact hL _ _ rfl | refine T1 ?_ | refine T2 ?_ | refine T3 ?_ | refine T4 ?_))
theorem pq_Right_c5 (tr : List (RowE t9S)) (vs : List (RowE [.str])) (rows : List (RowE [.sl [.int .i64, .str, .str, .str]])) (f : List (RowE ptS)) (name : List UInt8) (sil : Bool) (hs : szO ((5 : Int), tr, vs, rows, f, name, sil, ())) : evF T (Ep (Eq_RightTable)) (Ln (Lq_Right)) Try.f9 [.agg (rowD opS ((5 : Int), tr, vs, rows, f, name, sil, ()))] = some (.val (.d (.bool (rightO ((5 : Int), tr, vs, rows, f, name, sil, ()))))) := by
  obtain ⟨q1, q2, q3, ⟨q4, q5⟩, q6⟩ := id hs
  have q6 : name.length ≤ 140737488355328 := q6
  have e1 : ((tr.length : Int) == 0) = decide (tr.length = 0) := by by_cases z : tr.length = 0 <;> simp [z]
  have e2 : ((vs.length : Int) == 0) = decide (vs.length = 0) := by by_cases z : vs.length = 0 <;> simp [z]
  have e2r : ((rows.length : Int) == 0) = decide (rows.length = 0) := by by_cases z : rows.length = 0 <;> simp [z]
  have e3 : (name == []) = decide (name = []) := by cases name <;> simp
  have e4 : decide ((f.length : Int) > 0) = !decide (f.length = 0) := by by_cases z : f.length = 0 <;> simp [z] <;> omega
  have e5 : (checkS f == 0) = decide (checkS f = 0) := by by_cases z : checkS f = 0 <;> simp [z]
  have hne : decide (checkS f = 0) = true → decide (f.length = 0) = false := fun e => by
    cases f with
    | nil => exact absurd e (by decide)
    | cons _ _ => simp
  have hB : name.length ≤ Big := Nat.le_trans q6 (by decide)
  have hL : ∀ b c : Bool, b = c → Leads (some (SV.val (.d (.bool b))) : Option SV) fun z => z = SV.val (.d (.bool c)) := fun b c e => by rw [e]; exact Leads.one rfl
  refine Leads.eq (Leads.of_eq (tq_Right_c5 tr vs rows f name sil) ?_)
  have er : rightO ((5 : Int), tr, vs, rows, f, name, sil, ()) = (decide (tr.length = 0) && (decide (vs.length = 0) && decide (rows.length = 0)) && (decide (f.length = 0) || decide (checkS f = 0)) && (decide (name = []) && !sil)) := by kernel_rfl
  rw [er]
  simp only [e1, e2, e2r, e3, e4, e5]
  generalize decide (tr.length = 0) = b0 at *
  generalize decide (vs.length = 0) = b1 at *
  generalize decide (rows.length = 0) = b2 at *
  generalize decide (name = []) = b3 at *
  generalize decide (f.length = 0) = b4 at *
  generalize decide (checkS f = 0) = b5 at *
  generalize basicS tr = c0 at *
  generalize tableS vs rows = c1 at *
  generalize isName name = c2 at *
  generalize isIri name = c3 at *
  have T1 : ∀ {X : Option SV} {Y : SV → Prop}, Leads X Y → Leads (chk (sz3L tr) X) Y := fun w => Leads.chk q1 fun _ => w
  have T2 : ∀ {X : Option SV} {Y : SV → Prop}, Leads X Y → Leads (chk (szV vs ∧ szR rows) X) Y := fun w => Leads.chk ⟨q2, q3⟩ fun _ => w
  have T3 : ∀ {X : Option SV} {Y : SV → Prop}, Leads X Y → Leads (chk (allPt f) X) Y := fun w => Leads.chk q5 fun _ => w
  have T4 : ∀ {X : Option SV} {Y : SV → Prop}, Leads X Y → Leads (chk (name.length ≤ Big) X) Y := fun w => Leads.chk hB fun _ => w
  clear hs q1 q2 q3 q4 q5 q6 e1 e2 e2r e3 e4 e5 er
  revert hne
  cases b0 <;> cases b1 <;> cases b2 <;> cases b3 <;> cases b4 <;> cases b5 <;> cases sil <;> intro hne <;> first | (cases (hne rfl); done) | (repeat' (first | exact hL _ _ rfl | refine T1 ?_ | refine T2 ?_ | refine T3 ?_ | refine T4 ?_))
theorem pq_Right_c6 (tr : List (RowE t9S)) (vs : List (RowE [.str])) (rows : List (RowE [.sl [.int .i64, .str, .str, .str]])) (f : List (RowE ptS)) (name : List UInt8) (sil : Bool) (hs : szO ((6 : Int), tr, vs, rows, f, name, sil, ())) : evF T (Ep (Eq_RightTable)) (Ln (Lq_Right)) Try.f9 [.agg (rowD opS ((6 : Int), tr, vs, rows, f, name, sil, ()))] = some (.val (.d (.bool (rightO ((6 : Int), tr, vs, rows, f, name, sil, ()))))) := by
  obtain ⟨q1, q2, q3, ⟨q4, q5⟩, q6⟩ := id hs
  have q6 : name.length ≤ 140737488355328 := q6
  have e1 : ((tr.length : Int) == 0) = decide (tr.length = 0) := by by_cases z : tr.length = 0 <;> simp [z]
  have e2 : ((vs.length : Int) == 0) = decide (vs.length = 0) := by by_cases z : vs.length = 0 <;> simp [z]
  have e2r : ((rows.length : Int) == 0) = decide (rows.length = 0) := by by_cases z : rows.length = 0 <;> simp [z]
  have e3 : (name == []) = decide (name = []) := by cases name <;> simp
  have e4 : decide ((f.length : Int) > 0) = !decide (f.length = 0) := by by_cases z : f.length = 0 <;> simp [z] <;> omega
  have e5 : (checkS f == 0) = decide (checkS f = 0) := by by_cases z : checkS f = 0 <;> simp [z]
  have hne : decide (checkS f = 0) = true → decide (f.length = 0) = false := fun e => by
    cases f with
    | nil => exact absurd e (by decide)
    | cons _ _ => simp
  have hB : name.length ≤ Big := Nat.le_trans q6 (by decide)
  have hL : ∀ b c : Bool, b = c → Leads (some (SV.val (.d (.bool b))) : Option SV) fun z => z = SV.val (.d (.bool c)) := fun b c e => by rw [e]; exact Leads.one rfl
  refine Leads.eq (Leads.of_eq (tq_Right_c6 tr vs rows f name sil) ?_)
  have er : rightO ((6 : Int), tr, vs, rows, f, name, sil, ()) = (decide (tr.length = 0) && (decide (vs.length = 0) && decide (rows.length = 0)) && decide (f.length = 0) && (decide (name = []) && !sil)) := by kernel_rfl
  rw [er]
  simp only [e1, e2, e2r, e3, e4, e5]
  generalize decide (tr.length = 0) = b0 at *
  generalize decide (vs.length = 0) = b1 at *
  generalize decide (rows.length = 0) = b2 at *
  generalize decide (name = []) = b3 at *
  generalize decide (f.length = 0) = b4 at *
  generalize decide (checkS f = 0) = b5 at *
  generalize basicS tr = c0 at *
  generalize tableS vs rows = c1 at *
  generalize isName name = c2 at *
  generalize isIri name = c3 at *
  have T1 : ∀ {X : Option SV} {Y : SV → Prop}, Leads X Y → Leads (chk (sz3L tr) X) Y := fun w => Leads.chk q1 fun _ => w
  have T2 : ∀ {X : Option SV} {Y : SV → Prop}, Leads X Y → Leads (chk (szV vs ∧ szR rows) X) Y := fun w => Leads.chk ⟨q2, q3⟩ fun _ => w
  have T3 : ∀ {X : Option SV} {Y : SV → Prop}, Leads X Y → Leads (chk (allPt f) X) Y := fun w => Leads.chk q5 fun _ => w
  have T4 : ∀ {X : Option SV} {Y : SV → Prop}, Leads X Y → Leads (chk (name.length ≤ Big) X) Y := fun w => Leads.chk hB fun _ => w
  clear hs q1 q2 q3 q4 q5 q6 e1 e2 e2r e3 e4 e5 er
  revert hne
  cases b0 <;> cases b1 <;> cases b2 <;> cases b3 <;> cases b4 <;> cases sil <;> intro hne <;> first | (cases (hne rfl); done) | (repeat' (first | exact hL _ _ rfl | refine T1 ?_ | refine T2 ?_ | refine T3 ?_ | refine T4 ?_))
theorem pq_Right_c7 (tr : List (RowE t9S)) (vs : List (RowE [.str])) (rows : List (RowE [.sl [.int .i64, .str, .str, .str]])) (f : List (RowE ptS)) (name : List UInt8) (sil : Bool) (hs : szO ((7 : Int), tr, vs, rows, f, name, sil, ())) : evF T (Ep (Eq_RightTable)) (Ln (Lq_Right)) Try.f9 [.agg (rowD opS ((7 : Int), tr, vs, rows, f, name, sil, ()))] = some (.val (.d (.bool (rightO ((7 : Int), tr, vs, rows, f, name, sil, ()))))) := by
  obtain ⟨q1, q2, q3, ⟨q4, q5⟩, q6⟩ := id hs
  have q6 : name.length ≤ 140737488355328 := q6
  have e1 : ((tr.length : Int) == 0) = decide (tr.length = 0) := by by_cases z : tr.length = 0 <;> simp [z]
  have e2 : ((vs.length : Int) == 0) = decide (vs.length = 0) := by by_cases z : vs.length = 0 <;> simp [z]
  have e2r : ((rows.length : Int) == 0) = decide (rows.length = 0) := by by_cases z : rows.length = 0 <;> simp [z]
  have e3 : (name == []) = decide (name = []) := by cases name <;> simp
  have e4 : decide ((f.length : Int) > 0) = !decide (f.length = 0) := by by_cases z : f.length = 0 <;> simp [z] <;> omega
  have e5 : (checkS f == 0) = decide (checkS f = 0) := by by_cases z : checkS f = 0 <;> simp [z]
  have hne : decide (checkS f = 0) = true → decide (f.length = 0) = false := fun e => by
    cases f with
    | nil => exact absurd e (by decide)
    | cons _ _ => simp
  have hB : name.length ≤ Big := Nat.le_trans q6 (by decide)
  have hL : ∀ b c : Bool, b = c → Leads (some (SV.val (.d (.bool b))) : Option SV) fun z => z = SV.val (.d (.bool c)) := fun b c e => by rw [e]; exact Leads.one rfl
  refine Leads.eq (Leads.of_eq (tq_Right_c7 tr vs rows f name sil) ?_)
  have er : rightO ((7 : Int), tr, vs, rows, f, name, sil, ()) = (decide (tr.length = 0) && (decide (vs.length = 0) && decide (rows.length = 0)) && decide (checkS f = 0) && (decide (name = []) && !sil)) := by kernel_rfl
  rw [er]
  simp only [e1, e2, e2r, e3, e4, e5]
  generalize decide (tr.length = 0) = b0 at *
  generalize decide (vs.length = 0) = b1 at *
  generalize decide (rows.length = 0) = b2 at *
  generalize decide (name = []) = b3 at *
  generalize decide (f.length = 0) = b4 at *
  generalize decide (checkS f = 0) = b5 at *
  generalize basicS tr = c0 at *
  generalize tableS vs rows = c1 at *
  generalize isName name = c2 at *
  generalize isIri name = c3 at *
  have T1 : ∀ {X : Option SV} {Y : SV → Prop}, Leads X Y → Leads (chk (sz3L tr) X) Y := fun w => Leads.chk q1 fun _ => w
  have T2 : ∀ {X : Option SV} {Y : SV → Prop}, Leads X Y → Leads (chk (szV vs ∧ szR rows) X) Y := fun w => Leads.chk ⟨q2, q3⟩ fun _ => w
  have T3 : ∀ {X : Option SV} {Y : SV → Prop}, Leads X Y → Leads (chk (allPt f) X) Y := fun w => Leads.chk q5 fun _ => w
  have T4 : ∀ {X : Option SV} {Y : SV → Prop}, Leads X Y → Leads (chk (name.length ≤ Big) X) Y := fun w => Leads.chk hB fun _ => w
  clear hs q1 q2 q3 q4 q5 q6 e1 e2 e2r e3 e4 e5 er
  revert hne
  cases b0 <;> cases b1 <;> cases b2 <;> cases b3 <;> cases b4 <;> cases b5 <;> cases sil <;> intro hne <;> first | (cases (hne rfl); done) | (repeat' (first | exact hL _ _ rfl | refine T1 ?_ | refine T2 ?_ | refine T3 ?_ | refine T4 ?_))
theorem pq_Right_c8 (tr : List (RowE t9S)) (vs : List (RowE [.str])) (rows : List (RowE [.sl [.int .i64, .str, .str, .str]])) (f : List (RowE ptS)) (name : List UInt8) (sil : Bool) (hs : szO ((8 : Int), tr, vs, rows, f, name, sil, ())) : evF T (Ep (Eq_RightTable)) (Ln (Lq_Right)) Try.f9 [.agg (rowD opS ((8 : Int), tr, vs, rows, f, name, sil, ()))] = some (.val (.d (.bool (rightO ((8 : Int), tr, vs, rows, f, name, sil, ()))))) := by
  obtain ⟨q1, q2, q3, ⟨q4, q5⟩, q6⟩ := id hs
  have q6 : name.length ≤ 140737488355328 := q6
  have e1 : ((tr.length : Int) == 0) = decide (tr.length = 0) := by by_cases z : tr.length = 0 <;> simp [z]
  have e2 : ((vs.length : Int) == 0) = decide (vs.length = 0) := by by_cases z : vs.length = 0 <;> simp [z]
  have e2r : ((rows.length : Int) == 0) = decide (rows.length = 0) := by by_cases z : rows.length = 0 <;> simp [z]
  have e3 : (name == []) = decide (name = []) := by cases name <;> simp
  have e4 : decide ((f.length : Int) > 0) = !decide (f.length = 0) := by by_cases z : f.length = 0 <;> simp [z] <;> omega
  have e5 : (checkS f == 0) = decide (checkS f = 0) := by by_cases z : checkS f = 0 <;> simp [z]
  have hne : decide (checkS f = 0) = true → decide (f.length = 0) = false := fun e => by
    cases f with
    | nil => exact absurd e (by decide)
    | cons _ _ => simp
  have hB : name.length ≤ Big := Nat.le_trans q6 (by decide)
  have hL : ∀ b c : Bool, b = c → Leads (some (SV.val (.d (.bool b))) : Option SV) fun z => z = SV.val (.d (.bool c)) := fun b c e => by rw [e]; exact Leads.one rfl
  refine Leads.eq (Leads.of_eq (tq_Right_c8 tr vs rows f name sil) ?_)
  have er : rightO ((8 : Int), tr, vs, rows, f, name, sil, ()) = (decide (tr.length = 0) && (decide (vs.length = 0) && decide (rows.length = 0)) && decide (checkS f = 0) && isName name && !sil) := by kernel_rfl
  rw [er]
  simp only [e1, e2, e2r, e3, e4, e5]
  generalize decide (tr.length = 0) = b0 at *
  generalize decide (vs.length = 0) = b1 at *
  generalize decide (rows.length = 0) = b2 at *
  generalize decide (name = []) = b3 at *
  generalize decide (f.length = 0) = b4 at *
  generalize decide (checkS f = 0) = b5 at *
  generalize basicS tr = c0 at *
  generalize tableS vs rows = c1 at *
  generalize isName name = c2 at *
  generalize isIri name = c3 at *
  have T1 : ∀ {X : Option SV} {Y : SV → Prop}, Leads X Y → Leads (chk (sz3L tr) X) Y := fun w => Leads.chk q1 fun _ => w
  have T2 : ∀ {X : Option SV} {Y : SV → Prop}, Leads X Y → Leads (chk (szV vs ∧ szR rows) X) Y := fun w => Leads.chk ⟨q2, q3⟩ fun _ => w
  have T3 : ∀ {X : Option SV} {Y : SV → Prop}, Leads X Y → Leads (chk (allPt f) X) Y := fun w => Leads.chk q5 fun _ => w
  have T4 : ∀ {X : Option SV} {Y : SV → Prop}, Leads X Y → Leads (chk (name.length ≤ Big) X) Y := fun w => Leads.chk hB fun _ => w
  clear hs q1 q2 q3 q4 q5 q6 e1 e2 e2r e3 e4 e5 er
  revert hne
  cases b0 <;> cases b1 <;> cases b2 <;> cases b4 <;> cases b5 <;> cases sil <;> cases c2 <;> intro hne <;> first | (cases (hne rfl); done) | (repeat' (first | exact hL _ _ rfl | refine T1 ?_ | refine T2 ?_ | refine T3 ?_ | refine T4 ?_))
theorem pq_Right_c9 (tr : List (RowE t9S)) (vs : List (RowE [.str])) (rows : List (RowE [.sl [.int .i64, .str, .str, .str]])) (f : List (RowE ptS)) (name : List UInt8) (sil : Bool) (hs : szO ((9 : Int), tr, vs, rows, f, name, sil, ())) : evF T (Ep (Eq_RightTable)) (Ln (Lq_Right)) Try.f9 [.agg (rowD opS ((9 : Int), tr, vs, rows, f, name, sil, ()))] = some (.val (.d (.bool (rightO ((9 : Int), tr, vs, rows, f, name, sil, ()))))) := by
  obtain ⟨q1, q2, q3, ⟨q4, q5⟩, q6⟩ := id hs
  have q6 : name.length ≤ 140737488355328 := q6
  have e1 : ((tr.length : Int) == 0) = decide (tr.length = 0) := by by_cases z : tr.length = 0 <;> simp [z]
  have e2 : ((vs.length : Int) == 0) = decide (vs.length = 0) := by by_cases z : vs.length = 0 <;> simp [z]
  have e2r : ((rows.length : Int) == 0) = decide (rows.length = 0) := by by_cases z : rows.length = 0 <;> simp [z]
  have e3 : (name == []) = decide (name = []) := by cases name <;> simp
  have e4 : decide ((f.length : Int) > 0) = !decide (f.length = 0) := by by_cases z : f.length = 0 <;> simp [z] <;> omega
  have e5 : (checkS f == 0) = decide (checkS f = 0) := by by_cases z : checkS f = 0 <;> simp [z]
  have hne : decide (checkS f = 0) = true → decide (f.length = 0) = false := fun e => by
    cases f with
    | nil => exact absurd e (by decide)
    | cons _ _ => simp
  have hB : name.length ≤ Big := Nat.le_trans q6 (by decide)
  have hL : ∀ b c : Bool, b = c → Leads (some (SV.val (.d (.bool b))) : Option SV) fun z => z = SV.val (.d (.bool c)) := fun b c e => by rw [e]; exact Leads.one rfl
  refine Leads.eq (Leads.of_eq (tq_Right_c9 tr vs rows f name sil) ?_)
  have er : rightO ((9 : Int), tr, vs, rows, f, name, sil, ()) = (decide (tr.length = 0) && (decide (vs.length = 0) && decide (rows.length = 0)) && decide (f.length = 0) && isIri name) := by kernel_rfl
  rw [er]
  simp only [e1, e2, e2r, e3, e4, e5]
  generalize decide (tr.length = 0) = b0 at *
  generalize decide (vs.length = 0) = b1 at *
  generalize decide (rows.length = 0) = b2 at *
  generalize decide (name = []) = b3 at *
  generalize decide (f.length = 0) = b4 at *
  generalize decide (checkS f = 0) = b5 at *
  generalize basicS tr = c0 at *
  generalize tableS vs rows = c1 at *
  generalize isName name = c2 at *
  generalize isIri name = c3 at *
  have T1 : ∀ {X : Option SV} {Y : SV → Prop}, Leads X Y → Leads (chk (sz3L tr) X) Y := fun w => Leads.chk q1 fun _ => w
  have T2 : ∀ {X : Option SV} {Y : SV → Prop}, Leads X Y → Leads (chk (szV vs ∧ szR rows) X) Y := fun w => Leads.chk ⟨q2, q3⟩ fun _ => w
  have T3 : ∀ {X : Option SV} {Y : SV → Prop}, Leads X Y → Leads (chk (allPt f) X) Y := fun w => Leads.chk q5 fun _ => w
  have T4 : ∀ {X : Option SV} {Y : SV → Prop}, Leads X Y → Leads (chk (name.length ≤ Big) X) Y := fun w => Leads.chk hB fun _ => w
  clear hs q1 q2 q3 q4 q5 q6 e1 e2 e2r e3 e4 e5 er
  revert hne
  cases b0 <;> cases b1 <;> cases b2 <;> cases b4 <;> cases c3 <;> intro hne <;> first | (cases (hne rfl); done) | (repeat' (first | exact hL _ _ rfl | refine T1 ?_ | refine T2 ?_ | refine T3 ?_ | refine T4 ?_))
theorem pq_Right_c10 (m : Nat) (tr : List (RowE t9S)) (vs : List (RowE [.str])) (rows : List (RowE [.sl [.int .i64, .str, .str, .str]])) (f : List (RowE ptS)) (name : List UInt8) (sil : Bool) (hs : szO (((Int.ofNat (m + 10)) : Int), tr, vs, rows, f, name, sil, ())) : evF T (Ep (Eq_RightTable)) (Ln (Lq_Right)) Try.f9 [.agg (rowD opS (((Int.ofNat (m + 10)) : Int), tr, vs, rows, f, name, sil, ()))] = some (.val (.d (.bool (rightO (((Int.ofNat (m + 10)) : Int), tr, vs, rows, f, name, sil, ()))))) := by
  obtain ⟨q1, q2, q3, ⟨q4, q5⟩, q6⟩ := id hs
  have q6 : name.length ≤ 140737488355328 := q6
  have e1 : ((tr.length : Int) == 0) = decide (tr.length = 0) := by by_cases z : tr.length = 0 <;> simp [z]
  have e2 : ((vs.length : Int) == 0) = decide (vs.length = 0) := by by_cases z : vs.length = 0 <;> simp [z]
  have e2r : ((rows.length : Int) == 0) = decide (rows.length = 0) := by by_cases z : rows.length = 0 <;> simp [z]
  have e3 : (name == []) = decide (name = []) := by cases name <;> simp
  have e4 : decide ((f.length : Int) > 0) = !decide (f.length = 0) := by by_cases z : f.length = 0 <;> simp [z] <;> omega
  have e5 : (checkS f == 0) = decide (checkS f = 0) := by by_cases z : checkS f = 0 <;> simp [z]
  have hne : decide (checkS f = 0) = true → decide (f.length = 0) = false := fun e => by
    cases f with
    | nil => exact absurd e (by decide)
    | cons _ _ => simp
  have hB : name.length ≤ Big := Nat.le_trans q6 (by decide)
  have hL : ∀ b c : Bool, b = c → Leads (some (SV.val (.d (.bool b))) : Option SV) fun z => z = SV.val (.d (.bool c)) := fun b c e => by rw [e]; exact Leads.one rfl
  refine Leads.eq (Leads.of_eq (tq_Right_c10 m tr vs rows f name sil) ?_)
  have er : rightO (((Int.ofNat (m + 10)) : Int), tr, vs, rows, f, name, sil, ()) = (false) := by kernel_rfl
  rw [er]
  simp only [e1, e2, e2r, e3, e4, e5]
  generalize decide (tr.length = 0) = b0 at *
  generalize decide (vs.length = 0) = b1 at *
  generalize decide (rows.length = 0) = b2 at *
  generalize decide (name = []) = b3 at *
  generalize decide (f.length = 0) = b4 at *
  generalize decide (checkS f = 0) = b5 at *
  generalize basicS tr = c0 at *
  generalize tableS vs rows = c1 at *
  generalize isName name = c2 at *
  generalize isIri name = c3 at *
  have T1 : ∀ {X : Option SV} {Y : SV → Prop}, Leads X Y → Leads (chk (sz3L tr) X) Y := fun w => Leads.chk q1 fun _ => w
  have T2 : ∀ {X : Option SV} {Y : SV → Prop}, Leads X Y → Leads (chk (szV vs ∧ szR rows) X) Y := fun w => Leads.chk ⟨q2, q3⟩ fun _ => w
  have T3 : ∀ {X : Option SV} {Y : SV → Prop}, Leads X Y → Leads (chk (allPt f) X) Y := fun w => Leads.chk q5 fun _ => w
  have T4 : ∀ {X : Option SV} {Y : SV → Prop}, Leads X Y → Leads (chk (name.length ≤ Big) X) Y := fun w => Leads.chk hB fun _ => w
  clear hs q1 q2 q3 q4 q5 q6 e1 e2 e2r e3 e4 e5 er
  revert hne
  cases b1 <;> cases b4 <;> intro hne <;> first | (cases (hne rfl); done) | (repeat' (first | exact hL _ _ rfl | refine T1 ?_ | refine T2 ?_ | refine T3 ?_ | refine T4 ?_))
theorem pq_Right_c11 (m : Nat) (tr : List (RowE t9S)) (vs : List (RowE [.str])) (rows : List (RowE [.sl [.int .i64, .str, .str, .str]])) (f : List (RowE ptS)) (name : List UInt8) (sil : Bool) (hs : szO (((Int.negSucc m) : Int), tr, vs, rows, f, name, sil, ())) : evF T (Ep (Eq_RightTable)) (Ln (Lq_Right)) Try.f9 [.agg (rowD opS (((Int.negSucc m) : Int), tr, vs, rows, f, name, sil, ()))] = some (.val (.d (.bool (rightO (((Int.negSucc m) : Int), tr, vs, rows, f, name, sil, ()))))) := by
  obtain ⟨q1, q2, q3, ⟨q4, q5⟩, q6⟩ := id hs
  have q6 : name.length ≤ 140737488355328 := q6
  have e1 : ((tr.length : Int) == 0) = decide (tr.length = 0) := by by_cases z : tr.length = 0 <;> simp [z]
  have e2 : ((vs.length : Int) == 0) = decide (vs.length = 0) := by by_cases z : vs.length = 0 <;> simp [z]
  have e2r : ((rows.length : Int) == 0) = decide (rows.length = 0) := by by_cases z : rows.length = 0 <;> simp [z]
  have e3 : (name == []) = decide (name = []) := by cases name <;> simp
  have e4 : decide ((f.length : Int) > 0) = !decide (f.length = 0) := by by_cases z : f.length = 0 <;> simp [z] <;> omega
  have e5 : (checkS f == 0) = decide (checkS f = 0) := by by_cases z : checkS f = 0 <;> simp [z]
  have hne : decide (checkS f = 0) = true → decide (f.length = 0) = false := fun e => by
    cases f with
    | nil => exact absurd e (by decide)
    | cons _ _ => simp
  have hB : name.length ≤ Big := Nat.le_trans q6 (by decide)
  have hL : ∀ b c : Bool, b = c → Leads (some (SV.val (.d (.bool b))) : Option SV) fun z => z = SV.val (.d (.bool c)) := fun b c e => by rw [e]; exact Leads.one rfl
  refine Leads.eq (Leads.of_eq (tq_Right_c11 m tr vs rows f name sil) ?_)
  have er : rightO (((Int.negSucc m) : Int), tr, vs, rows, f, name, sil, ()) = (false) := by kernel_rfl
  rw [er]
  simp only [e1, e2, e2r, e3, e4, e5]
  generalize decide (tr.length = 0) = b0 at *
  generalize decide (vs.length = 0) = b1 at *
  generalize decide (rows.length = 0) = b2 at *
  generalize decide (name = []) = b3 at *
  generalize decide (f.length = 0) = b4 at *
  generalize decide (checkS f = 0) = b5 at *
  generalize basicS tr = c0 at *
  generalize tableS vs rows = c1 at *
  generalize isName name = c2 at *
  generalize isIri name = c3 at *
  have T1 : ∀ {X : Option SV} {Y : SV → Prop}, Leads X Y → Leads (chk (sz3L tr) X) Y := fun w => Leads.chk q1 fun _ => w
  have T2 : ∀ {X : Option SV} {Y : SV → Prop}, Leads X Y → Leads (chk (szV vs ∧ szR rows) X) Y := fun w => Leads.chk ⟨q2, q3⟩ fun _ => w
  have T3 : ∀ {X : Option SV} {Y : SV → Prop}, Leads X Y → Leads (chk (allPt f) X) Y := fun w => Leads.chk q5 fun _ => w
  have T4 : ∀ {X : Option SV} {Y : SV → Prop}, Leads X Y → Leads (chk (name.length ≤ Big) X) Y := fun w => Leads.chk hB fun _ => w
  clear hs q1 q2 q3 q4 q5 q6 e1 e2 e2r e3 e4 e5 er
  revert hne
  cases b1 <;> cases b4 <;> intro hne <;> first | (cases (hne rfl); done) | (repeat' (first | exact hL _ _ rfl | refine T1 ?_ | refine T2 ?_ | refine T3 ?_ | refine T4 ?_))

theorem satq_Right : Sat P 9 (Sq_Right) := by
  refine sat_mk (LT := Ln (Lq_Right)) hC (SatE.ep okq_RightTable) mixed Try.func9 (by kernel_rfl) (c := bodyOf Try.f9) (by kernel_rfl) (by kernel_rfl) ?_ (loops0 (by kernel_rfl))
  rintro ⟨(o : RowE opS), _⟩ sv h
  have key : ∀ (k : Int), k = 0 ∨ k = 1 ∨ k = 2 ∨ k = 3 ∨ k = 4 ∨ k = 5 ∨ k = 6 ∨ k = 7 ∨ k = 8 ∨ k = 9 ∨ (∃ m : Nat, k = Int.ofNat (m + 10)) ∨ ∃ m : Nat, k = Int.negSucc m := by
    intro k
    match k with
    | .negSucc m => simp
    | .ofNat n =>
      by_cases h : 10 ≤ n
      · have : (∃ m : Nat, Int.ofNat n = Int.ofNat (m + 10)) := ⟨n - 10, by rw [Nat.sub_add_cancel h]⟩
        simp only [this, true_or, or_true]
      · have : n = 0 ∨ n = 1 ∨ n = 2 ∨ n = 3 ∨ n = 4 ∨ n = 5 ∨ n = 6 ∨ n = 7 ∨ n = 8 ∨ n = 9 := by omega
        rcases this with rfl | rfl | rfl | rfl | rfl | rfl | rfl | rfl | rfl | rfl <;> simp
  obtain ⟨hs, h⟩ := h
  obtain rfl := Out_leaf h
  obtain ⟨k, tr, vs, rows, f, name, sil, _⟩ := o
  rcases key k with rfl | rfl | rfl | rfl | rfl | rfl | rfl | rfl | rfl | rfl | ⟨m, rfl⟩ | ⟨m, rfl⟩
  · exact pq_Right_c0 tr vs rows f name sil hs
  · exact pq_Right_c1 tr vs rows f name sil hs
  · exact pq_Right_c2 tr vs rows f name sil hs
  · exact pq_Right_c3 tr vs rows f name sil hs
  · exact pq_Right_c4 tr vs rows f name sil hs
  · exact pq_Right_c5 tr vs rows f name sil hs
  · exact pq_Right_c6 tr vs rows f name sil hs
  · exact pq_Right_c7 tr vs rows f name sil hs
  · exact pq_Right_c8 tr vs rows f name sil hs
  · exact pq_Right_c9 tr vs rows f name sil hs
  · exact pq_Right_c10 m tr vs rows f name sil hs
  · exact pq_Right_c11 m tr vs rows f name sil hs
def Eq_Right : Es := (9, (Sq_Right)) :: Eq_RightTable
theorem okq_Right : SatE P (En (Eq_Right)) := SatE.cons (satq_Right) okq_RightTable
/-! ### legation/legationlaw07.name -/
def Ll_name : Ls := []
def Sl_name := mkS [(false, [.str])] fun ⟨⟨(s : List UInt8), _⟩, _⟩ => (.leaf (SV.val (AV.agg [D.int IntKind.i64 (4 : Int), D.str s, D.str (CE.dflt Sh.str), D.str (CE.dflt Sh.str)])))
theorem tl_name (s : List UInt8) : evF T (Ep (Eq_Right)) (Ln (Ll_name)) Try.f33 [.d (.str s)] =
    some (SV.val (AV.agg [D.int IntKind.i64 (4 : Int), D.str s, D.str (CE.dflt Sh.str), D.str (CE.dflt Sh.str)])) := by kernel_rfl
theorem satl_name : Sat P 33 (Sl_name) := by
  refine sat_mk (LT := Ln (Ll_name)) hC (SatE.ep okq_Right) mixed Try.func33 (by kernel_rfl) (c := bodyOf Try.f33) (by kernel_rfl) (by kernel_rfl) ?_ (loops0 (by kernel_rfl))
  rintro ⟨⟨(s : List UInt8), _⟩, _⟩ sv h
  exact (tl_name s).trans (Tr.run_out (K := fun z => some z) h)
def El_name : Es := (33, (Sl_name)) :: Eq_Right
theorem okl_name : SatE P (En (El_name)) := SatE.cons (satl_name) okq_Right
/-! ### legation/legationlaw07.iri -/
def Ll_iri : Ls := []
def Sl_iri := mkS [(false, [.str])] fun ⟨⟨(s : List UInt8), _⟩, _⟩ => (.leaf (SV.val (AV.agg [D.int IntKind.i64 (1 : Int), D.str s, D.str (CE.dflt Sh.str), D.str (CE.dflt Sh.str)])))
theorem tl_iri (s : List UInt8) : evF T (Ep (El_name)) (Ln (Ll_iri)) Try.f34 [.d (.str s)] =
    some (SV.val (AV.agg [D.int IntKind.i64 (1 : Int), D.str s, D.str (CE.dflt Sh.str), D.str (CE.dflt Sh.str)])) := by kernel_rfl
theorem satl_iri : Sat P 34 (Sl_iri) := by
  refine sat_mk (LT := Ln (Ll_iri)) hC (SatE.ep okl_name) mixed Try.func34 (by kernel_rfl) (c := bodyOf Try.f34) (by kernel_rfl) (by kernel_rfl) ?_ (loops0 (by kernel_rfl))
  rintro ⟨⟨(s : List UInt8), _⟩, _⟩ sv h
  exact (tl_iri s).trans (Tr.run_out (K := fun z => some z) h)
def El_iri : Es := (34, (Sl_iri)) :: El_name
theorem okl_iri : SatE P (En (El_iri)) := SatE.cons (satl_iri) okl_name
def awC : List Sp.Op := [((1 : Int), [((4 : Int), ([120] : List UInt8), [], [], (1 : Int), ([97] : List UInt8), [], [], (4 : Int), ([121] : List UInt8), [], [], ())], [], [], [], ([] : List UInt8), false, ()), ((2 : Int), [], [(([122] : List UInt8), ())], [], [], ([] : List UInt8), false, ()), ((5 : Int), [], [], [], [], ([] : List UInt8), false, ())]
theorem aw_sz : szC awC := by
  refine ⟨by decide, fun o ho => ?_⟩
  simp only [awC, List.mem_cons, List.not_mem_nil, or_false] at ho
  rcases ho with rfl | rfl | rfl <;> simp [szO, sz3L, szV, szR, allPt, sz3]
theorem aw_e : (atS awC 2).2 = 0 := by kernel_rfl
theorem aw_k : keys7 (atS awC 2).1.1 = [([120], ()), ([121], ()), ([122], ())] := by kernel_rfl
theorem aw_c : certs7 (atS awC 2).1.1 = [([120], ()), ([121], ())] := by kernel_rfl
/-! ### legation/legationlaw07.awake -/
def Ll_awake : Ls := []
def Sl_awake := mkS [] fun _ => bl true
theorem tl_awake  : evF T (Ep (El_iri)) (Ln (Ll_awake)) Try.f12 [] =
    chk (szC [((1 : Int), [((4 : Int), [(120 : UInt8)], CE.dflt Sh.str, CE.dflt Sh.str, (1 : Int), [(97 : UInt8)], CE.dflt Sh.str, CE.dflt Sh.str, (4 : Int), [(121 : UInt8)], CE.dflt Sh.str, CE.dflt Sh.str, ())], [], [], [], CE.dflt Sh.str, CE.dflt Sh.bool, ()), ((2 : Int), [], [([(122 : UInt8)], ())], [], [], CE.dflt Sh.str, CE.dflt Sh.bool, ()), ((5 : Int), [], [], [], [], CE.dflt Sh.str, CE.dflt Sh.bool, ())])
  (chk (szC [((1 : Int), [((4 : Int), [(120 : UInt8)], CE.dflt Sh.str, CE.dflt Sh.str, (1 : Int), [(97 : UInt8)], CE.dflt Sh.str, CE.dflt Sh.str, (4 : Int), [(121 : UInt8)], CE.dflt Sh.str, CE.dflt Sh.str, ())], [], [], [], CE.dflt Sh.str, CE.dflt Sh.bool, ()), ((2 : Int), [], [([(122 : UInt8)], ())], [], [], CE.dflt Sh.str, CE.dflt Sh.bool, ()), ((5 : Int), [], [], [], [], CE.dflt Sh.str, CE.dflt Sh.bool, ())]) (br ((atS [((1 : Int), [((4 : Int), [(120 : UInt8)], CE.dflt Sh.str, CE.dflt Sh.str, (1 : Int), [(97 : UInt8)], CE.dflt Sh.str, CE.dflt Sh.str, (4 : Int), [(121 : UInt8)], CE.dflt Sh.str, CE.dflt Sh.str, ())], [], [], [], CE.dflt Sh.str, CE.dflt Sh.bool, ()), ((2 : Int), [], [([(122 : UInt8)], ())], [], [], CE.dflt Sh.str, CE.dflt Sh.bool, ()), ((5 : Int), [], [], [], [], CE.dflt Sh.str, CE.dflt Sh.bool, ())] (2 : Int)).snd == (0 : Int)) (br ((atS [((1 : Int), [((4 : Int), [(120 : UInt8)], CE.dflt Sh.str, CE.dflt Sh.str, (1 : Int), [(97 : UInt8)], CE.dflt Sh.str, CE.dflt Sh.str, (4 : Int), [(121 : UInt8)], CE.dflt Sh.str, CE.dflt Sh.str, ())], [], [], [], CE.dflt Sh.str, CE.dflt Sh.bool, ()), ((2 : Int), [], [([(122 : UInt8)], ())], [], [], CE.dflt Sh.str, CE.dflt Sh.bool, ()), ((5 : Int), [], [], [], [], CE.dflt Sh.str, CE.dflt Sh.bool, ())] (2 : Int)).snd == (0 : Int)) (chk ((keys7 (atS [((1 : Int), [((4 : Int), [(120 : UInt8)], CE.dflt Sh.str, CE.dflt Sh.str, (1 : Int), [(97 : UInt8)], CE.dflt Sh.str, CE.dflt Sh.str, (4 : Int), [(121 : UInt8)], CE.dflt Sh.str, CE.dflt Sh.str, ())], [], [], [], CE.dflt Sh.str, CE.dflt Sh.bool, ()), ((2 : Int), [], [([(122 : UInt8)], ())], [], [], CE.dflt Sh.str, CE.dflt Sh.bool, ()), ((5 : Int), [], [], [], [], CE.dflt Sh.str, CE.dflt Sh.bool, ())] (2 : Int)).fst.fst).length ≤ (1152921504606846976 : Nat) ∧ [([(120 : UInt8)], ()), ([(121 : UInt8)], ()), ([(122 : UInt8)], ())].length ≤ (1152921504606846976 : Nat)) (br (sameX (keys7 (atS [((1 : Int), [((4 : Int), [(120 : UInt8)], CE.dflt Sh.str, CE.dflt Sh.str, (1 : Int), [(97 : UInt8)], CE.dflt Sh.str, CE.dflt Sh.str, (4 : Int), [(121 : UInt8)], CE.dflt Sh.str, CE.dflt Sh.str, ())], [], [], [], CE.dflt Sh.str, CE.dflt Sh.bool, ()), ((2 : Int), [], [([(122 : UInt8)], ())], [], [], CE.dflt Sh.str, CE.dflt Sh.bool, ()), ((5 : Int), [], [], [], [], CE.dflt Sh.str, CE.dflt Sh.bool, ())] (2 : Int)).fst.fst) [([(120 : UInt8)], ()), ([(121 : UInt8)], ()), ([(122 : UInt8)], ())]) (chk ((certs7 (atS [((1 : Int), [((4 : Int), [(120 : UInt8)], CE.dflt Sh.str, CE.dflt Sh.str, (1 : Int), [(97 : UInt8)], CE.dflt Sh.str, CE.dflt Sh.str, (4 : Int), [(121 : UInt8)], CE.dflt Sh.str, CE.dflt Sh.str, ())], [], [], [], CE.dflt Sh.str, CE.dflt Sh.bool, ()), ((2 : Int), [], [([(122 : UInt8)], ())], [], [], CE.dflt Sh.str, CE.dflt Sh.bool, ()), ((5 : Int), [], [], [], [], CE.dflt Sh.str, CE.dflt Sh.bool, ())] (2 : Int)).fst.fst).length ≤ (1152921504606846976 : Nat) ∧ [([(120 : UInt8)], ()), ([(121 : UInt8)], ())].length ≤ (1152921504606846976 : Nat)) (some (SV.val (AV.d (D.bool (sameX (certs7 (atS [((1 : Int), [((4 : Int), [(120 : UInt8)], CE.dflt Sh.str, CE.dflt Sh.str, (1 : Int), [(97 : UInt8)], CE.dflt Sh.str, CE.dflt Sh.str, (4 : Int), [(121 : UInt8)], CE.dflt Sh.str, CE.dflt Sh.str, ())], [], [], [], CE.dflt Sh.str, CE.dflt Sh.bool, ()), ((2 : Int), [], [([(122 : UInt8)], ())], [], [], CE.dflt Sh.str, CE.dflt Sh.bool, ()), ((5 : Int), [], [], [], [], CE.dflt Sh.str, CE.dflt Sh.bool, ())] (2 : Int)).fst.fst) [([(120 : UInt8)], ()), ([(121 : UInt8)], ())])))))) (some (SV.val (AV.d (D.bool false)))))) (some (SV.val (AV.d (D.bool false))))) (some (SV.val (AV.d (D.bool false)))))) := by kernel_rfl
theorem satl_awake : Sat P 12 (Sl_awake) := by
  refine sat_mk (LT := Ln (Ll_awake)) hC (SatE.ep okl_iri) mixed Try.func12 (by kernel_rfl) (c := bodyOf Try.f12) (by kernel_rfl) (by kernel_rfl) ?_ (loops0 (by kernel_rfl))
  rintro _ sv h
  refine Leads.eq (Leads.of_eq (tl_awake ) ?_)
  obtain rfl := Out_leaf h
  refine Leads.chk aw_sz fun _ => Leads.chk aw_sz fun _ => Leads.brE (fun _ => Leads.brE (fun _ => Leads.chk ⟨?_, by decide⟩ fun _ => Leads.br (fun _ => Leads.chk ⟨?_, by decide⟩ fun _ => Leads.one ?_) (fun q => ?_)) (fun q => absurd aw_e q)) (fun q => absurd aw_e q)
  · show (keys7 (atS awC 2).1.1).length ≤ _; rw [aw_k]; decide
  · show (certs7 (atS awC 2).1.1).length ≤ _; rw [aw_c]; decide
  · show SV.val (.d (.bool (sameX (certs7 (atS awC 2).1.1) [([120], ()), ([121], ())]))) = _; rw [aw_c]; rfl
  · have q : sameX (keys7 (atS awC 2).1.1) [([120], ()), ([121], ()), ([122], ())] = false := q
    rw [aw_k] at q; exact absurd q (by decide)
def El_awake : Es := (12, (Sl_awake)) :: El_iri
theorem okl_awake : SatE P (En (El_awake)) := SatE.cons (satl_awake) okl_iri
/-! ### legation/legationlaw07.ScopeRights -/
def Ll_Rights : Ls := []
def Sl_Rights := mkS [(true, opS)] fun ⟨(o : RowE opS), _⟩ => .chk (szO o) (bl true)
theorem tl_Rights (o : RowE opS) : evF T (Ep (El_awake)) (Ln (Ll_Rights)) Try.f3 [.agg (rowD opS o)] =
    chk (szO o) (chk (szO o) (br (rightO o == rightO o) (br (decide (needsK o.fst = (0 : Int))) (br ((0 : Int) == needsK o.fst) (some (SV.val (AV.d (D.bool true)))) (some (SV.val (AV.d (D.bool false))))) (br (decide (needsK o.fst = (1 : Int))) (br ((1 : Int) == needsK o.fst) (some (SV.val (AV.d (D.bool true)))) (some (SV.val (AV.d (D.bool false))))) (br (decide (needsK o.fst = (2 : Int))) (br ((2 : Int) == needsK o.fst) (some (SV.val (AV.d (D.bool true)))) (some (SV.val (AV.d (D.bool false))))) (br ((-1 : Int) == needsK o.fst) (some (SV.val (AV.d (D.bool true)))) (some (SV.val (AV.d (D.bool false)))))))) (some (SV.val (AV.d (D.bool false)))))) := by kernel_rfl
theorem satl_Rights : Sat P 3 (Sl_Rights) := by
  refine sat_mk (LT := Ln (Ll_Rights)) hC (SatE.ep okl_awake) mixed Try.func3 (by kernel_rfl) (c := bodyOf Try.f3) (by kernel_rfl) (by kernel_rfl) ?_ (loops0 (by kernel_rfl))
  rintro ⟨(o : RowE opS), _⟩ sv h
  refine Leads.eq (Leads.of_eq (tl_Rights o) ?_)
  obtain ⟨hs, h⟩ := h
  obtain rfl := Out_leaf h
  refine Leads.chk hs fun _ => Leads.chk hs fun _ => Leads.br (fun _ => ?_) (fun e => by simp at e)
  refine Leads.brD (fun n => Leads.brE (fun _ => Leads.one rfl) (fun q => absurd n.symm q)) (fun n0 => Leads.brD (fun n => Leads.brE (fun _ => Leads.one rfl) (fun q => absurd n.symm q)) (fun n1 => Leads.brD (fun n => Leads.brE (fun _ => Leads.one rfl) (fun q => absurd n.symm q)) (fun n2 => Leads.brE (fun _ => Leads.one rfl) (fun q => ?_))))
  have := needsK_le o.1
  have hn : ∀ n : Int, ¬ n = 0 → ¬ n = 1 → ¬ n = 2 → n ≤ 2 ∧ -1 ≤ n → -1 = n := by intro n; omega
  exact absurd (hn _ n0 n1 n2 this) q
def El_Rights : Es := (3, (Sl_Rights)) :: El_awake
theorem okl_Rights : SatE P (En (El_Rights)) := SatE.cons (satl_Rights) okl_awake
end Go.Proofs.Ytfpojhphmgnfhaa.T7
