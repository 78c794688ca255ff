/- Part of a proof of the seat's statements: no statement by itself. -/
import Derived.Test.YtnbjlifmjhlpnaaT1D
import Derived.Test.YtnbjlifmjhlpnaaSpD
set_option maxRecDepth 100000
open Go.Proofs.Ytnbjlifmjhlpnaa.Lg Go Go.Proofs.Ytnbjlifmjhlpnaa.Sp
open Go.Proofs
namespace Go.Proofs.Ytnbjlifmjhlpnaa.T1


/-! ### internal/bytealg.abigen_runtime_cmpstring -/
def Lxcmp : Ls := []
def Sxcmp := mkS [(false, [.str]), (false, [.str])] fun ⟨⟨(a : List UInt8), _⟩, ⟨(b : List UInt8), _⟩, _⟩ => .leaf (.val (.d (.int .i64 (Lib.compareBytes a b))))
theorem satxcmp : SatX P 55 Sxcmp := satX_cmpString Try.func55 (by kernel_rfl) (by kernel_rfl) (by kernel_rfl) (by kernel_rfl)
def Excmp : Es := (55, Sxcmp) :: Er1_Compare
theorem okxcmp : SatE P (En Excmp) := SatE.consX satxcmp okr1_Compare
/-! ### internal/bytealg.CompareString -/
def Lb_cmp : Ls := []
def Sb_cmp := mkS [(false, [.str]), (false, [.str])] fun ⟨⟨(a : List UInt8), _⟩, ⟨(b : List UInt8), _⟩, _⟩ => (.leaf (SV.val (AV.d (D.int IntKind.i64 (Lib.compareBytes a b)))))
theorem tb_cmp (a : List UInt8) (b : List UInt8) : evF T (En (Excmp)) (Ln (Lb_cmp)) Try.f53 [.d (.str a), .d (.str b)] =
    some (SV.val (AV.d (D.int IntKind.i64 (Lib.compareBytes a b)))) := by kernel_rfl
theorem satb_cmp : Sat P 53 (Sb_cmp) := by
  refine sat_mk (LT := Ln (Lb_cmp)) hC okxcmp mixed Try.func53 (by kernel_rfl) (c := bodyOf Try.f53) (by kernel_rfl) (by kernel_rfl) ?_ (loops0 (by kernel_rfl))
  rintro ⟨⟨(a : List UInt8), _⟩, ⟨(b : List UInt8), _⟩, _⟩ sv h
  exact (tb_cmp a b).trans (Tr.run_out (K := fun z => some z) h)
def Eb_cmp : Es := (53, Sb_cmp) :: Excmp
theorem okb_cmp : SatE P (En (Eb_cmp)) := SatE.cons (satb_cmp) okxcmp
/-! ### strings.Compare -/
def Ls_cmp : Ls := []
def Ss_cmp := mkS [(false, [.str]), (false, [.str])] fun ⟨⟨(a : List UInt8), _⟩, ⟨(b : List UInt8), _⟩, _⟩ => (.leaf (SV.val (AV.d (D.int IntKind.i64 (Lib.compareBytes a b)))))
theorem ts_cmp (a : List UInt8) (b : List UInt8) : evF T (En (Eb_cmp)) (Ln (Ls_cmp)) Try.f41 [.d (.str a), .d (.str b)] =
    some (SV.val (AV.d (D.int IntKind.i64 (Lib.compareBytes a b)))) := by kernel_rfl
theorem sats_cmp : Sat P 41 (Ss_cmp) := by
  refine sat_mk (LT := Ln (Ls_cmp)) hC okb_cmp mixed Try.func41 (by kernel_rfl) (c := bodyOf Try.f41) (by kernel_rfl) (by kernel_rfl) ?_ (loops0 (by kernel_rfl))
  rintro ⟨⟨(a : List UInt8), _⟩, ⟨(b : List UInt8), _⟩, _⟩ sv h
  exact (ts_cmp a b).trans (Tr.run_out (K := fun z => some z) h)
def Es_cmp : Es := (41, Ss_cmp) :: Eb_cmp
theorem oks_cmp : SatE P (En (Es_cmp)) := SatE.cons (sats_cmp) okb_cmp
/-! ### legation/term.Compare -/
def lsCompare_0 : LoopS := mkU 4
def LCompare : Ls := [(6, lsCompare_0)]
def SCompare := mkS [(true, tmS), (true, tmS)] fun ⟨(a : RowE tmS), (b : RowE tmS), _⟩ => .chk ((a.2.1.length ≤ 140737488355328 ∧ a.2.2.1.length ≤ 140737488355328 ∧ a.2.2.2.1.length ≤ 140737488355328) ∧ b.2.1.length ≤ 140737488355328 ∧ b.2.2.1.length ≤ 140737488355328 ∧ b.2.2.2.1.length ≤ 140737488355328) (ii (cmpT a b))
theorem tCompare (a : RowE tmS) (b : RowE tmS) : evF T (En (Es_cmp)) (Ln (LCompare)) Try.f22 [.agg (rowD tmS a), .agg (rowD tmS b)] =
    br (a.fst != b.fst) (br (decide (a.fst < b.fst)) (some (SV.val (AV.d (D.int IntKind.i64 (-1 : Int))))) (some (SV.val (AV.d (D.int IntKind.i64 (1 : Int)))))) (chk ((0 : Int) ≤ (0 : Int) ∧ (0 : Int) < (↑(3 : Nat) : Int)) (chk ((0 : Int) ≤ (0 : Int) ∧ (0 : Int) < (↑(2 : Nat) : Int)) (chk ((0 : Int) ≤ (1 : Int) ∧ (1 : Int) < (↑(2 : Nat) : Int)) (br (Lib.compareBytes a.snd.fst b.snd.fst != (0 : Int)) (some (SV.val (AV.d (D.int IntKind.i64 (Lib.compareBytes a.snd.fst b.snd.fst))))) (chk ((0 : Int) ≤ IntKind.i64.wrap ((0 : Int) + (1 : Int)) ∧ IntKind.i64.wrap ((0 : Int) + (1 : Int)) < (↑(3 : Nat) : Int)) (chk ((0 : Int) ≤ (0 : Int) ∧ (0 : Int) < (↑(2 : Nat) : Int)) (chk ((0 : Int) ≤ (1 : Int) ∧ (1 : Int) < (↑(2 : Nat) : Int)) (br (Lib.compareBytes a.snd.snd.fst b.snd.snd.fst != (0 : Int)) (some (SV.val (AV.d (D.int IntKind.i64 (Lib.compareBytes a.snd.snd.fst b.snd.snd.fst))))) (chk ((0 : Int) ≤ IntKind.i64.wrap (IntKind.i64.wrap ((0 : Int) + (1 : Int)) + (1 : Int)) ∧ IntKind.i64.wrap (IntKind.i64.wrap ((0 : Int) + (1 : Int)) + (1 : Int)) < (↑(3 : Nat) : Int)) (chk ((0 : Int) ≤ (0 : Int) ∧ (0 : Int) < (↑(2 : Nat) : Int)) (chk ((0 : Int) ≤ (1 : Int) ∧ (1 : Int) < (↑(2 : Nat) : Int)) (br (Lib.compareBytes a.snd.snd.snd.fst b.snd.snd.snd.fst != (0 : Int)) (some (SV.val (AV.d (D.int IntKind.i64 (Lib.compareBytes a.snd.snd.snd.fst b.snd.snd.snd.fst))))) (some (SV.val (AV.d (D.int IntKind.i64 (0 : Int))))))))))))))))) := by kernel_rfl
theorem satCompare : Sat P 22 (SCompare) := by
  refine sat_mk (LT := Ln (LCompare)) hC oks_cmp mixed Try.func22 (by kernel_rfl) (c := bodyOf Try.f22) (by kernel_rfl) (by kernel_rfl) ?_ (loops1 (by kernel_rfl) (loopU (n := 4) (c := loopAt 0 (loops (bodyOf Try.f22))) (by kernel_rfl)))
  rintro ⟨(a : RowE tmS), (b : RowE tmS), _⟩ sv h
  refine Leads.eq (Leads.of_eq (tCompare a b) ?_)
  obtain ⟨_, h⟩ := h
  have h := Out_leaf h
  have w1 : IntKind.i64.wrap (0 + 1) = 1 := rfl
  have w2 : IntKind.i64.wrap (1 + 1) = 2 := rfl
  rw [w1, w2]
  refine Leads.brN (fun q => Leads.chk (by decide) fun _ => Leads.chk (by decide) fun _ => Leads.chk (by decide) fun _ => Leads.brN (fun q1 => Leads.chk (by decide) fun _ => Leads.chk (by decide) fun _ => Leads.chk (by decide) fun _ => Leads.brN (fun q2 => Leads.chk (by decide) fun _ => Leads.chk (by decide) fun _ => Leads.chk (by decide) fun _ => Leads.brN (fun q3 => Leads.one ?_) (fun q3 => Leads.one ?_)) (fun q2 => Leads.one ?_)) (fun q1 => Leads.one ?_)) (fun q => Leads.brD (fun q1 => Leads.one ?_) (fun q1 => Leads.one ?_))
  all_goals rw [h]
  · simp [cmpT, q, q1, q2, q3]
  · simp [cmpT, q, q1, q2]
  · simp [cmpT, q, q1, q2]
  · simp [cmpT, q, q1]
  · have q1 : a.1 < b.1 := q1
    simp [cmpT, q1]
  · have q1 : ¬ a.1 < b.1 := q1
    have q2 : b.1 < a.1 := (Int.lt_trichotomy a.1 b.1).elim (fun z => absurd z q1) (fun z => z.elim (fun e => absurd e q) (fun z => z))
    simp [cmpT, q1, q2]
def ECompare : Es := (22, SCompare) :: Es_cmp
theorem okCompare : SatE P (En (ECompare)) := SatE.cons (satCompare) oks_cmp
/-! ### legation/term.Less -/
def LLess : Ls := []
def SLess := mkS [(true, tmS), (true, tmS)] fun ⟨(a : RowE tmS), (b : RowE tmS), _⟩ => (.chk ((List.length a.snd.fst ≤ (140737488355328 : Nat) ∧ List.length a.snd.snd.fst ≤ (140737488355328 : Nat) ∧ List.length a.snd.snd.snd.fst ≤ (140737488355328 : Nat)) ∧ List.length b.snd.fst ≤ (140737488355328 : Nat) ∧ List.length b.snd.snd.fst ≤ (140737488355328 : Nat) ∧ List.length b.snd.snd.snd.fst ≤ (140737488355328 : Nat)) (.leaf (SV.val (AV.d (D.bool (decide (cmpT (a.fst, a.snd.fst, a.snd.snd.fst, a.snd.snd.snd.fst, ()) (b.fst, b.snd.fst, b.snd.snd.fst, b.snd.snd.snd.fst, ()) < (0 : Int))))))))
theorem tLess (a : RowE tmS) (b : RowE tmS) : evF T (En (ECompare)) (Ln (LLess)) Try.f24 [.agg (rowD tmS a), .agg (rowD tmS b)] =
    chk ((List.length a.snd.fst ≤ (140737488355328 : Nat) ∧ List.length a.snd.snd.fst ≤ (140737488355328 : Nat) ∧ List.length a.snd.snd.snd.fst ≤ (140737488355328 : Nat)) ∧ List.length b.snd.fst ≤ (140737488355328 : Nat) ∧ List.length b.snd.snd.fst ≤ (140737488355328 : Nat) ∧ List.length b.snd.snd.snd.fst ≤ (140737488355328 : Nat)) (some (SV.val (AV.d (D.bool (decide (cmpT (a.fst, a.snd.fst, a.snd.snd.fst, a.snd.snd.snd.fst, ()) (b.fst, b.snd.fst, b.snd.snd.fst, b.snd.snd.snd.fst, ()) < (0 : Int))))))) := by kernel_rfl
theorem satLess : Sat P 24 (SLess) := by
  refine sat_mk (LT := Ln (LLess)) hC okCompare mixed Try.func24 (by kernel_rfl) (c := bodyOf Try.f24) (by kernel_rfl) (by kernel_rfl) ?_ (loops0 (by kernel_rfl))
  rintro ⟨(a : RowE tmS), (b : RowE tmS), _⟩ sv h
  exact (tLess a b).trans (Tr.run_out (K := fun z => some z) h)
def ELess : Es := (24, SLess) :: ECompare
theorem okLess : SatE P (En (ELess)) := SatE.cons (satLess) okCompare
/-! ### legation/legationlaw01.TermTexts -/
def Ll4 : Ls := []
def Sl4 := mkS [(true, tmS)] fun ⟨(t : RowE tmS), _⟩ => .chk (t.2.1.length ≤ 140737488355328 ∧ t.2.2.1.length ≤ 140737488355328 ∧ t.2.2.2.1.length ≤ 140737488355328) (bl true)
theorem tl4 (t : RowE tmS) : evF T (En (ELess)) (Ln (Ll4)) Try.f4 [.agg (rowD tmS t)] =
    chk (List.length t.snd.fst ≤ (140737488355328 : Nat) ∧ List.length t.snd.snd.fst ≤ (140737488355328 : Nat) ∧ List.length t.snd.snd.snd.fst ≤ (140737488355328 : Nat)) (br (right t.fst t.snd.fst t.snd.snd.fst t.snd.snd.snd.fst) (chk (List.length t.snd.fst ≤ Big ∧ List.length t.snd.snd.fst ≤ Big ∧ List.length t.snd.snd.snd.fst ≤ Big) (br (!right t.fst t.snd.fst t.snd.snd.fst t.snd.snd.snd.fst) (br (textS t.fst t.snd.fst t.snd.snd.fst t.snd.snd.snd.fst == []) (some (SV.val (AV.d (D.bool false)))) (some (SV.val (AV.d (D.bool false))))) (chk (List.length t.snd.fst ≤ (1152921504606846976 : Nat) ∧ List.length t.snd.snd.fst ≤ (1152921504606846976 : Nat) ∧ List.length t.snd.snd.snd.fst ≤ (1152921504606846976 : Nat) ∧ ((t.fst, t.snd.fst, t.snd.snd.fst, t.snd.snd.snd.fst, ()).fst = (2 : CE (Sh.int IntKind.i64)) → (t.fst, t.snd.fst, t.snd.snd.fst, t.snd.snd.snd.fst, ()).snd.snd.fst = [] ∨ (t.fst, t.snd.fst, t.snd.snd.fst, t.snd.snd.snd.fst, ()).snd.snd.snd.fst = [])) (br (textS t.fst t.snd.fst t.snd.snd.fst t.snd.snd.snd.fst == textT (t.fst, t.snd.fst, t.snd.snd.fst, t.snd.snd.snd.fst, ())) (some (SV.val (AV.d (D.bool true)))) (some (SV.val (AV.d (D.bool false)))))))) (chk (List.length t.snd.fst ≤ Big ∧ List.length t.snd.snd.fst ≤ Big ∧ List.length t.snd.snd.snd.fst ≤ Big) (br (!right t.fst t.snd.fst t.snd.snd.fst t.snd.snd.snd.fst) (some (SV.val (AV.d (D.bool true)))) (chk (List.length t.snd.fst ≤ (1152921504606846976 : Nat) ∧ List.length t.snd.snd.fst ≤ (1152921504606846976 : Nat) ∧ List.length t.snd.snd.snd.fst ≤ (1152921504606846976 : Nat) ∧ ((t.fst, t.snd.fst, t.snd.snd.fst, t.snd.snd.snd.fst, ()).fst = (2 : CE (Sh.int IntKind.i64)) → (t.fst, t.snd.fst, t.snd.snd.fst, t.snd.snd.snd.fst, ()).snd.snd.fst = [] ∨ (t.fst, t.snd.fst, t.snd.snd.fst, t.snd.snd.snd.fst, ()).snd.snd.snd.fst = [])) (br ([] == textT (t.fst, t.snd.fst, t.snd.snd.fst, t.snd.snd.snd.fst, ())) (some (SV.val (AV.d (D.bool false)))) (some (SV.val (AV.d (D.bool false))))))))) := by kernel_rfl
theorem satl4 : Sat P 4 (Sl4) := by
  refine sat_mk (LT := Ln (Ll4)) hC okLess mixed Try.func4 (by kernel_rfl) (c := bodyOf Try.f4) (by kernel_rfl) (by kernel_rfl) ?_ (loops0 (by kernel_rfl))
  rintro ⟨(t : RowE tmS), _⟩ sv h
  refine Leads.eq (Leads.of_eq (tl4 t) ?_)
  obtain ⟨hs, h⟩ := h
  have h := Out_leaf h
  have hB := Big_eq
  have h1 := hs.1; have h2 := hs.2.1; have h3 := hs.2.2
  refine Leads.chk hs fun _ => Leads.br (fun q => Leads.chk (by omega) fun _ => Leads.brG (fun _ => Leads.chk ⟨by omega, by omega, by omega, fun k => ?_⟩ fun _ => Leads.brE (fun _ => Leads.one (by rw [h])) (fun z => absurd rfl z)) (fun z => by rw [q] at z; cases z)) (fun q => Leads.chk (by omega) fun _ => Leads.brG (fun z => by rw [q] at z; cases z) (fun _ => Leads.one (by rw [h])))
  have k : t.1 = 2 := k
  simp [right, k] at q
  rcases q.1.2 with z | z
  · exact .inl z
  · exact .inr z.2
def El4 : Es := (4, Sl4) :: ELess
theorem okl4 : SatE P (En (El4)) := SatE.cons (satl4) okLess
/-! ### legation/legationlaw01.TermReads -/
def Ll5 : Ls := []
def Sl5 := mkS [(false, [.str])] fun ⟨⟨(s : List UInt8), _⟩, _⟩ => .chk (s.length ≤ 140737488351232) (bl true)
theorem tl5 (s : List UInt8) : evF T (En (El4)) (Ln (Ll5)) Try.f5 [.d (.str s)] =
    chk (okP s) (chk (s.length ≤ (1152921504606846976 : Nat)) (br ((readS s).fst == (readS s).fst && ((readS s).snd.fst == (readS s).snd.fst && ((readS s).snd.snd.fst == (readS s).snd.snd.fst && (readS s).snd.snd.snd.fst == (readS s).snd.snd.snd.fst))) (br (((readS s).snd.snd.snd.snd == (0 : Int)) == decide ((readS s).snd.snd.snd.snd = (0 : Int))) (br ((readS s).snd.snd.snd.snd == (0 : Int)) (some (SV.val (AV.d (D.bool true)))) (br ((readS s).snd.snd.snd.snd == (2 : Int)) (some (SV.val (AV.d (D.bool true)))) (some (SV.val (AV.d (D.bool false)))))) (some (SV.val (AV.d (D.bool false))))) (some (SV.val (AV.d (D.bool false)))))) := by kernel_rfl
theorem satl5 : Sat P 5 (Sl5) := by
  refine sat_mk (LT := Ln (Ll5)) hC okl4 mixed Try.func5 (by kernel_rfl) (c := bodyOf Try.f5) (by kernel_rfl) (by kernel_rfl) ?_ (loops0 (by kernel_rfl))
  rintro ⟨⟨(s : List UInt8), _⟩, _⟩ sv h
  refine Leads.eq (Leads.of_eq (tl5 s) ?_)
  obtain ⟨hs, h⟩ := h
  have h := Out_leaf h
  refine Leads.chk ⟨by rw [Big_eq]; omega, .inl (by omega)⟩ fun _ => Leads.chk (by omega) fun _ => Leads.br (fun _ => Leads.brE (fun _ => Leads.brE (fun _ => Leads.one (by rw [h])) (fun q => Leads.brE (fun _ => Leads.one (by rw [h])) (fun z => ?_))) (fun z => absurd (by rw [Bool.eq_iff_iff]; simp) z)) (fun z => by simp at z)
  exfalso
  by_cases w : (prefixS s).2.2.2.2 = (s.length : Int)
  · exact q (by simp only [readS, w, if_true])
  · exact z (by simp only [readS, w, if_false])
def El5 : Es := (5, Sl5) :: El4
theorem okl5 : SatE P (En (El5)) := SatE.cons (satl5) okl4
/-! ### legation/legationlaw01.TermPrefixes -/
def Ll6 : Ls := []
def Sl6 := mkS [(false, [.str])] fun ⟨⟨(s : List UInt8), _⟩, _⟩ => .chk (s.length ≤ 140737488351232) (bl true)
theorem tl6 (s : List UInt8) : evF T (En (El5)) (Ln (Ll6)) Try.f6 [.d (.str s)] =
    chk (okP s) (chk (s.length ≤ (1152921504606846976 : Nat)) (br ((prefixS s).fst == (prefixS s).fst && ((prefixS s).snd.fst == (prefixS s).snd.fst && ((prefixS s).snd.snd.fst == (prefixS s).snd.snd.fst && (prefixS s).snd.snd.snd.fst == (prefixS s).snd.snd.snd.fst))) (br ((prefixS s).snd.snd.snd.snd == (prefixS s).snd.snd.snd.snd) (some (SV.val (AV.d (D.bool true)))) (some (SV.val (AV.d (D.bool false))))) (some (SV.val (AV.d (D.bool false)))))) := by kernel_rfl
theorem satl6 : Sat P 6 (Sl6) := by
  refine sat_mk (LT := Ln (Ll6)) hC okl5 mixed Try.func6 (by kernel_rfl) (c := bodyOf Try.f6) (by kernel_rfl) (by kernel_rfl) ?_ (loops0 (by kernel_rfl))
  rintro ⟨⟨(s : List UInt8), _⟩, _⟩ sv h
  refine Leads.eq (Leads.of_eq (tl6 s) ?_)
  obtain ⟨hs, h⟩ := h
  have h := Out_leaf h
  exact Leads.chk ⟨by rw [Big_eq]; omega, .inl (by omega)⟩ fun _ => Leads.chk (by omega) fun _ => Leads.br (fun _ => Leads.brE (fun _ => Leads.one (by rw [h])) (fun z => absurd rfl z)) (fun z => by simp at z)
def El6 : Es := (6, Sl6) :: El5
theorem okl6 : SatE P (En (El6)) := SatE.cons (satl6) okl5
/-! ### legation/legationlaw01.TermBack -/
def Ll7 : Ls := []
def Sl7 := mkS [(true, tmS), (false, [.str])] fun ⟨(t : RowE tmS), ⟨(s : List UInt8), _⟩, _⟩ => .chk ((t.2.1.length ≤ 140737488355328 ∧ t.2.2.1.length ≤ 140737488355328 ∧ t.2.2.2.1.length ≤ 140737488355328) ∧ s.length ≤ 140737488351232) (bl true)
theorem tl7 (t : RowE tmS) (s : List UInt8) : evF T (En (El6)) (Ln (Ll7)) Try.f7 [.agg (rowD tmS t), .d (.str s)] =
    chk (List.length t.snd.fst ≤ (140737488355328 : Nat) ∧ List.length t.snd.snd.fst ≤ (140737488355328 : Nat) ∧ List.length t.snd.snd.snd.fst ≤ (140737488355328 : Nat)) (br (right t.fst t.snd.fst t.snd.snd.fst t.snd.snd.snd.fst) (chk (okP (textS t.fst t.snd.fst t.snd.snd.fst t.snd.snd.snd.fst)) (br ((readS (textS t.fst t.snd.fst t.snd.snd.fst t.snd.snd.snd.fst)).snd.snd.snd.snd != (0 : Int)) (some (SV.val (AV.d (D.bool false)))) (br (!((readS (textS t.fst t.snd.fst t.snd.snd.fst t.snd.snd.snd.fst)).fst == t.fst && ((readS (textS t.fst t.snd.fst t.snd.snd.fst t.snd.snd.snd.fst)).snd.fst == t.snd.fst && ((readS (textS t.fst t.snd.fst t.snd.snd.fst t.snd.snd.snd.fst)).snd.snd.fst == t.snd.snd.fst && (readS (textS t.fst t.snd.fst t.snd.snd.fst t.snd.snd.snd.fst)).snd.snd.snd.fst == t.snd.snd.snd.fst)))) (some (SV.val (AV.d (D.bool false)))) (chk (okP s) (br ((readS s).snd.snd.snd.snd == (0 : Int)) (chk (List.length (readS s).snd.fst ≤ (140737488355328 : Nat) ∧ List.length (readS s).snd.snd.fst ≤ (140737488355328 : Nat) ∧ List.length (readS s).snd.snd.snd.fst ≤ (140737488355328 : Nat)) (br (right (readS s).fst (readS s).snd.fst (readS s).snd.snd.fst (readS s).snd.snd.snd.fst) (br (!textS (readS s).fst (readS s).snd.fst (readS s).snd.snd.fst (readS s).snd.snd.snd.fst == s) (some (SV.val (AV.d (D.bool false)))) (some (SV.val (AV.d (D.bool true))))) (some (SV.val (AV.d (D.bool false)))))) (some (SV.val (AV.d (D.bool true))))))))) (chk (okP s) (br ((readS s).snd.snd.snd.snd == (0 : Int)) (chk (List.length (readS s).snd.fst ≤ (140737488355328 : Nat) ∧ List.length (readS s).snd.snd.fst ≤ (140737488355328 : Nat) ∧ List.length (readS s).snd.snd.snd.fst ≤ (140737488355328 : Nat)) (br (right (readS s).fst (readS s).snd.fst (readS s).snd.snd.fst (readS s).snd.snd.snd.fst) (br (!textS (readS s).fst (readS s).snd.fst (readS s).snd.snd.fst (readS s).snd.snd.snd.fst == s) (some (SV.val (AV.d (D.bool false)))) (some (SV.val (AV.d (D.bool true))))) (some (SV.val (AV.d (D.bool false)))))) (some (SV.val (AV.d (D.bool true))))))) := by kernel_rfl
theorem satl7 : Sat P 7 (Sl7) := by
  refine sat_mk (LT := Ln (Ll7)) hC okl6 mixed Try.func7 (by kernel_rfl) (c := bodyOf Try.f7) (by kernel_rfl) (by kernel_rfl) ?_ (loops0 (by kernel_rfl))
  rintro ⟨(t : RowE tmS), ⟨(s : List UInt8), _⟩, _⟩ sv h
  refine Leads.eq (Leads.of_eq (tl7 t s) ?_)
  obtain ⟨⟨ht, hs⟩, h⟩ := h
  have h := Out_leaf h
  have back : Leads (R := SV) ((chk (okP s) (br ((readS s).snd.snd.snd.snd == (0 : Int)) (chk (List.length (readS s).snd.fst ≤ (140737488355328 : Nat) ∧ List.length (readS s).snd.snd.fst ≤ (140737488355328 : Nat) ∧ List.length (readS s).snd.snd.snd.fst ≤ (140737488355328 : Nat)) (br (right (readS s).fst (readS s).snd.fst (readS s).snd.snd.fst (readS s).snd.snd.snd.fst) (br (!textS (readS s).fst (readS s).snd.fst (readS s).snd.snd.fst (readS s).snd.snd.snd.fst == s) (some (SV.val (AV.d (D.bool false)))) (some (SV.val (AV.d (D.bool true))))) (some (SV.val (AV.d (D.bool false)))))) (some (SV.val (AV.d (D.bool true))))))) (fun z => z = sv) := by
    refine Leads.chk ⟨by rw [Big_eq]; omega, .inl (by omega)⟩ fun _ => Leads.brE (fun q => ?_) (fun q => Leads.one (by rw [h]))
    have key := text_read q
    have hl := right_le key.1
    refine Leads.chk (by omega) fun _ => Leads.br (fun _ => Leads.brM (fun _ => Leads.one (by rw [h])) (fun z => absurd key.2 z)) (fun z => by rw [key.1] at z; cases z)
  refine Leads.chk ht fun _ => Leads.br (fun q => ?_) (fun _ => back)
  have hr := read_text q
  refine Leads.chk (okP_text q) fun _ => ?_
  rw [hr]
  exact Leads.brN (fun _ => Leads.brG (fun _ => back) (fun z => by simp at z)) (fun z => absurd rfl z)
def El7 : Es := (7, Sl7) :: El6
theorem okl7 : SatE P (En (El7)) := SatE.cons (satl7) okl6
/-! ### legation/legationlaw01.TermGoes -/
def Ll8 : Ls := []
def Sl8 := mkS [(true, tmS), (false, [.str])] fun ⟨(t : RowE tmS), ⟨(rest : List UInt8), _⟩, _⟩ => .chk ((t.2.1.length ≤ 140737488355328 ∧ t.2.2.1.length ≤ 140737488355328 ∧ t.2.2.2.1.length ≤ 140737488355328) ∧ rest.length ≤ 140737488351232) (bl true)
theorem tl8 (t : RowE tmS) (rest : List UInt8) : evF T (En (El7)) (Ln (Ll8)) Try.f8 [.agg (rowD tmS t), .d (.str rest)] =
    chk (List.length t.snd.fst ≤ (140737488355328 : Nat) ∧ List.length t.snd.snd.fst ≤ (140737488355328 : Nat) ∧ List.length t.snd.snd.snd.fst ≤ (140737488355328 : Nat)) (br (right t.fst t.snd.fst t.snd.snd.fst t.snd.snd.snd.fst) (br (t.fst == (0 : Int)) (some (SV.val (AV.d (D.bool true)))) (chk ((↑(List.length (textS t.fst t.snd.fst t.snd.snd.fst t.snd.snd.snd.fst)) : Int) + (↑[(32 : UInt8)].length : Int) ≤ maxI) (chk ((↑(textS t.fst t.snd.fst t.snd.snd.fst t.snd.snd.snd.fst ++ [(32 : UInt8)]).length : Int) + (↑rest.length : Int) ≤ maxI) (chk (okP (textS t.fst t.snd.fst t.snd.snd.fst t.snd.snd.snd.fst ++ [(32 : UInt8)] ++ rest)) (br ((prefixS (textS t.fst t.snd.fst t.snd.snd.fst t.snd.snd.snd.fst ++ [(32 : UInt8)] ++ rest)).fst == t.fst && ((prefixS (textS t.fst t.snd.fst t.snd.snd.fst t.snd.snd.snd.fst ++ [(32 : UInt8)] ++ rest)).snd.fst == t.snd.fst && ((prefixS (textS t.fst t.snd.fst t.snd.snd.fst t.snd.snd.snd.fst ++ [(32 : UInt8)] ++ rest)).snd.snd.fst == t.snd.snd.fst && (prefixS (textS t.fst t.snd.fst t.snd.snd.fst t.snd.snd.snd.fst ++ [(32 : UInt8)] ++ rest)).snd.snd.snd.fst == t.snd.snd.snd.fst))) (br ((prefixS (textS t.fst t.snd.fst t.snd.snd.fst t.snd.snd.snd.fst ++ [(32 : UInt8)] ++ rest)).snd.snd.snd.snd == (↑(List.length (textS t.fst t.snd.fst t.snd.snd.fst t.snd.snd.snd.fst)) : Int)) (some (SV.val (AV.d (D.bool true)))) (some (SV.val (AV.d (D.bool false))))) (some (SV.val (AV.d (D.bool false))))))))) (some (SV.val (AV.d (D.bool true))))) := by kernel_rfl
theorem satl8 : Sat P 8 (Sl8) := by
  refine sat_mk (LT := Ln (Ll8)) hC okl7 mixed Try.func8 (by kernel_rfl) (c := bodyOf Try.f8) (by kernel_rfl) (by kernel_rfl) ?_ (loops0 (by kernel_rfl))
  rintro ⟨(t : RowE tmS), ⟨(rest : List UInt8), _⟩, _⟩ sv h
  refine Leads.eq (Leads.of_eq (tl8 t rest) ?_)
  obtain ⟨⟨ht, hs⟩, h⟩ := h
  have h := Out_leaf h
  refine Leads.chk ht fun _ => Leads.br (fun q => Leads.brE (fun _ => Leads.one (by rw [h])) (fun hk => ?_)) (fun q => Leads.one (by rw [h]))
  have hl := textS_le q
  have hp := prefix_text (r := 32 :: rest) q hk (.inr ⟨rest, rfl⟩)
  have e : textS t.1 t.2.1 t.2.2.1 t.2.2.2.1 ++ [32] ++ rest = textS t.1 t.2.1 t.2.2.1 t.2.2.2.1 ++ 32 :: rest := by simp
  rw [e, hp]
  refine Leads.chk (by simp [maxI]; omega) fun _ => Leads.chk (by simp [maxI]; omega) fun _ => Leads.chk (okP_goes q hk hs) fun _ => Leads.br (fun _ => Leads.brE (fun _ => Leads.one (by rw [h])) (fun z => absurd rfl z)) (fun z => by simp at z)
def El8 : Es := (8, Sl8) :: El7
theorem okl8 : SatE P (En (El8)) := SatE.cons (satl8) okl7
/-! ### legation/legationlaw01.TermOrder -/
def Ll9 : Ls := []
def Sl9 := mkS [(true, tmS), (true, tmS), (true, tmS)] fun ⟨(a : RowE tmS), (b : RowE tmS), (c : RowE tmS), _⟩ => .chk ((a.2.1.length ≤ 140737488355328 ∧ a.2.2.1.length ≤ 140737488355328 ∧ a.2.2.2.1.length ≤ 140737488355328) ∧ (b.2.1.length ≤ 140737488355328 ∧ b.2.2.1.length ≤ 140737488355328 ∧ b.2.2.2.1.length ≤ 140737488355328) ∧ (c.2.1.length ≤ 140737488355328 ∧ c.2.2.1.length ≤ 140737488355328 ∧ c.2.2.2.1.length ≤ 140737488355328)) (bl true)
theorem tl9 (a : RowE tmS) (b : RowE tmS) (c : RowE tmS) : evF T (En (El8)) (Ln (Ll9)) Try.f9 [.agg (rowD tmS a), .agg (rowD tmS b), .agg (rowD tmS c)] =
    chk ((List.length a.snd.fst ≤ (140737488355328 : Nat) ∧ List.length a.snd.snd.fst ≤ (140737488355328 : Nat) ∧ List.length a.snd.snd.snd.fst ≤ (140737488355328 : Nat)) ∧ List.length b.snd.fst ≤ (140737488355328 : Nat) ∧ List.length b.snd.snd.fst ≤ (140737488355328 : Nat) ∧ List.length b.snd.snd.snd.fst ≤ (140737488355328 : Nat)) (chk ((List.length b.snd.fst ≤ (140737488355328 : Nat) ∧ List.length b.snd.snd.fst ≤ (140737488355328 : Nat) ∧ List.length b.snd.snd.snd.fst ≤ (140737488355328 : Nat)) ∧ List.length a.snd.fst ≤ (140737488355328 : Nat) ∧ List.length a.snd.snd.fst ≤ (140737488355328 : Nat) ∧ List.length a.snd.snd.snd.fst ≤ (140737488355328 : Nat)) (br (cmpT (a.fst, a.snd.fst, a.snd.snd.fst, a.snd.snd.snd.fst, ()) (b.fst, b.snd.fst, b.snd.snd.fst, b.snd.snd.snd.fst, ()) != IntKind.i64.wrap (-cmpT (b.fst, b.snd.fst, b.snd.snd.fst, b.snd.snd.snd.fst, ()) (a.fst, a.snd.fst, a.snd.snd.fst, a.snd.snd.snd.fst, ()))) (some (SV.val (AV.d (D.bool false)))) (br (!(cmpT (a.fst, a.snd.fst, a.snd.snd.fst, a.snd.snd.snd.fst, ()) (b.fst, b.snd.fst, b.snd.snd.fst, b.snd.snd.snd.fst, ()) == (0 : Int)) == (a.fst == b.fst && (a.snd.fst == b.snd.fst && (a.snd.snd.fst == b.snd.snd.fst && a.snd.snd.snd.fst == b.snd.snd.snd.fst)))) (some (SV.val (AV.d (D.bool false)))) (br (decide (cmpT (a.fst, a.snd.fst, a.snd.snd.fst, a.snd.snd.snd.fst, ()) (b.fst, b.snd.fst, b.snd.snd.fst, b.snd.snd.snd.fst, ()) < (-1 : Int))) (some (SV.val (AV.d (D.bool false)))) (br (decide (cmpT (a.fst, a.snd.fst, a.snd.snd.fst, a.snd.snd.snd.fst, ()) (b.fst, b.snd.fst, b.snd.snd.fst, b.snd.snd.snd.fst, ()) > (1 : Int))) (some (SV.val (AV.d (D.bool false)))) (chk ((List.length a.snd.fst ≤ (140737488355328 : Nat) ∧ List.length a.snd.snd.fst ≤ (140737488355328 : Nat) ∧ List.length a.snd.snd.snd.fst ≤ (140737488355328 : Nat)) ∧ List.length b.snd.fst ≤ (140737488355328 : Nat) ∧ List.length b.snd.snd.fst ≤ (140737488355328 : Nat) ∧ List.length b.snd.snd.snd.fst ≤ (140737488355328 : Nat)) (br (decide (cmpT (a.fst, a.snd.fst, a.snd.snd.fst, a.snd.snd.snd.fst, ()) (b.fst, b.snd.fst, b.snd.snd.fst, b.snd.snd.snd.fst, ()) > (0 : Int))) (some (SV.val (AV.d (D.bool true)))) (chk ((List.length b.snd.fst ≤ (140737488355328 : Nat) ∧ List.length b.snd.snd.fst ≤ (140737488355328 : Nat) ∧ List.length b.snd.snd.snd.fst ≤ (140737488355328 : Nat)) ∧ List.length c.snd.fst ≤ (140737488355328 : Nat) ∧ List.length c.snd.snd.fst ≤ (140737488355328 : Nat) ∧ List.length c.snd.snd.snd.fst ≤ (140737488355328 : Nat)) (br (decide (cmpT (b.fst, b.snd.fst, b.snd.snd.fst, b.snd.snd.snd.fst, ()) (c.fst, c.snd.fst, c.snd.snd.fst, c.snd.snd.snd.fst, ()) > (0 : Int))) (some (SV.val (AV.d (D.bool true)))) (chk ((List.length a.snd.fst ≤ (140737488355328 : Nat) ∧ List.length a.snd.snd.fst ≤ (140737488355328 : Nat) ∧ List.length a.snd.snd.snd.fst ≤ (140737488355328 : Nat)) ∧ List.length c.snd.fst ≤ (140737488355328 : Nat) ∧ List.length c.snd.snd.fst ≤ (140737488355328 : Nat) ∧ List.length c.snd.snd.snd.fst ≤ (140737488355328 : Nat)) (br (decide (cmpT (a.fst, a.snd.fst, a.snd.snd.fst, a.snd.snd.snd.fst, ()) (c.fst, c.snd.fst, c.snd.snd.fst, c.snd.snd.snd.fst, ()) ≤ (0 : Int))) (some (SV.val (AV.d (D.bool true)))) (some (SV.val (AV.d (D.bool false))))))))))))))) := by kernel_rfl
theorem satl9 : Sat P 9 (Sl9) := by
  refine sat_mk (LT := Ln (Ll9)) hC okl8 mixed Try.func9 (by kernel_rfl) (c := bodyOf Try.f9) (by kernel_rfl) (by kernel_rfl) ?_ (loops0 (by kernel_rfl))
  rintro ⟨(a : RowE tmS), (b : RowE tmS), (c : RowE tmS), _⟩ sv h
  refine Leads.eq (Leads.of_eq (tl9 a b c) ?_)
  obtain ⟨⟨ha, hb, hc⟩, h⟩ := h
  have h := Out_leaf h
  have r1 := cmpT_range a b
  have a1 := cmpT_anti b a
  have z1 := cmpT_zero a b
  have w : IntKind.i64.wrap (-cmpT b a) = -cmpT b a := wrap64 (by have := cmpT_range b a; omega) (by have := cmpT_range b a; omega)
  refine Leads.chk ⟨ha, hb⟩ fun _ => Leads.chk ⟨hb, ha⟩ fun _ => Leads.brN (fun _ => Leads.br (fun q => ?_) (fun _ => Leads.brD (fun q => ?_) (fun _ => Leads.brD (fun q => ?_) (fun _ => Leads.chk ⟨ha, hb⟩ fun _ => Leads.brD (fun _ => Leads.one (by rw [h])) (fun q1 => Leads.chk ⟨hb, hc⟩ fun _ => Leads.brD (fun _ => Leads.one (by rw [h])) (fun q2 => Leads.chk ⟨ha, hc⟩ fun _ => Leads.brD (fun _ => Leads.one (by rw [h])) (fun q3 => ?_)))))) ) (fun q => ?_)
  · exfalso
    have q : (!(cmpT a b == 0) == (a.1 == b.1 && (a.2.1 == b.2.1 && (a.2.2.1 == b.2.2.1 && a.2.2.2.1 == b.2.2.2.1)))) = true := q
    have e : (cmpT a b == 0) = (a.1 == b.1 && (a.2.1 == b.2.1 && (a.2.2.1 == b.2.2.1 && a.2.2.2.1 == b.2.2.2.1))) := by
      rw [Bool.eq_iff_iff]
      simp only [beq_iff_eq, Bool.and_eq_true]
      rw [z1]
      obtain ⟨x1, x2, x3, x4, _⟩ := a
      obtain ⟨y1, y2, y3, y4, _⟩ := b
      simp [Prod.mk.injEq]
    rw [e] at q
    simp at q
  · exfalso; have q : cmpT a b < -1 := q; omega
  · exfalso; have q : cmpT a b > 1 := q; omega
  · exfalso
    have q1 : ¬ cmpT a b > 0 := q1
    have q2 : ¬ cmpT b c > 0 := q2
    have q3 : ¬ cmpT a c ≤ 0 := q3
    exact q3 (cmpT_trans a b c (by omega) (by omega))
  · exfalso
    have q : ¬ cmpT a b = IntKind.i64.wrap (-cmpT b a) := q
    rw [w] at q; omega
def El9 : Es := (9, Sl9) :: El8
theorem okl9 : SatE P (En (El9)) := SatE.cons (satl9) okl8
/-! ### legation/legationlaw01.TermOrders -/
def Ll10 : Ls := []
def Sl10 := mkS [(true, tmS), (true, tmS)] fun ⟨(a : RowE tmS), (b : RowE tmS), _⟩ => .chk ((a.2.1.length ≤ 140737488355328 ∧ a.2.2.1.length ≤ 140737488355328 ∧ a.2.2.2.1.length ≤ 140737488355328) ∧ b.2.1.length ≤ 140737488355328 ∧ b.2.2.1.length ≤ 140737488355328 ∧ b.2.2.2.1.length ≤ 140737488355328) (bl true)
theorem tl10 (a : RowE tmS) (b : RowE tmS) : evF T (En (El9)) (Ln (Ll10)) Try.f10 [.agg (rowD tmS a), .agg (rowD tmS b)] =
    chk ((List.length a.snd.fst ≤ (140737488355328 : Nat) ∧ List.length a.snd.snd.fst ≤ (140737488355328 : Nat) ∧ List.length a.snd.snd.snd.fst ≤ (140737488355328 : Nat)) ∧ List.length b.snd.fst ≤ (140737488355328 : Nat) ∧ List.length b.snd.snd.fst ≤ (140737488355328 : Nat) ∧ List.length b.snd.snd.snd.fst ≤ (140737488355328 : Nat)) (chk ((List.length a.snd.fst ≤ (140737488355328 : Nat) ∧ List.length a.snd.snd.fst ≤ (140737488355328 : Nat) ∧ List.length a.snd.snd.snd.fst ≤ (140737488355328 : Nat)) ∧ List.length b.snd.fst ≤ (140737488355328 : Nat) ∧ List.length b.snd.snd.fst ≤ (140737488355328 : Nat) ∧ List.length b.snd.snd.snd.fst ≤ (140737488355328 : Nat)) (br (cmpT (a.fst, a.snd.fst, a.snd.snd.fst, a.snd.snd.snd.fst, ()) (b.fst, b.snd.fst, b.snd.snd.fst, b.snd.snd.snd.fst, ()) == cmpT (a.fst, a.snd.fst, a.snd.snd.fst, a.snd.snd.snd.fst, ()) (b.fst, b.snd.fst, b.snd.snd.fst, b.snd.snd.snd.fst, ())) (chk ((List.length a.snd.fst ≤ (140737488355328 : Nat) ∧ List.length a.snd.snd.fst ≤ (140737488355328 : Nat) ∧ List.length a.snd.snd.snd.fst ≤ (140737488355328 : Nat)) ∧ List.length b.snd.fst ≤ (140737488355328 : Nat) ∧ List.length b.snd.snd.fst ≤ (140737488355328 : Nat) ∧ List.length b.snd.snd.snd.fst ≤ (140737488355328 : Nat)) (br (decide (cmpT (a.fst, a.snd.fst, a.snd.snd.fst, a.snd.snd.snd.fst, ()) (b.fst, b.snd.fst, b.snd.snd.fst, b.snd.snd.snd.fst, ()) < (0 : Int)) == decide (cmpT (a.fst, a.snd.fst, a.snd.snd.fst, a.snd.snd.snd.fst, ()) (b.fst, b.snd.fst, b.snd.snd.fst, b.snd.snd.snd.fst, ()) < (0 : Int))) (some (SV.val (AV.d (D.bool true)))) (some (SV.val (AV.d (D.bool false)))))) (some (SV.val (AV.d (D.bool false)))))) := by kernel_rfl
theorem satl10 : Sat P 10 (Sl10) := by
  refine sat_mk (LT := Ln (Ll10)) hC okl9 mixed Try.func10 (by kernel_rfl) (c := bodyOf Try.f10) (by kernel_rfl) (by kernel_rfl) ?_ (loops0 (by kernel_rfl))
  rintro ⟨(a : RowE tmS), (b : RowE tmS), _⟩ sv h
  refine Leads.eq (Leads.of_eq (tl10 a b) ?_)
  obtain ⟨⟨ha, hb⟩, h⟩ := h
  have h := Out_leaf h
  exact Leads.chk ⟨ha, hb⟩ fun _ => Leads.chk ⟨ha, hb⟩ fun _ => Leads.brE (fun _ => Leads.chk ⟨ha, hb⟩ fun _ => Leads.brE (fun _ => Leads.one (by rw [h])) (fun z => absurd rfl z)) (fun z => absurd rfl z)
def El10 : Es := (10, Sl10) :: El9
theorem okl10 : SatE P (En (El10)) := SatE.cons (satl10) okl9
end Go.Proofs.Ytnbjlifmjhlpnaa.T1
