/- Part of a proof of the seat's statements: no statement by itself. -/
import Derived.Test.YtglchbjdjnffcaaQ3C
import Derived.Test.YtglchbjdjnffcaaSpD
set_option maxRecDepth 100000
open Go.Proofs.Ytglchbjdjnffcaa.Lg Go Go.Proofs.Ytglchbjdjnffcaa.Sp
open Go.Proofs
namespace Go.Proofs.Ytglchbjdjnffcaa.T3


/-! ### internal/bytealg.abigen_runtime_cmpstring -/
def Lxcmp : Ls := []
def Sxcmp := mkS [(false, [.str]), (false, [.str])] fun ⟨⟨(a : List UInt8), _⟩, ⟨(b : List UInt8), _⟩, _⟩ => .leaf (.val (.d (.int .i64 (Lib.compareBytes a b))))
theorem satxcmp : SatX P 80 Sxcmp := satX_cmpString Try.func80 (by kernel_rfl) (by kernel_rfl) (by kernel_rfl) (by kernel_rfl)
def Excmp : Es := (80, Sxcmp) :: Er1_Compare
theorem okxcmp : SatE P (En Excmp) := SatE.consX satxcmp okr1_Compare
/-! ### internal/bytealg.CompareString -/
def Lb_cmp : Ls := []
def Sb_cmp := mkS [(false, [.str]), (false, [.str])] fun ⟨⟨(a : List UInt8), _⟩, ⟨(b : List UInt8), _⟩, _⟩ => (.leaf (SV.val (AV.d (D.int IntKind.i64 (Lib.compareBytes a b)))))
theorem tb_cmp (a : List UInt8) (b : List UInt8) : evF T (En (Excmp)) (Ln (Lb_cmp)) Try.f68 [.d (.str a), .d (.str b)] =
    some (SV.val (AV.d (D.int IntKind.i64 (Lib.compareBytes a b)))) := by kernel_rfl
theorem satb_cmp : Sat P 68 (Sb_cmp) := by
  refine sat_mk (LT := Ln (Lb_cmp)) hC okxcmp mixed Try.func68 (by kernel_rfl) (c := bodyOf Try.f68) (by kernel_rfl) (by kernel_rfl) ?_ (loops0 (by kernel_rfl))
  rintro ⟨⟨(a : List UInt8), _⟩, ⟨(b : List UInt8), _⟩, _⟩ sv h
  exact (tb_cmp a b).trans (Tr.run_out (K := fun z => some z) h)
def Eb_cmp : Es := (68, Sb_cmp) :: Excmp
theorem okb_cmp : SatE P (En (Eb_cmp)) := SatE.cons (satb_cmp) okxcmp
/-! ### strings.Compare -/
def Ls_cmp : Ls := []
def Ss_cmp := mkS [(false, [.str]), (false, [.str])] fun ⟨⟨(a : List UInt8), _⟩, ⟨(b : List UInt8), _⟩, _⟩ => (.leaf (SV.val (AV.d (D.int IntKind.i64 (Lib.compareBytes a b)))))
theorem ts_cmp (a : List UInt8) (b : List UInt8) : evF T (En (Eb_cmp)) (Ln (Ls_cmp)) Try.f50 [.d (.str a), .d (.str b)] =
    some (SV.val (AV.d (D.int IntKind.i64 (Lib.compareBytes a b)))) := by kernel_rfl
theorem sats_cmp : Sat P 50 (Ss_cmp) := by
  refine sat_mk (LT := Ln (Ls_cmp)) hC okb_cmp mixed Try.func50 (by kernel_rfl) (c := bodyOf Try.f50) (by kernel_rfl) (by kernel_rfl) ?_ (loops0 (by kernel_rfl))
  rintro ⟨⟨(a : List UInt8), _⟩, ⟨(b : List UInt8), _⟩, _⟩ sv h
  exact (ts_cmp a b).trans (Tr.run_out (K := fun z => some z) h)
def Es_cmp : Es := (50, Ss_cmp) :: Eb_cmp
theorem oks_cmp : SatE P (En (Es_cmp)) := SatE.cons (sats_cmp) okb_cmp
/-! ### legation/term.Compare -/
def lsCompare_0 : LoopS := mkU 4
def LCompare : Ls := [(6, lsCompare_0)]
def SCompare := mkS [(true, tmS), (true, tmS)] fun ⟨(a : RowE tmS), (b : RowE tmS), _⟩ => .chk ((a.2.1.length ≤ 140737488355328 ∧ a.2.2.1.length ≤ 140737488355328 ∧ a.2.2.2.1.length ≤ 140737488355328) ∧ b.2.1.length ≤ 140737488355328 ∧ b.2.2.1.length ≤ 140737488355328 ∧ b.2.2.2.1.length ≤ 140737488355328) (ii (cmpT a b))
theorem tCompare (a : RowE tmS) (b : RowE tmS) : evF T (En (Es_cmp)) (Ln (LCompare)) Try.f35 [.agg (rowD tmS a), .agg (rowD tmS b)] =
    br (a.fst != b.fst) (br (decide (a.fst < b.fst)) (some (SV.val (AV.d (D.int IntKind.i64 (-1 : Int))))) (some (SV.val (AV.d (D.int IntKind.i64 (1 : Int)))))) (chk ((0 : Int) ≤ (0 : Int) ∧ (0 : Int) < (↑(3 : Nat) : Int)) (chk ((0 : Int) ≤ (0 : Int) ∧ (0 : Int) < (↑(2 : Nat) : Int)) (chk ((0 : Int) ≤ (1 : Int) ∧ (1 : Int) < (↑(2 : Nat) : Int)) (br (Lib.compareBytes a.snd.fst b.snd.fst != (0 : Int)) (some (SV.val (AV.d (D.int IntKind.i64 (Lib.compareBytes a.snd.fst b.snd.fst))))) (chk ((0 : Int) ≤ IntKind.i64.wrap ((0 : Int) + (1 : Int)) ∧ IntKind.i64.wrap ((0 : Int) + (1 : Int)) < (↑(3 : Nat) : Int)) (chk ((0 : Int) ≤ (0 : Int) ∧ (0 : Int) < (↑(2 : Nat) : Int)) (chk ((0 : Int) ≤ (1 : Int) ∧ (1 : Int) < (↑(2 : Nat) : Int)) (br (Lib.compareBytes a.snd.snd.fst b.snd.snd.fst != (0 : Int)) (some (SV.val (AV.d (D.int IntKind.i64 (Lib.compareBytes a.snd.snd.fst b.snd.snd.fst))))) (chk ((0 : Int) ≤ IntKind.i64.wrap (IntKind.i64.wrap ((0 : Int) + (1 : Int)) + (1 : Int)) ∧ IntKind.i64.wrap (IntKind.i64.wrap ((0 : Int) + (1 : Int)) + (1 : Int)) < (↑(3 : Nat) : Int)) (chk ((0 : Int) ≤ (0 : Int) ∧ (0 : Int) < (↑(2 : Nat) : Int)) (chk ((0 : Int) ≤ (1 : Int) ∧ (1 : Int) < (↑(2 : Nat) : Int)) (br (Lib.compareBytes a.snd.snd.snd.fst b.snd.snd.snd.fst != (0 : Int)) (some (SV.val (AV.d (D.int IntKind.i64 (Lib.compareBytes a.snd.snd.snd.fst b.snd.snd.snd.fst))))) (some (SV.val (AV.d (D.int IntKind.i64 (0 : Int))))))))))))))))) := by kernel_rfl
theorem satCompare : Sat P 35 (SCompare) := by
  refine sat_mk (LT := Ln (LCompare)) hC oks_cmp mixed Try.func35 (by kernel_rfl) (c := bodyOf Try.f35) (by kernel_rfl) (by kernel_rfl) ?_ (loops1 (by kernel_rfl) (loopU (n := 4) (c := loopAt 0 (loops (bodyOf Try.f35))) (by kernel_rfl)))
  rintro ⟨(a : RowE tmS), (b : RowE tmS), _⟩ sv h
  refine Leads.eq (Leads.of_eq (tCompare a b) ?_)
  obtain ⟨_, h⟩ := h
  have h := Out_leaf h
  have w1 : IntKind.i64.wrap (0 + 1) = 1 := rfl
  have w2 : IntKind.i64.wrap (1 + 1) = 2 := rfl
  rw [w1, w2]
  refine Leads.brN (fun q => Leads.chk (by decide) fun _ => Leads.chk (by decide) fun _ => Leads.chk (by decide) fun _ => Leads.brN (fun q1 => Leads.chk (by decide) fun _ => Leads.chk (by decide) fun _ => Leads.chk (by decide) fun _ => Leads.brN (fun q2 => Leads.chk (by decide) fun _ => Leads.chk (by decide) fun _ => Leads.chk (by decide) fun _ => Leads.brN (fun q3 => Leads.one ?_) (fun q3 => Leads.one ?_)) (fun q2 => Leads.one ?_)) (fun q1 => Leads.one ?_)) (fun q => Leads.brD (fun q1 => Leads.one ?_) (fun q1 => Leads.one ?_))
  all_goals rw [h]
  · simp [cmpT, q, q1, q2, q3]
  · simp [cmpT, q, q1, q2]
  · simp [cmpT, q, q1, q2]
  · simp [cmpT, q, q1]
  · have q1 : a.1 < b.1 := q1
    simp [cmpT, q1]
  · have q1 : ¬ a.1 < b.1 := q1
    have q2 : b.1 < a.1 := (Int.lt_trichotomy a.1 b.1).elim (fun z => absurd z q1) (fun z => z.elim (fun e => absurd e q) (fun z => z))
    simp [cmpT, q1, q2]
def ECompare : Es := (35, SCompare) :: Es_cmp
theorem okCompare : SatE P (En (ECompare)) := SatE.cons (satCompare) oks_cmp

end Go.Proofs.Ytglchbjdjnffcaa.T3
