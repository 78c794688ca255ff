/- Part of a proof of the seat's statements: no statement by itself. -/
import Derived.Test.YtfpojhphmgnfhaaQ7E
import Derived.Test.YtfpojhphmgnfhaaSpL
section
set_option maxRecDepth 100000
open Go.Proofs.Ytfpojhphmgnfhaa.Lg Go Go.Proofs.Ytfpojhphmgnfhaa.Sp
open Go.Proofs
namespace Go.Proofs.Ytfpojhphmgnfhaa.T7


abbrev t3S : List Sh := [.int .i64, .str, .str, .str, .int .i64, .str, .str, .str, .int .i64, .str, .str, .str]
/-! ### legation/triples.terms -/
def Lterms : Ls := []
def Sterms := mkS [(true, t3S)] fun ⟨(t : RowE t3S), _⟩ => (.leaf (SV.val (AV.agg [D.int IntKind.i64 t.fst, D.str t.snd.fst, D.str t.snd.snd.fst, D.str t.snd.snd.snd.fst, D.int IntKind.i64 t.snd.snd.snd.snd.fst, D.str t.snd.snd.snd.snd.snd.fst, D.str t.snd.snd.snd.snd.snd.snd.fst, D.str t.snd.snd.snd.snd.snd.snd.snd.fst, D.int IntKind.i64 t.snd.snd.snd.snd.snd.snd.snd.snd.fst, D.str t.snd.snd.snd.snd.snd.snd.snd.snd.snd.fst, D.str t.snd.snd.snd.snd.snd.snd.snd.snd.snd.snd.fst, D.str t.snd.snd.snd.snd.snd.snd.snd.snd.snd.snd.snd.fst])))
theorem tterms (t : RowE t3S) : evF T (En (E12)) (Ln (Lterms)) Try.f89 [.agg (rowD t3S t)] =
    some (SV.val (AV.agg [D.int IntKind.i64 t.fst, D.str t.snd.fst, D.str t.snd.snd.fst, D.str t.snd.snd.snd.fst, D.int IntKind.i64 t.snd.snd.snd.snd.fst, D.str t.snd.snd.snd.snd.snd.fst, D.str t.snd.snd.snd.snd.snd.snd.fst, D.str t.snd.snd.snd.snd.snd.snd.snd.fst, D.int IntKind.i64 t.snd.snd.snd.snd.snd.snd.snd.snd.fst, D.str t.snd.snd.snd.snd.snd.snd.snd.snd.snd.fst, D.str t.snd.snd.snd.snd.snd.snd.snd.snd.snd.snd.fst, D.str t.snd.snd.snd.snd.snd.snd.snd.snd.snd.snd.snd.fst])) := by kernel_rfl
theorem satterms : Sat P 89 (Sterms) := by
  refine sat_mk (LT := Ln (Lterms)) hC ok12 mixed Try.func89 (by kernel_rfl) (c := bodyOf Try.f89) (by kernel_rfl) (by kernel_rfl) ?_ (loops0 (by kernel_rfl))
  rintro ⟨(t : RowE t3S), _⟩ sv h
  exact (tterms t).trans (Tr.run_out (K := fun z => some z) h)
def Eterms : Es := (89, Sterms) :: E12
theorem okterms : SatE P (En (Eterms)) := SatE.cons (satterms) ok12
/-! ### legation/triples.right -/
def lstright_0 : LoopS := mkU 4
def Ltright : Ls := [(2, lstright_0)]
def Stright := mkS [(true, t3S)] fun ⟨(t : RowE t3S), _⟩ => .chk (sz3 140737488355328 t) (bl (all3 t))
theorem ttright (t : RowE t3S) : evF T (En (Eterms)) (Ln (Ltright)) Try.f65 [.agg (rowD t3S t)] =
    chk ((0 : Int) ≤ (0 : Int) ∧ (0 : Int) < (↑(3 : Nat) : Int)) (chk (List.length t.snd.fst ≤ Big ∧ List.length t.snd.snd.fst ≤ Big ∧ List.length t.snd.snd.snd.fst ≤ Big) (br ((if right t.fst t.snd.fst t.snd.snd.fst t.snd.snd.snd.fst = true then (0 : Int) else (2 : Int)) != (0 : Int)) (some (SV.val (AV.d (D.bool false)))) (chk ((0 : Int) ≤ IntKind.i64.wrap ((0 : Int) + (1 : Int)) ∧ IntKind.i64.wrap ((0 : Int) + (1 : Int)) < (↑(3 : Nat) : Int)) (chk (List.length t.snd.snd.snd.snd.snd.fst ≤ Big ∧ List.length t.snd.snd.snd.snd.snd.snd.fst ≤ Big ∧ List.length t.snd.snd.snd.snd.snd.snd.snd.fst ≤ Big) (br ((if right t.snd.snd.snd.snd.fst t.snd.snd.snd.snd.snd.fst t.snd.snd.snd.snd.snd.snd.fst t.snd.snd.snd.snd.snd.snd.snd.fst = true then (0 : Int) else (2 : Int)) != (0 : Int)) (some (SV.val (AV.d (D.bool false)))) (chk ((0 : Int) ≤ IntKind.i64.wrap (IntKind.i64.wrap ((0 : Int) + (1 : Int)) + (1 : Int)) ∧ IntKind.i64.wrap (IntKind.i64.wrap ((0 : Int) + (1 : Int)) + (1 : Int)) < (↑(3 : Nat) : Int)) (chk (List.length t.snd.snd.snd.snd.snd.snd.snd.snd.snd.fst ≤ Big ∧ List.length t.snd.snd.snd.snd.snd.snd.snd.snd.snd.snd.fst ≤ Big ∧ List.length t.snd.snd.snd.snd.snd.snd.snd.snd.snd.snd.snd.fst ≤ Big) (br ((if right t.snd.snd.snd.snd.snd.snd.snd.snd.fst t.snd.snd.snd.snd.snd.snd.snd.snd.snd.fst t.snd.snd.snd.snd.snd.snd.snd.snd.snd.snd.fst t.snd.snd.snd.snd.snd.snd.snd.snd.snd.snd.snd.fst = true then (0 : Int) else (2 : Int)) != (0 : Int)) (some (SV.val (AV.d (D.bool false)))) (some (SV.val (AV.d (D.bool true)))))))))))) := by kernel_rfl
theorem sattright : Sat P 65 (Stright) := by
  refine sat_mk (LT := Ln (Ltright)) hC okterms mixed Try.func65 (by kernel_rfl) (c := bodyOf Try.f65) (by kernel_rfl) (by kernel_rfl) ?_ (loops1 (by kernel_rfl) (loopU (n := 4) (c := loopAt 0 (loops (bodyOf Try.f65))) (by kernel_rfl)))
  rintro ⟨(t : RowE t3S), _⟩ sv h
  refine Leads.eq (Leads.of_eq (ttright t) ?_)
  obtain ⟨⟨s1, s2, s3⟩, h⟩ := h
  have h := Out_leaf h
  have hB := Big_eq
  refine Leads.chk ⟨by decide, by decide⟩ fun _ => Leads.chk (by omega) fun _ => Leads.brN (fun q1 => Leads.chk ⟨by decide, by decide⟩ fun _ => Leads.chk (by omega) fun _ => Leads.brN (fun q2 => Leads.chk ⟨by decide, by decide⟩ fun _ => Leads.chk (by omega) fun _ => Leads.brN (fun q3 => Leads.one ?_) (fun q3 => Leads.one ?_)) (fun q2 => Leads.one ?_)) (fun q1 => Leads.one ?_)
  · rw [h, all3_t (if00 q1) (if00 q2) (if00 q3)]
  · rw [h, all3_3 (if02 q3)]
  · rw [h, all3_2 (if02 q2)]
  · rw [h, all3_1 (if02 q1)]
def Etright : Es := (65, Stright) :: Eterms
theorem oktright : SatE P (En (Etright)) := SatE.cons (sattright) okterms
/-! ### legation/triples.CheckPattern -/
def LtCheckP : Ls := []
def StCheckP := mkS [(true, t3S)] fun ⟨(t : RowE t3S), _⟩ => .chk (sz3 140737488355328 t) (ii (if pat t = true then 0 else 2))
theorem ttCheckP (t : RowE t3S) : evF T (En (Etright)) (Ln (LtCheckP)) Try.f43 [.agg (rowD t3S t)] =
    chk (sz3 (140737488355328 : Nat) (t.fst, t.snd.fst, t.snd.snd.fst, t.snd.snd.snd.fst, t.snd.snd.snd.snd.fst, t.snd.snd.snd.snd.snd.fst, t.snd.snd.snd.snd.snd.snd.fst, t.snd.snd.snd.snd.snd.snd.snd.fst, t.snd.snd.snd.snd.snd.snd.snd.snd.fst, t.snd.snd.snd.snd.snd.snd.snd.snd.snd.fst, t.snd.snd.snd.snd.snd.snd.snd.snd.snd.snd.fst, t.snd.snd.snd.snd.snd.snd.snd.snd.snd.snd.snd.fst, ())) (br (!all3 (t.fst, t.snd.fst, t.snd.snd.fst, t.snd.snd.snd.fst, t.snd.snd.snd.snd.fst, t.snd.snd.snd.snd.snd.fst, t.snd.snd.snd.snd.snd.snd.fst, t.snd.snd.snd.snd.snd.snd.snd.fst, t.snd.snd.snd.snd.snd.snd.snd.snd.fst, t.snd.snd.snd.snd.snd.snd.snd.snd.snd.fst, t.snd.snd.snd.snd.snd.snd.snd.snd.snd.snd.fst, t.snd.snd.snd.snd.snd.snd.snd.snd.snd.snd.snd.fst, ())) (some (SV.val (AV.d (D.int IntKind.i64 (2 : Int))))) (br (t.fst != (1 : Int)) (br (t.fst != (4 : Int)) (some (SV.val (AV.d (D.int IntKind.i64 (2 : Int))))) (br (t.snd.snd.snd.snd.fst != (1 : Int)) (br (t.snd.snd.snd.snd.fst != (4 : Int)) (some (SV.val (AV.d (D.int IntKind.i64 (2 : Int))))) (br (t.snd.snd.snd.snd.snd.snd.snd.snd.fst == (0 : Int)) (some (SV.val (AV.d (D.int IntKind.i64 (2 : Int))))) (br (t.snd.snd.snd.snd.snd.snd.snd.snd.fst == (3 : Int)) (some (SV.val (AV.d (D.int IntKind.i64 (2 : Int))))) (some (SV.val (AV.d (D.int IntKind.i64 (0 : Int)))))))) (br (t.snd.snd.snd.snd.snd.snd.snd.snd.fst == (0 : Int)) (some (SV.val (AV.d (D.int IntKind.i64 (2 : Int))))) (br (t.snd.snd.snd.snd.snd.snd.snd.snd.fst == (3 : Int)) (some (SV.val (AV.d (D.int IntKind.i64 (2 : Int))))) (some (SV.val (AV.d (D.int IntKind.i64 (0 : Int))))))))) (br (t.snd.snd.snd.snd.fst != (1 : Int)) (br (t.snd.snd.snd.snd.fst != (4 : Int)) (some (SV.val (AV.d (D.int IntKind.i64 (2 : Int))))) (br (t.snd.snd.snd.snd.snd.snd.snd.snd.fst == (0 : Int)) (some (SV.val (AV.d (D.int IntKind.i64 (2 : Int))))) (br (t.snd.snd.snd.snd.snd.snd.snd.snd.fst == (3 : Int)) (some (SV.val (AV.d (D.int IntKind.i64 (2 : Int))))) (some (SV.val (AV.d (D.int IntKind.i64 (0 : Int)))))))) (br (t.snd.snd.snd.snd.snd.snd.snd.snd.fst == (0 : Int)) (some (SV.val (AV.d (D.int IntKind.i64 (2 : Int))))) (br (t.snd.snd.snd.snd.snd.snd.snd.snd.fst == (3 : Int)) (some (SV.val (AV.d (D.int IntKind.i64 (2 : Int))))) (some (SV.val (AV.d (D.int IntKind.i64 (0 : Int)))))))))) := by kernel_rfl
theorem sattCheckP : Sat P 43 (StCheckP) := by
  refine sat_mk (LT := Ln (LtCheckP)) hC oktright mixed Try.func43 (by kernel_rfl) (c := bodyOf Try.f43) (by kernel_rfl) (by kernel_rfl) ?_ (loops0 (by kernel_rfl))
  rintro ⟨(t : RowE t3S), _⟩ sv h
  refine Leads.eq (Leads.of_eq (ttCheckP t) ?_)
  obtain ⟨hs, h⟩ := h
  have h := Out_leaf h
  refine Leads.chk hs fun _ => Leads.brG (fun q => ?_) (fun q => ?_)
  · have q : all3 t = true := q
    rw [pat_of q] at h
    have qk := right_k (all3_o q)
    repeat' (first | refine Leads.brD (fun _ => ?_) (fun _ => ?_) | refine Leads.brE (fun _ => ?_) (fun _ => ?_) | refine Leads.brN (fun _ => ?_) (fun _ => ?_) | refine Leads.brM (fun _ => ?_) (fun _ => ?_) | refine Leads.brG (fun _ => ?_) (fun _ => ?_) | refine Leads.br (fun _ => ?_) (fun _ => ?_) | refine Leads.chk ?_ (fun _ => ?_) | refine Leads.one ?_ | refine Leads.brP (fun _ => ?_) (fun _ => ?_))
    all_goals rw [h]
    all_goals first | (rw [patK_a (by assumption) (by assumption)]; rfl) | (rw [patK_b (by assumption) (by assumption)]; rfl) | (rw [patK_n (.inl (by assumption))]; rfl) | (rw [patK_n (.inr (by assumption))]; rfl) | skip
    all_goals (rw [patK_y (by first | exact .inl (by assumption) | exact .inr (by assumption)) (by first | exact .inl (by assumption) | exact .inr (by assumption)) qk (by assumption) (by assumption)]; rfl)
  · have q : all3 t = false := q
    rw [pat_no q] at h
    exact Leads.one (by rw [h]; rfl)
def EtCheckP : Es := (43, StCheckP) :: Etright
theorem oktCheckP : SatE P (En (EtCheckP)) := SatE.cons (sattCheckP) oktright
/-! ### legation/legationref03.RightPattern -/
def Lr3_RightPattern : Ls := []
def Sr3_RightPattern := mkS [(true, t3S)] fun ⟨(t : RowE t3S), _⟩ => .chk (sz3 140737488355328 t) (bl (pat t))
theorem tr3_RightPattern (t : RowE t3S) : evF T (En (EtCheckP)) (Ln (Lr3_RightPattern)) Try.f51 [.agg (rowD t3S t)] =
    chk (List.length t.snd.fst ≤ Big ∧ List.length t.snd.snd.fst ≤ Big ∧ List.length t.snd.snd.snd.fst ≤ Big) (br (!right t.fst t.snd.fst t.snd.snd.fst t.snd.snd.snd.fst) (some (SV.val (AV.d (D.bool false)))) (chk (List.length t.snd.snd.snd.snd.snd.fst ≤ Big ∧ List.length t.snd.snd.snd.snd.snd.snd.fst ≤ Big ∧ List.length t.snd.snd.snd.snd.snd.snd.snd.fst ≤ Big) (br (!right t.snd.snd.snd.snd.fst t.snd.snd.snd.snd.snd.fst t.snd.snd.snd.snd.snd.snd.fst t.snd.snd.snd.snd.snd.snd.snd.fst) (some (SV.val (AV.d (D.bool false)))) (chk (List.length t.snd.snd.snd.snd.snd.snd.snd.snd.snd.fst ≤ Big ∧ List.length t.snd.snd.snd.snd.snd.snd.snd.snd.snd.snd.fst ≤ Big ∧ List.length t.snd.snd.snd.snd.snd.snd.snd.snd.snd.snd.snd.fst ≤ Big) (br (!right t.snd.snd.snd.snd.snd.snd.snd.snd.fst t.snd.snd.snd.snd.snd.snd.snd.snd.snd.fst t.snd.snd.snd.snd.snd.snd.snd.snd.snd.snd.fst t.snd.snd.snd.snd.snd.snd.snd.snd.snd.snd.snd.fst) (some (SV.val (AV.d (D.bool false)))) (br (t.fst == (1 : Int)) (br (t.snd.snd.snd.snd.fst == (1 : Int)) (br (t.snd.snd.snd.snd.snd.snd.snd.snd.fst == (1 : Int)) (some (SV.val (AV.d (D.bool true)))) (br (t.snd.snd.snd.snd.snd.snd.snd.snd.fst == (2 : Int)) (some (SV.val (AV.d (D.bool true)))) (some (SV.val (AV.d (D.bool (t.snd.snd.snd.snd.snd.snd.snd.snd.fst == (4 : Int)))))))) (br (t.snd.snd.snd.snd.fst == (4 : Int)) (br (t.snd.snd.snd.snd.snd.snd.snd.snd.fst == (1 : Int)) (some (SV.val (AV.d (D.bool true)))) (br (t.snd.snd.snd.snd.snd.snd.snd.snd.fst == (2 : Int)) (some (SV.val (AV.d (D.bool true)))) (some (SV.val (AV.d (D.bool (t.snd.snd.snd.snd.snd.snd.snd.snd.fst == (4 : Int)))))))) (some (SV.val (AV.d (D.bool false)))))) (br (t.fst == (4 : Int)) (br (t.snd.snd.snd.snd.fst == (1 : Int)) (br (t.snd.snd.snd.snd.snd.snd.snd.snd.fst == (1 : Int)) (some (SV.val (AV.d (D.bool true)))) (br (t.snd.snd.snd.snd.snd.snd.snd.snd.fst == (2 : Int)) (some (SV.val (AV.d (D.bool true)))) (some (SV.val (AV.d (D.bool (t.snd.snd.snd.snd.snd.snd.snd.snd.fst == (4 : Int)))))))) (br (t.snd.snd.snd.snd.fst == (4 : Int)) (br (t.snd.snd.snd.snd.snd.snd.snd.snd.fst == (1 : Int)) (some (SV.val (AV.d (D.bool true)))) (br (t.snd.snd.snd.snd.snd.snd.snd.snd.fst == (2 : Int)) (some (SV.val (AV.d (D.bool true)))) (some (SV.val (AV.d (D.bool (t.snd.snd.snd.snd.snd.snd.snd.snd.fst == (4 : Int)))))))) (some (SV.val (AV.d (D.bool false)))))) (some (SV.val (AV.d (D.bool false))))))))))) := by kernel_rfl
theorem satr3_RightPattern : Sat P 51 (Sr3_RightPattern) := by
  refine sat_mk (LT := Ln (Lr3_RightPattern)) hC oktCheckP mixed Try.func51 (by kernel_rfl) (c := bodyOf Try.f51) (by kernel_rfl) (by kernel_rfl) ?_ (loops0 (by kernel_rfl))
  rintro ⟨(t : RowE t3S), _⟩ sv h
  refine Leads.eq (Leads.of_eq (tr3_RightPattern t) ?_)
  obtain ⟨⟨s1, s2, s3⟩, h⟩ := h
  have h := Out_leaf h
  have hB := Big_eq
  refine Leads.chk (by omega) fun _ => Leads.brG (fun q1 => Leads.chk (by omega) fun _ => Leads.brG (fun q2 => Leads.chk (by omega) fun _ => Leads.brG (fun q3 => ?_) (fun q3 => Leads.one ?_)) (fun q2 => Leads.one ?_)) (fun q1 => Leads.one ?_)
  · rw [pat_of (all3_t q1 q2 q3)] at h
    clear s1 s2 s3 hB
    repeat' (first | refine Leads.brD (fun _ => ?_) (fun _ => ?_) | refine Leads.brE (fun _ => ?_) (fun _ => ?_) | refine Leads.brN (fun _ => ?_) (fun _ => ?_) | refine Leads.brM (fun _ => ?_) (fun _ => ?_) | refine Leads.brG (fun _ => ?_) (fun _ => ?_) | refine Leads.br (fun _ => ?_) (fun _ => ?_) | refine Leads.chk ?_ (fun _ => ?_) | refine Leads.one ?_ | refine Leads.brP (fun _ => ?_) (fun _ => ?_))
    all_goals rw [h]
    all_goals first | (rw [patK_a (by assumption) (by assumption)]; done) | (rw [patK_b (by assumption) (by assumption)]; done) | (rw [patK_1 (by first | exact .inl (by assumption) | exact .inr (by assumption)) (by first | exact .inl (by assumption) | exact .inr (by assumption)) (by assumption)]; done) | (rw [patK_2 (by first | exact .inl (by assumption) | exact .inr (by assumption)) (by first | exact .inl (by assumption) | exact .inr (by assumption)) (by assumption)]; done) | (rw [patK_e (by first | exact .inl (by assumption) | exact .inr (by assumption)) (by first | exact .inl (by assumption) | exact .inr (by assumption)) (by assumption) (by assumption)]; rfl)
  · rw [h, pat_no (all3_3 q3)]
  · rw [h, pat_no (all3_2 q2)]
  · rw [h, pat_no (all3_1 q1)]
def Er3_RightPattern : Es := (51, Sr3_RightPattern) :: EtCheckP
theorem okr3_RightPattern : SatE P (En (Er3_RightPattern)) := SatE.cons (satr3_RightPattern) oktCheckP
end Go.Proofs.Ytfpojhphmgnfhaa.T7
end

section
set_option maxRecDepth 100000
open Go.Proofs.Ytfpojhphmgnfhaa.Lg Go Go.Proofs.Ytfpojhphmgnfhaa.Sp
open Go.Proofs
namespace Go.Proofs.Ytfpojhphmgnfhaa.T7


/-! ### legation/legationref03.SameTexts -/
def lkr3_SameTexts_0 : St [.v false [.sl [.str]], .v false [.sl [.str]], .v false [.int .i64]] → Prop := fun ⟨⟨(a : List (RowE [.str])), _⟩, ⟨(b : List (RowE [.str])), _⟩, ⟨(i : Int), _⟩, _⟩ => 0 ≤ i ∧ i ≤ (a.length : Int) ∧ a.length = b.length ∧ a.length ≤ 1152921504606846976
def lgr3_SameTexts_0 : St [.v false [.sl [.str]], .v false [.sl [.str]], .v false [.int .i64]] → Tr (Ex × List SV) := fun ⟨⟨(a : List (RowE [.str])), _⟩, ⟨(b : List (RowE [.str])), _⟩, ⟨(i : Int), _⟩, _⟩ => .br (sameT1 (a.drop i.toNat) (b.drop i.toNat)) (.leaf (.exit 0, [])) (.leaf (.ret, [.val (.d (.bool  (false)))]))
def lmr3_SameTexts_0 : St [.v false [.sl [.str]], .v false [.sl [.str]], .v false [.int .i64]] → Nat := fun ⟨⟨(a : List (RowE [.str])), _⟩, ⟨(b : List (RowE [.str])), _⟩, ⟨(i : Int), _⟩, _⟩ => a.length - i.toNat
def lsr3_SameTexts_0 : LoopS := mkR [0, 1, 5] [] [4] [.v false [.sl [.str]], .v false [.sl [.str]], .v false [.int .i64]] (fun r => .chk (lkr3_SameTexts_0 r) (lgr3_SameTexts_0 r))
def Lr3_SameTexts : Ls := [(4, lsr3_SameTexts_0)]
def Sr3_SameTexts := mkS [(false, [.sl [.str]]), (false, [.sl [.str]])] fun ⟨⟨(a : List (RowE [.str])), _⟩, ⟨(b : List (RowE [.str])), _⟩, _⟩ => .chk (a.length ≤ 1152921504606846976 ∧ b.length ≤ 1152921504606846976) (bl (sameX a b))
theorem ltr3_SameTexts_0 (a : List (RowE [.str])) (b : List (RowE [.str])) (i : Int) : evRound T (En (Er3_RightPattern)) (Ln (Lr3_SameTexts)) (loopAt 0 (loops (bodyOf Try.f22))) (lsr3_SameTexts_0) [.val (.d (.sl [.str] a)), .val (.d (.sl [.str] b)), .val (.d (.int .i64 i))] =
    br (decide (i < (↑a.length : Int))) (chk ((0 : Int) ≤ i ∧ i < (↑a.length : Int)) (chk ((0 : Int) ≤ i ∧ i < (↑b.length : Int)) (br (!(getR [Sh.str] a i).fst == (getR [Sh.str] b i).fst) (some (Rnd.out Ex.ret [SV.val (AV.d (D.bool false))])) (some (Rnd.again [SV.val (AV.d (D.sl [Sh.str] a)), SV.val (AV.d (D.sl [Sh.str] b)), SV.val (AV.d (D.int IntKind.i64 (IntKind.i64.wrap (i + (1 : Int)))))]))))) (some (Rnd.out (Ex.exit (0 : Nat)) [])) := by kernel_rfl
theorem lokr3_SameTexts_0 : LoopOK T (En (Er3_RightPattern)) (Ln (Lr3_SameTexts)) (loopAt 0 (loops (bodyOf Try.f22))) := by
  refine loop_ok (live := [0, 1, 5]) (outs := []) (rets := [4]) (ks := [.v false [.sl [.str]], .v false [.sl [.str]], .v false [.int .i64]]) (G := lgr3_SameTexts_0) (lkr3_SameTexts_0) (lmr3_SameTexts_0) (by kernel_rfl) ?_
  rintro ⟨⟨(a : List (RowE [.str])), _⟩, ⟨(b : List (RowE [.str])), _⟩, ⟨(i : Int), _⟩, _⟩ x hok hx
  refine Leads.of_eq (ltr3_SameTexts_0 a b i) ?_
  obtain ⟨h0, h1, h2, h3⟩ := hok
  obtain ⟨m, rfl⟩ := Int.eq_ofNat_of_zero_le h0
  simp only [lgr3_SameTexts_0, Int.toNat_natCast] at hx
  rcases drop_cases a m with ⟨hle, hd⟩ | ⟨x1, hlt, hd, hb⟩
  · rw [hd] at hx
    exact Leads.brD (fun q => by omega) (fun _ => Leads.one (Goes.out (Out_leaf (Out_tt hx))))
  rcases drop_cases b m with ⟨hle', hd'⟩ | ⟨x2, hlt', hd', hb'⟩
  · omega
  rw [hd, hd'] at hx
  simp only [sameT1] at hx
  rw [getR_of hb, getR_of hb', wrap64 (by omega) (by omega)]
  refine Leads.brD (fun _ => Leads.chk (by omega) fun _ => Leads.chk (by omega) fun _ => Leads.br (fun e1 => Leads.one (Goes.out ?_)) (fun e1 => Leads.one ?_)) (fun q => by omega)
  · have e1 : (x1.1 == x2.1) = false := by have e1 : (x1.1 != x2.1) = true := e1; simpa using e1
    rw [e1] at hx
    exact Out_leaf (Out_ff hx)
  · have e1 : (x1.1 == x2.1) = true := by have e1 : (x1.1 != x2.1) = false := e1; simpa using e1
    rw [e1, Bool.true_and] at hx
    refine Goes.again (ks := [.v false [.sl [.str]], .v false [.sl [.str]], .v false [.int .i64]]) ((_, ()), (_, ()), (_, ()), ()) rfl ?_ ?_ ?_
    · exact ⟨by omega, by omega, h2, h3⟩
    · simp only [lmr3_SameTexts_0]; omega
    · simp only [lgr3_SameTexts_0, toNat_add1]; exact hx
theorem tr3_SameTexts (a : List (RowE [.str])) (b : List (RowE [.str])) : evF T (En (Er3_RightPattern)) (Ln (Lr3_SameTexts)) Try.f22 [.d (.sl [.str] a), .d (.sl [.str] b)] =
    br ((↑a.length : Int) != (↑b.length : Int)) (some (SV.val (AV.d (D.bool false)))) (chk (lkr3_SameTexts_0 ((a, ()), (b, ()), ((0 : Int), ()), ())) (br (sameT1 (List.drop (Int.toNat (0 : Int)) a) (List.drop (Int.toNat (0 : Int)) b)) (some (SV.val (AV.d (D.bool true)))) (some (SV.val (AV.d (D.bool false)))))) := by kernel_rfl
theorem satr3_SameTexts : Sat P 22 (Sr3_SameTexts) := by
  refine sat_mk (LT := Ln (Lr3_SameTexts)) hC okr3_RightPattern mixed Try.func22 (by kernel_rfl) (c := bodyOf Try.f22) (by kernel_rfl) (by kernel_rfl) ?_ (loops1 (by kernel_rfl) (lokr3_SameTexts_0))
  rintro ⟨⟨(a : List (RowE [.str])), _⟩, ⟨(b : List (RowE [.str])), _⟩, _⟩ sv h
  refine Leads.eq (Leads.of_eq (tr3_SameTexts a b) ?_)
  obtain ⟨⟨hs1, hs2⟩, h⟩ := h
  have h := Out_leaf h
  refine Leads.brN (fun e => Leads.chk ⟨by omega, by omega, by omega, hs1⟩ fun _ => Leads.br (fun z => Leads.one ?_) (fun z => Leads.one ?_)) (fun e => Leads.one ?_)
  · have z : sameT1 a b = true := z
    have e : (a.length : Int) = b.length := e
    rw [h, sameX, z, decide_eq_true (by omega)]; rfl
  · have z : sameT1 a b = false := z
    rw [h, sameX, z]; simp
  · have e : ¬ (a.length : Int) = b.length := e
    rw [h, sameX, decide_eq_false (by omega)]; rfl
def Er3_SameTexts : Es := (22, Sr3_SameTexts) :: Er3_RightPattern
theorem okr3_SameTexts : SatE P (En (Er3_SameTexts)) := SatE.cons (satr3_SameTexts) okr3_RightPattern

end Go.Proofs.Ytfpojhphmgnfhaa.T7
end
