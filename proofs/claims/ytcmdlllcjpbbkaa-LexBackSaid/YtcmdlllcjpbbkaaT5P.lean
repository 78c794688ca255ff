/- Part of a proof of the seat's statements: no statement by itself. -/
import Derived.Test.YtcmdlllcjpbbkaaT5O
import Derived.Test.YtcmdlllcjpbbkaaSpM
set_option maxRecDepth 100000
open Go.Proofs.Ytcmdlllcjpbbkaa.Lg Go Go.Proofs.Ytcmdlllcjpbbkaa.Sp
open Go.Proofs
namespace Go.Proofs.Ytcmdlllcjpbbkaa.T5


/-! ### legation/legationlaw05.LexBack -/
def Ll7 : Ls := []
def Sl7 := mkS [(false, [.str])] fun ⟨⟨(s : List UInt8), _⟩, _⟩ => .chk (s.length ≤ 140737488351232) (bl true)
theorem tl7 (s : List UInt8) : evF T (En (El6)) (Ln (Ll7)) Try.f7 [.d (.str s)] =
    chk (s.length ≤ (140737488351232 : Nat)) (br ((lexS s).snd.snd != (0 : Int)) (br ((↑(lexS s).fst.length : Int) == (0 : Int)) (some (SV.val (AV.d (D.bool true)))) (some (SV.val (AV.d (D.bool false))))) (chk (allW (lexS s).fst ∧ (lexS s).fst.length ≤ (140737488355328 : Nat) ∧ List.length (joinF (lexS s).fst) ≤ (1152921504606846976 : Nat)) (br (decide ((↑(List.length (joinS (lexS s).fst)) : Int) > (4096 : Int))) (some (SV.val (AV.d (D.bool true)))) (chk (List.length (joinS (lexS s).fst) ≤ (140737488351232 : Nat)) (br ((lexS (joinS (lexS s).fst)).snd.snd == (0 : Int)) (chk ((lexS s).fst.length ≤ (1152921504606846976 : Nat) ∧ (lexS (joinS (lexS s).fst)).fst.length ≤ (1152921504606846976 : Nat)) (br (sameS (lexS s).fst (lexS (joinS (lexS s).fst)).fst false) (some (SV.val (AV.d (D.bool true)))) (some (SV.val (AV.d (D.bool false)))))) (some (SV.val (AV.d (D.bool false))))))))) := by kernel_rfl
theorem satl7 : Sat P 7 (Sl7) := by
  refine sat_mk (LT := Ln (Ll7)) hC okl6 mixed Try.func7 (by kernel_rfl) (c := bodyOf Try.f7) (by kernel_rfl) (by kernel_rfl) ?_ (loops0 (by kernel_rfl))
  rintro ⟨⟨(s : List UInt8), _⟩, _⟩ sv h
  refine Leads.eq (Leads.of_eq (tl7 s) ?_)
  obtain ⟨hs, h⟩ := h
  have h := Out_leaf h
  refine Leads.chk hs fun _ => Leads.brN (fun q => ?_) (fun q => ?_)
  · obtain ⟨hl4, e1, e2⟩ := lexS_ok q
    have hg := lexR_good s.length s 0 (by omega) (by omega) hl4
    have hlen := lexR_len s.length s 0 (by omega) (by omega)
    have hj := joinF_len _ hg
    rw [e1]
    obtain ⟨j1, j2⟩ := lexR_joinS _ hg
    refine Leads.chk ⟨fun t ht => (hg t ht).1, by omega, by omega⟩ fun _ => Leads.brD (fun _ => Leads.one (by rw [h])) (fun z => ?_)
    have hls := lexS_eq (joinS (lexR s 0).1) (by omega)
    rw [j1] at hls
    have hl2 := lexR_len (joinS (lexR s 0).1).length (joinS (lexR s 0).1) 0 (by omega) (by omega)
    rw [hls]
    exact Leads.chk (by omega) fun _ => Leads.brE (fun _ => Leads.chk ⟨by omega, by show (lexR (joinS (lexR s 0).1) 0).1.length ≤ _; omega⟩ fun _ => Leads.br (fun _ => Leads.one (by rw [h])) (fun y => by have y : sameS (lexR s 0).1 (lexR (joinS (lexR s 0).1) 0).1 false = false := y; rw [j2] at y; cases y)) (fun y => absurd rfl y)
  · have hb := lexS_bad (s := s) q
    rw [hb]
    exact Leads.brE (fun _ => Leads.one (by rw [h])) (fun z => absurd rfl z)
def El7 : Es := (7, Sl7) :: El6
theorem okl7 : SatE P (En (El7)) := SatE.cons (satl7) okl6
end Go.Proofs.Ytcmdlllcjpbbkaa.T5
