/- Part of a proof of the seat's statements: no statement by itself. -/
import Derived.Test.YtoopcfjmmhmamaaT6B
import Derived.Test.YtoopcfjmmhmamaaSpQ2
set_option maxRecDepth 100000
open Go.Proofs.Ytoopcfjmmhmamaa.Lg Go Go.Proofs.Ytoopcfjmmhmamaa.Sp
open Go.Proofs
namespace Go.Proofs.Ytoopcfjmmhmamaa.T6


theorem noL (vs : List SV) (x : SV × List SV) : ¬ ((SpL 0).f vs).Out x := by
  intro h
  obtain ⟨r, _, h⟩ := mkO_out h
  obtain ⟨p, ⟨n, _⟩, _⟩ := r
  obtain ⟨⟨_, _, _, h⟩, _⟩ := h
  simp [pf] at h
theorem noS (vs : List SV) (x : SV × List SV) : ¬ ((SpS 0).f vs).Out x := by
  intro h
  obtain ⟨r, _, h⟩ := mkO_out h
  obtain ⟨p, _⟩ := r
  obtain ⟨⟨_, h⟩, _⟩ := h
  simp [pf] at h
theorem okER : ∀ N, SatE P (En (ER N))
  | 0 => SatE.consO (satO_zero Try.func22 (by kernel_rfl) (c := bodyOf Try.f22) (by kernel_rfl) noL) (SatE.consO (satO_zero Try.func33 (by kernel_rfl) (c := bodyOf Try.f33) (by kernel_rfl) noS) okNeeds)
  | N + 1 => SatE.consO (satp_level N (okER N)) (SatE.consO (satp_signed N (okER N)) okNeeds)
theorem satLv (N : Nat) : SatO P 22 (SpL N) := match N with
  | 0 => satO_zero Try.func22 (by kernel_rfl) (c := bodyOf Try.f22) (by kernel_rfl) noL
  | N + 1 => satp_level N (okER N)
def SpW := mkO [true, false] [.box psK, .v false [.int .i64]] fun ⟨(p : KCs psK), ⟨(n : Int), _⟩, _⟩ => .chk (szP p ∧ 0 ≤ n ∧ n ≤ 5) (.leaf (.val (.tup []), [.box true (KCs.svs psK (pfW n p))]))
theorem satW : SatO P 22 SpW := satO_lim (S := fun N => (SpL N).f) satLv (fun vs x h => by
  obtain ⟨r, hr, h⟩ := mkO_out (own := [true, false]) h
  obtain ⟨p, ⟨n, _⟩, _⟩ := r
  obtain ⟨⟨hs, h0, h5⟩, h⟩ := h
  have hx := Out_leaf h
  have hp := pfW_some h0 (by omega) (szP_in hs)
  refine ⟨fuelP p, ?_⟩
  subst hr hx
  exact ⟨⟨hs, h0, h5, isSome_e hp⟩, by rw [pfD_e hp]; rfl⟩)
def EW : Es := (22, .o SpW) :: ENeeds
theorem okW : SatE P (En EW) := SatE.consO satW okNeeds
end Go.Proofs.Ytoopcfjmmhmamaa.T6
