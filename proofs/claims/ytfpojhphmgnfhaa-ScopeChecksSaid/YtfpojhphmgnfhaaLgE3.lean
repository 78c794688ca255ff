/- Part of a proof of the seat's statements: no statement by itself. -/
import Derived.Test.YtfpojhphmgnfhaaLgE1
import Derived.Test.YtfpojhphmgnfhaaSpA
namespace Go.Proofs.Ytfpojhphmgnfhaa.Lg
open Go Go.Proofs.Ytfpojhphmgnfhaa.Sp
theorem wrap64 {x : Int} (h0 : -9223372036854775808 ≤ x) (h1 : x ≤ 9223372036854775807) : IntKind.i64.wrap x = x := by
  simp [IntKind.wrap, IntKind.bits, IntKind.signed]
  split <;> omega
theorem Big_eq : Big = 1152921504606846976 := rfl

section
variable {T : Tab} {E : CallS} {LT : Nat → Option LoopS} {c : Code} {ls : LoopS}
/-- A loop over the bytes of a text from a place on, that goes on where a test holds. -/
theorem each_loop {s : List UInt8} (st : Int → List SV) (p : Int → Bool) (x : Nat → Ex × List SV) (y : Ex × List SV)
    (hout : Ends T E LT c ls (st s.length) y)
    (hbad : ∀ (n : Nat) (b : UInt8), n < s.length → byteAt s n = u b → s.drop n = b :: s.drop (n + 1) → p (u b) = false → Ends T E LT c ls (st n) (x n))
    (hgood : ∀ (n : Nat) (b : UInt8), n < s.length → byteAt s n = u b → p (u b) = true → evRound T E LT c ls (st n) = some (.again (st ((n + 1 : Nat) : Int)))) :
    ∀ (n : Nat), n ≤ s.length → Ends T E LT c ls (st n) (if allI p (s.drop n) then y else x (n + (s.drop n).findIdx fun b => !p (u b))) := by
  intro n
  induction hm : s.length - n generalizing n with
  | zero =>
    intro hn
    have : n = s.length := by omega
    subst this
    simp [allI]
    exact hout
  | succ m ih =>
    intro hn
    have hlt : n < s.length := by omega
    obtain ⟨b, hd, hb, _⟩ := byteAt_drop hlt
    rw [hd]
    simp only [allI, List.all_cons, List.findIdx_cons]
    cases hp : p (u b)
    · simp only [Bool.false_and, Bool.false_eq_true, if_false, Bool.not_false, cond_true, Nat.add_zero]
      exact hbad n b hlt hb hd hp
    · simp only [Bool.true_and, Bool.not_true, cond_false]
      have := Ends.again (hgood n b hlt hb hp) (ih (n + 1) (by omega) (by omega))
      rw [show n + ((s.drop (n + 1)).findIdx (fun b => !p (u b)) + 1) = n + 1 + (s.drop (n + 1)).findIdx (fun b => !p (u b)) by omega]
      exact this
end
end Go.Proofs.Ytfpojhphmgnfhaa.Lg
