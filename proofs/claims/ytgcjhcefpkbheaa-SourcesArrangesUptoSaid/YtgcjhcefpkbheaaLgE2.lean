/- Part of a proof of the seat's statements: no statement by itself. -/
import Derived.Test.YtgcjhcefpkbheaaLgE1
import Derived.Test.YtgcjhcefpkbheaaSpA
section
namespace Go.Proofs.Ytgcjhcefpkbheaa.Lg
open Go
theorem br_eq {R : Type} {b : Bool} {x y z : Option R} (h : b = true → x = z) (k : b = false → y = z) : br b x y = z := by
  cases b
  · exact k rfl
  · exact h rfl
theorem brP_eq {R : Type} {p : Prop} {x y z : Option R} (h : p → x = z) (k : ¬ p → y = z) : brP p x y = z := by
  unfold brP
  by_cases hp : p
  · rw [if_pos hp]; exact h hp
  · rw [if_neg hp]; exact k hp
theorem chk_eq {R : Type} {p : Prop} {x z : Option R} (h : p) (k : x = z) : chk p x = z := by
  unfold chk; rw [if_pos h]; exact k
theorem vb_eq {a b : Bool} (h : a = b) : (some (SV.val (.d (.bool a))) : Option SV) = some (.val (.d (.bool b))) := by rw [h]
theorem vi_eq {k : IntKind} {a b : Int} (h : a = b) : (some (SV.val (.d (.int k a))) : Option SV) = some (.val (.d (.int k b))) := by rw [h]
theorem vs_eq {a b : List UInt8} (h : a = b) : (some (SV.val (.d (.str a))) : Option SV) = some (.val (.d (.str b))) := by rw [h]
theorem Out_chk {α : Type} {p : Prop} {t : Tr α} {x : α} (h : (Tr.chk p t).Out x) : p ∧ t.Out x := h
theorem Out_leaf {α : Type} {a x : α} (h : (Tr.leaf a).Out x) : x = a := Eq.symm h
theorem Out_br {α : Type} {b : Bool} {s t : Tr α} {x : α} (h : (Tr.br b s t).Out x) : (b = true ∧ s.Out x) ∨ (b = false ∧ t.Out x) := h
theorem byteAt_drop {s : List UInt8} {n : Nat} (h : n < s.length) : ∃ b, s.drop n = b :: s.drop (n + 1) ∧ byteAt s (n : Int) = (b.toNat : Nat) ∧ s[n]? = some b := by
  refine ⟨s[n], by rw [List.drop_eq_getElem_cons h], ?_, by simp [h]⟩
  unfold byteAt
  simp [h]
theorem byteAt_nat (s : List UInt8) (i : Int) (h0 : 0 ≤ i) : byteAt s i = byteAt s ((i.toNat : Nat) : Int) := by rw [Int.toNat_of_nonneg h0]
end Go.Proofs.Ytgcjhcefpkbheaa.Lg
namespace Go.Proofs.Ytgcjhcefpkbheaa.Lg
open Go
noncomputable def bodyOf (fn : Func) : Code := match fn.body with | some c => c | none => .skip
def loops : Code → List Code
  | .seq a b => loops a ++ loops b
  | .cond _ a b => loops a ++ loops b
  | .block _ c => loops c
  | .loop c => c :: loops c
  | .scope c => loops c
  | _ => []
def loopAt : Nat → List Code → Code
  | _, [] => .skip
  | 0, c :: _ => c
  | n + 1, _ :: l => loopAt n l
theorem loopsOK_of {T : Tab} {E : CallS} {LT : Nat → Option LoopS} : ∀ (c : Code), (∀ b ∈ loops c, LoopOK T E LT b) → LoopsOK T E LT c
  | .seq a b, h => by simp only [loops, List.mem_append] at h; exact ⟨loopsOK_of a fun x hx => h x (.inl hx), loopsOK_of b fun x hx => h x (.inr hx)⟩
  | .cond _ a b, h => by simp only [loops, List.mem_append] at h; exact ⟨loopsOK_of a fun x hx => h x (.inl hx), loopsOK_of b fun x hx => h x (.inr hx)⟩
  | .block _ c, h => by simp only [loops] at h; exact loopsOK_of c h
  | .loop c, h => by simp only [loops, List.mem_cons] at h; exact ⟨loopsOK_of c fun x hx => h x (.inr hx), h c (.inl rfl)⟩
  | .skip, _ => trivial
  | .region .., _ => trivial
  | .exit _, _ => trivial
  | .ret, _ => trivial
  | .rangeFunc .., _ => trivial
  | .scope c, h => by simp only [loops] at h; exact loopsOK_of c h
  | .label .., _ => trivial
  | .goto .., _ => trivial
  | .refuse .., _ => trivial
theorem loops0 {T : Tab} {E : CallS} {LT : Nat → Option LoopS} {c : Code} (h : loops c = []) : LoopsOK T E LT c := loopsOK_of c fun b hb => by rw [h] at hb; cases hb
theorem loops1 {T : Tab} {E : CallS} {LT : Nat → Option LoopS} {c b : Code} (h : loops c = [b]) (k : LoopOK T E LT b) : LoopsOK T E LT c := loopsOK_of c fun b' hb => by
  rw [h] at hb; simp at hb; subst hb; exact k
theorem loops2 {T : Tab} {E : CallS} {LT : Nat → Option LoopS} {c b b' : Code} (h : loops c = [b, b']) (k : LoopOK T E LT b) (k' : LoopOK T E LT b') : LoopsOK T E LT c := loopsOK_of c fun b'' hb => by
  rw [h] at hb; simp at hb
  rcases hb with rfl | rfl
  · exact k
  · exact k'
end Go.Proofs.Ytgcjhcefpkbheaa.Lg

namespace Go.Proofs.Ytgcjhcefpkbheaa.Lg
open Go
theorem sat_zero {P : Program} {g : Nat} {fn : Func} {c : Code} {S : List AV → Tr SV} (hf : P.funcs[g]? = some fn) (hname : (fn.name == "runtime.NumGoroutine") = false) (hb : fn.body = some c) (h : ∀ vs sv, ¬ (S vs).Out sv) : Sat P g S :=
  ⟨⟨fn, hf, hname, by simp [hb]⟩, fun vs sv ho => absurd ho (h vs sv)⟩
theorem sat_lim {P : Program} {g : Nat} {S : Nat → List AV → Tr SV} {S' : List AV → Tr SV} (h : ∀ N, Sat P g (S N)) (hS : ∀ vs sv, (S' vs).Out sv → ∃ N, (S N vs).Out sv) : Sat P g S' :=
  ⟨(h 0).fn, fun vs sv ho => by
    obtain ⟨N, hn⟩ := hS vs sv ho
    exact (h N).calls vs sv hn⟩
end Go.Proofs.Ytgcjhcefpkbheaa.Lg
end

section
namespace Go.Proofs.Ytgcjhcefpkbheaa.Lg
open Go Go.Proofs.Ytgcjhcefpkbheaa.Sp
theorem wrap64 {x : Int} (h0 : -9223372036854775808 ≤ x) (h1 : x ≤ 9223372036854775807) : IntKind.i64.wrap x = x := by
  simp [IntKind.wrap, IntKind.bits, IntKind.signed]
  split <;> omega
theorem Big_eq : Big = 1152921504606846976 := rfl

section
variable {T : Tab} {E : CallS} {LT : Nat → Option LoopS} {c : Code} {ls : LoopS}
/-- A loop over the bytes of a text from a place on, that goes on where a test holds. -/
theorem each_loop {s : List UInt8} (st : Int → List SV) (p : Int → Bool) (x : Nat → Ex × List SV) (y : Ex × List SV)
    (hout : Ends T E LT c ls (st s.length) y)
    (hbad : ∀ (n : Nat) (b : UInt8), n < s.length → byteAt s n = u b → s.drop n = b :: s.drop (n + 1) → p (u b) = false → Ends T E LT c ls (st n) (x n))
    (hgood : ∀ (n : Nat) (b : UInt8), n < s.length → byteAt s n = u b → p (u b) = true → evRound T E LT c ls (st n) = some (.again (st ((n + 1 : Nat) : Int)))) :
    ∀ (n : Nat), n ≤ s.length → Ends T E LT c ls (st n) (if allI p (s.drop n) then y else x (n + (s.drop n).findIdx fun b => !p (u b))) := by
  intro n
  induction hm : s.length - n generalizing n with
  | zero =>
    intro hn
    have : n = s.length := by omega
    subst this
    simp [allI]
    exact hout
  | succ m ih =>
    intro hn
    have hlt : n < s.length := by omega
    obtain ⟨b, hd, hb, _⟩ := byteAt_drop hlt
    rw [hd]
    simp only [allI, List.all_cons, List.findIdx_cons]
    cases hp : p (u b)
    · simp only [Bool.false_and, Bool.false_eq_true, if_false, Bool.not_false, cond_true, Nat.add_zero]
      exact hbad n b hlt hb hd hp
    · simp only [Bool.true_and, Bool.not_true, cond_false]
      have := Ends.again (hgood n b hlt hb hp) (ih (n + 1) (by omega) (by omega))
      rw [show n + ((s.drop (n + 1)).findIdx (fun b => !p (u b)) + 1) = n + 1 + (s.drop (n + 1)).findIdx (fun b => !p (u b)) by omega]
      exact this
end
end Go.Proofs.Ytgcjhcefpkbheaa.Lg
end
