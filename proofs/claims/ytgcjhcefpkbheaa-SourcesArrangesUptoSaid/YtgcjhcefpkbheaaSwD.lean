/- Chapter 20, plain: the document's answers. -/
import Derived.Test.YtgcjhcefpkbheaaSwC
namespace Go.Proofs.Ytgcjhcefpkbheaa.Sp
open Go.Proofs.Ytgcjhcefpkbheaa.Lg Go
def aloneP (x : Pt) (p : Int) : Bool := one1 x && decide (hd1 x = p)
def sameI : List Nt → List Nt → Bool
  | [], [] => true
  | x :: a, y :: b => decide ((x.1 : Int) = y.1) && sameI a b
  | _, _ => false
def sameG1 (x y : Gr) : Bool := sameI x.1 y.1 && sameI x.2.1 y.2.1
def sameG : List Gr → List Gr → Bool
  | [], [] => true
  | x :: a, y :: b => sameG1 x y && sameG a b
  | _, _ => false
def sngls (pts : List Pt) : List Int := (pts.filter one1).map hd1
def sharedP (l : List T3) (i k : Nt) : Bool := (inR l i && inR l k) && (varsS (getR tpS l i.1)).any fun v => hasS (varsS (getR tpS l k.1)) v.1
def touchR (l : List T3) (a b : Gr) : Bool := (a.1 : List Nt).any fun i => (b.1 : List Nt).any fun k => sharedP l i k
def touchesP (l : List T3) (s : List Gr) (g : Gr) : Bool := s.any fun x => touchR l x g
def nextP (l : List T3) (taken left : List Gr) : Int := bif left.any (touchesP l taken) then firstG (touchesP l taken) left 0 else 0
def refArr (l : List T3) : Nat → List Gr → List Gr → List Gr
  | 0, _, out => out
  | n + 1, left, out => refArr l n (left.eraseIdx (nextP l out left).toNat) (out ++ [getR grS left (nextP l out left)])
def lefts (gs : List Gr) (rev : Bool) : List Gr := bif rev then gs.reverse else gs
theorem sameI_len : ∀ {a b : List Nt}, a.length ≠ b.length → sameI a b = false
  | [], [], h => absurd rfl h
  | [], _ :: _, _ => rfl
  | _ :: _, [], _ => rfl
  | x :: a, y :: b, h => by
    rw [sameI, sameI_len (a := a) (b := b) (fun e => h (by simp [e])), Bool.and_false]
theorem sameG_len : ∀ {a b : List Gr}, a.length ≠ b.length → sameG a b = false
  | [], [], h => absurd rfl h
  | [], _ :: _, _ => rfl
  | _ :: _, [], _ => rfl
  | x :: a, y :: b, h => by
    rw [sameG, sameG_len (a := a) (b := b) (fun e => h (by simp [e])), Bool.and_false]
theorem sngls_snoc (l : List Pt) (x : Pt) : sngls (l ++ [x]) = sngls l ++ (if one1 x = true then [hd1 x] else []) := by
  unfold sngls
  rw [List.filter_append, List.map_append]
  cases h : one1 x <;> simp [h]
theorem newG_false : ∀ (r : List Pt) (i : Int) (K K' : List Int), newG false K i r = newG false K' i r
  | [], _, _, _ => rfl
  | x :: r, i, K, K' => by
    rw [newG, newG, if_neg (by simp), if_neg (by simp), newG_false r (i + 1) K K']
theorem any_alone (l : List Pt) (p : Int) : (l.any fun x => aloneP x p) = decide (p ∈ sngls l) := by
  rw [Bool.eq_iff_iff, List.any_eq_true, decide_eq_true_eq]
  unfold sngls aloneP
  simp only [Bool.and_eq_true, decide_eq_true_eq, List.mem_map, List.mem_filter]
  constructor
  · rintro ⟨x, h1, h2, h3⟩; exact ⟨x, ⟨h1, h2⟩, h3⟩
  · rintro ⟨x, ⟨h1, h2⟩, h3⟩; exact ⟨x, h1, h2, h3⟩
theorem lefts_at {gs : List Gr} {rev : Bool} {m : Nat} (h : m < gs.length) : (lefts gs rev).drop m = getR grS gs (bif rev then (gs.length : Int) - 1 - (m : Int) else (m : Int)) :: (lefts gs rev).drop (m + 1) := by
  have hl : (lefts gs rev).length = gs.length := by unfold lefts; cases rev <;> simp
  rw [List.drop_eq_getElem_cons (i := m) (by omega)]
  congr 1
  cases rev
  · show gs[m] = getR grS gs (m : Int)
    exact (getR_of (List.getElem?_eq_getElem h)).symm
  · show gs.reverse[m]'(by simpa using h) = getR grS gs ((gs.length : Int) - 1 - (m : Int))
    have e : (gs.length : Int) - 1 - (m : Int) = ((gs.length - 1 - m : Nat) : Int) := by omega
    rw [e, List.getElem_reverse]
    exact (getR_of (List.getElem?_eq_getElem (by omega))).symm
theorem firstG_in (p : Gr → Bool) : ∀ (l : List Gr) (i : Int), l.any p = true → i ≤ firstG p l i ∧ firstG p l i < i + l.length
  | [], _, h => by simp at h
  | x :: l, i, h => by
    rw [firstG]
    by_cases q : p x = true
    · rw [if_pos q]; simp only [List.length_cons]; omega
    · rw [if_neg q]
      simp only [Bool.not_eq_true] at q
      rw [List.any_cons, q, Bool.false_or] at h
      have := firstG_in p l (i + 1) h
      simp only [List.length_cons]; omega
theorem next_in (l : List T3) (taken left : List Gr) (h : 0 < left.length) : 0 ≤ nextP l taken left ∧ nextP l taken left < left.length := by
  unfold nextP
  cases q : left.any (touchesP l taken)
  · rw [cond_false]; omega
  · rw [cond_true]
    have := firstG_in (touchesP l taken) left 0 q
    omega
theorem refArr_ne (l : List T3) {left out : List Gr} (h : 0 < left.length) : refArr l left.length left out = refArr l (left.eraseIdx (nextP l out left).toNat).length (left.eraseIdx (nextP l out left).toNat) (out ++ [getR grS left (nextP l out left)]) := by
  have hn := next_in l out left h
  have e : (left.eraseIdx (nextP l out left).toNat).length + 1 = left.length := by
    rw [List.length_eraseIdx, if_pos (by omega)]; omega
  rw [← e, refArr]
end Go.Proofs.Ytgcjhcefpkbheaa.Sp
