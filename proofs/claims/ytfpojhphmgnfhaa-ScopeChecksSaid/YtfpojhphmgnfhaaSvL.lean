/- Chapter 7, plain: what is told of a place. -/
import Derived.Test.YtfpojhphmgnfhaaSvG
namespace Go.Proofs.Ytfpojhphmgnfhaa.Sp
open Go.Proofs.Ytfpojhphmgnfhaa.Lg Go
def told7 (l : SL) (e : Int) (c : List Op) (i : Int) (cert : Bool) : Bool :=
  if e = (atS c i).2 then (if (atS c i).2 = 0 then sameX l (namesT c cert i.toNat) else decide (l.length = 0)) else false
theorem bad_in {c : List Op} {i : Int} (h : (atS c i).2 = 0) : (resS c).2 = 0 ∧ 0 ≤ i ∧ i < (c.length : Int) := by
  unfold atS at h
  split at h
  · rename_i q; exact absurd h q
  · rename_i q
    split at h
    · cases h
    · exact ⟨by simpa using q, by omega, by omega⟩
theorem at_in {c : List Op} {i : Int} (h : (atS c i).2 = 0) : (atS c i).1 = at7 (resS c).1 i.toNat := by
  obtain ⟨h1, h2, h3⟩ := bad_in h
  unfold atS
  rw [if_neg (by rw [h1]; simp), if_neg (by omega)]
  unfold at7
  rw [Int.toNat_of_nonneg h2]
theorem at_out {c : List Op} {i : Int} (h : ¬ (atS c i).2 = 0) : (atS c i).1 = zeroR := by
  unfold atS at h ⊢
  split
  · rfl
  · rename_i q
    rw [if_neg q] at h
    split
    · rfl
    · rename_i q2; rw [if_neg q2] at h; exact absurd rfl h
theorem told_keys {c : List Op} (hz : szC c) (i : Int) : told7 (keys7 (atS c i).1.1) (atS c i).2 c i false = true := by
  unfold told7
  rw [if_pos rfl]
  by_cases h : (atS c i).2 = 0
  · rw [if_pos h, at_in h, (res_ok hz (bad_in h).1).2.2.1]
    exact sameX_refl _
  · rw [if_neg h, at_out h]; rfl
theorem told_certs {c : List Op} (hz : szC c) (i : Int) : told7 (certs7 (atS c i).1.1) (atS c i).2 c i true = true := by
  unfold told7
  rw [if_pos rfl]
  by_cases h : (atS c i).2 = 0
  · rw [if_pos h, at_in h, (res_ok hz (bad_in h).1).2.2.1]
    exact sameX_refl _
  · rw [if_neg h, at_out h]; rfl
theorem at_from {c : List Op} (hz : szC c) {i : Int} (h : (atS c i).2 = 0) : (atS c i).1.2.1 = fromP c i := by
  obtain ⟨h1, h2, h3⟩ := bad_in h
  obtain ⟨hn, _, hr, _⟩ := res_ok hz h1
  rw [at_in h, hr]
  obtain ⟨n, rfl⟩ := Int.eq_ofNat_of_zero_le h2
  exact (from_eq hn.steps (by omega)).symm
/-! A part is a code by itself. -/
theorem runR_app : ∀ (a b : List Op) (i : Int) (out l : List Rs7) (bad : Int), runR i (a ++ b) out l bad = (runR i a out l bad).bind fun s => runR (i + a.length) b s.1 s.2.1 s.2.2
  | [], b, i, out, l, bad => by
    show runR i b out l bad = runR (i + (([] : List Op).length : Int)) b out l bad
    rw [show i + (([] : List Op).length : Int) = i by simp]
  | o :: a, b, i, out, l, bad => by
    show runR i (o :: (a ++ b)) out l bad = _
    simp only [runR]
    cases ok7 o l
    · rfl
    · simp only [if_true]
      rw [runR_app a b]
      have : i + 1 + (a.length : Int) = i + ((o :: a).length : Int) := by rw [List.length_cons]; omega
      rw [this]
def seg (c : List Op) (f j : Nat) : List Op := (c.take (j + 1)).drop f
theorem seg_snoc {c : List Op} {f j : Nat} (hf : f ≤ j) (hj : j < c.length) : seg c f j = (c.take j).drop f ++ [opA c j] := by
  unfold seg
  have hb : c[j]? = some c[j] := List.getElem?_eq_getElem hj
  rw [List.take_add_one, hb, List.drop_append_of_le_length (by rw [List.length_take]; omega)]
  unfold opA
  rw [getR_of hb]; rfl
theorem seg_len {c : List Op} {f j : Nat} (hj : j < c.length) : (seg c f j).length = j + 1 - f := by
  unfold seg
  rw [List.length_drop, List.length_take]; omega
theorem take_split {c : List Op} {f g j : Nat} (hfg : f ≤ g) (hgj : g ≤ j) (hj : j ≤ c.length) : (c.take j).drop f = (c.take g).drop f ++ (c.take j).drop g := by
  have h1 : (c.take j).drop f = ((c.take j).take g ++ (c.take j).drop g).drop f := by rw [List.take_append_drop]
  rw [h1, List.drop_append_of_le_length (by rw [List.length_take, List.length_take]; omega), List.take_take, Nat.min_eq_left hgj]
theorem run_one {i : Int} {o : Op} {out l : List Rs7} (h : ok7 o l = true) (hc : clash7 o l = false) : runR i [o] out l 0 = some (out ++ [newR i o l], l.take (l.length - (needsK o.1).toNat) ++ [newR i o l], 0) := by
  simp only [runR]
  rw [if_pos h, hc]; rfl
/-- What a part's operations bring. -/
theorem seg_run {c : List Op} (hn : OkN c) (hc : OkC c) (hnst : ∀ j, j < c.length → (opA c j).1 = 9 → svc7 (at7 (outG c) (j - 1)) = false) : ∀ (n j : Nat), j < n → j < c.length → ∀ f : Nat, (at7 (outG c) j).2.1 = (f : Int) → f ≤ j ∧
    ∀ (i : Int) (out l : List Rs7), ∃ (r : List Rs7) (x : Rs7), runR i (seg c f j) out l 0 = some (out ++ r ++ [x], l ++ [x], 0) ∧ r.length + 1 = j + 1 - f ∧ x.1 = (at7 (outG c) j).1 ∧ svc7 x = svc7 (at7 (outG c) j)
  | 0, j, hj, _, _, _ => by omega
  | n + 1, j, hj, hjl, f, hf => by
    have hs := hn.steps j hjl
    have hnd := right_needs hs.right
    have hn2 := needsK_le (opA c j).1
    rcases (show needsK (opA c j).1 = 0 ∨ needsK (opA c j).1 = 1 ∨ needsK (opA c j).1 = 2 by omega) with hz | hz | hz
    · rw [hs.zero hz] at hf ⊢
      have hf : (j : Int) = (f : Int) := hf
      obtain rfl : j = f := by omega
      refine ⟨Nat.le_refl _, fun i out l => ⟨[], newR i (opA c j) l, ?_, by simp, ?_, ?_⟩⟩
      · rw [seg_snoc (Nat.le_refl _) hjl]
        have e0 : (c.take j).drop j = [] := List.drop_of_length_le (by rw [List.length_take]; omega)
        rw [e0, List.nil_append, List.append_nil]
        have h9 : ¬ (opA c j).1 = 9 := fun e => by rw [e] at hz; cases hz
        rw [run_one (by unfold ok7; rw [hs.right, hz, decide_eq_true (by omega), decide_eq_false h9]; rfl) (by unfold clash7; rw [hz]; rfl), hz]
        rw [show l.length - (0 : Int).toNat = l.length from rfl, List.take_length]
      · show names7 (opA c j) l = leafS (opA c j)
        unfold names7; rw [if_pos hz]
      · show ((opA c j).1 == 9 || anyS (nd7 (opA c j) l)) = ((opA c j).1 == 9)
        have : nd7 (opA c j) l = [] := by
          unfold nd7; rw [hz]; exact List.drop_of_length_le (by show l.length ≤ l.length - 0; omega)
        rw [this]; exact Bool.or_false _
    · obtain ⟨h1, h2⟩ := hs.one hz
      rw [h2] at hf ⊢
      obtain ⟨g1, g2⟩ := seg_run hn hc hnst n (j - 1) (by omega) (by omega) f hf
      refine ⟨by omega, fun i out l => ?_⟩
      obtain ⟨r, x, e1, e2, e3, e4⟩ := g2 i out l
      have hsp : seg c f j = seg c f (j - 1) ++ [opA c j] := by
        rw [seg_snoc (by omega) hjl]; unfold seg; rw [show j - 1 + 1 = j by omega]
      have hat : at7 (l ++ [x]) ((l ++ [x]).length - 1) = x := at7_snoc l x
      have hnd7 : nd7 (opA c j) (l ++ [x]) = [x] := by rw [nd_one hz (by simp), hat]
      refine ⟨r ++ [x], newR (i + ((seg c f (j - 1)).length : Int)) (opA c j) (l ++ [x]), ?_, by simp; omega, ?_, ?_⟩
      · rw [hsp, runR_app, e1]
        show runR _ [opA c j] _ _ 0 = _
        rw [run_one]
        · rw [hz, show (l ++ [x]).length - (1 : Int).toNat = l.length by simp, List.take_left]
          simp
        · unfold ok7
          rw [hs.right, hz, hnd7, decide_eq_true (by rw [List.length_append]; simp; omega)]
          have : (decide ((opA c j).1 = 9) && anyS [x]) = false := by
            by_cases h9 : (opA c j).1 = 9
            · have : anyS [x] = svc7 x := Bool.or_false _
              rw [this, e4, hnst j hjl h9, Bool.and_false]
            · rw [decide_eq_false h9, Bool.false_and]
          rw [this]; rfl
        · unfold clash7
          rw [hat, e3]
          by_cases h8 : (opA c j).1 = 8
          · rw [hc j hjl h8]; simp
          · rw [decide_eq_false h8]; simp
      · show names7 (opA c j) (l ++ [x]) = oneS (opA c j) (at7 (outG c) (j - 1)).1
        unfold names7
        rw [if_neg (by omega), if_pos hz, hat, e3]
      · show ((opA c j).1 == 9 || anyS (nd7 (opA c j) (l ++ [x]))) = ((opA c j).1 == 9 || svc7 (at7 (outG c) (j - 1)))
        rw [hnd7, ← e4]
        show (_ || (svc7 x || false)) = _
        rw [Bool.or_false]
    · obtain ⟨g, h1, h2, h3, h4, h5⟩ := hs.two hz
      rw [h5] at hf ⊢
      obtain ⟨a1, a2⟩ := seg_run hn hc hnst n (g - 1) (by omega) (by omega) f hf
      obtain ⟨b1, b2⟩ := seg_run hn hc hnst n (j - 1) (by omega) (by omega) g h4
      refine ⟨by omega, fun i out l => ?_⟩
      obtain ⟨r, x, e1, e2, e3, e4⟩ := a2 i out l
      obtain ⟨r', y, d1, d2, d3, d4⟩ := b2 (i + ((seg c f (g - 1)).length : Int)) (out ++ r ++ [x]) (l ++ [x])
      have hsp : seg c f j = seg c f (g - 1) ++ seg c g (j - 1) ++ [opA c j] := by
        rw [seg_snoc (by omega) hjl]; unfold seg
        rw [show j - 1 + 1 = j by omega, show g - 1 + 1 = g by omega, ← take_split (by omega) (by omega) (by omega)]
      have hat : at7 (l ++ [x] ++ [y]) ((l ++ [x] ++ [y]).length - 1) = y := at7_snoc (l ++ [x]) y
      have hat2 : at7 (l ++ [x] ++ [y]) ((l ++ [x] ++ [y]).length - 2) = x := by
        rw [show (l ++ [x] ++ [y]).length - 2 = l.length by simp, at7_app [y] (by simp)]; exact at7_last l x
      have hnd7 : nd7 (opA c j) (l ++ [x] ++ [y]) = [x, y] := by rw [nd_two hz (by simp), hat, hat2]
      refine ⟨r ++ [x] ++ r' ++ [y], newR (i + ((seg c f (g - 1)).length : Int) + ((seg c g (j - 1)).length : Int)) (opA c j) (l ++ [x] ++ [y]), ?_, by simp; omega, ?_, ?_⟩
      · rw [hsp, List.append_assoc, runR_app, e1]
        show runR _ (seg c g (j - 1) ++ [opA c j]) _ _ 0 = _
        rw [runR_app, d1]
        show runR _ [opA c j] _ _ 0 = _
        rw [run_one]
        · have ht : List.take ((l ++ [x] ++ [y]).length - (2 : Int).toNat) (l ++ [x] ++ [y]) = l := by
            rw [show (l ++ [x] ++ [y]).length - (2 : Int).toNat = l.length by simp]; simp
          rw [hz, ht]
          simp
        · unfold ok7
          have h9 : ¬ (opA c j).1 = 9 := fun e => by rw [e] at hz; cases hz
          rw [hs.right, hz, decide_eq_true (by rw [List.length_append, List.length_append]; simp; omega), decide_eq_false h9]; rfl
        · unfold clash7
          rw [hz]; rfl
      · show names7 (opA c j) (l ++ [x] ++ [y]) = twoS (opA c j) (at7 (outG c) (g - 1)).1 (at7 (outG c) (j - 1)).1
        unfold names7
        rw [if_neg (by omega), if_neg (by omega), hat, hat2, e3, d3]
      · show ((opA c j).1 == 9 || anyS (nd7 (opA c j) (l ++ [x] ++ [y]))) = ((opA c j).1 == 9 || (svc7 (at7 (outG c) (g - 1)) || svc7 (at7 (outG c) (j - 1))))
        rw [hnd7, ← e4, ← d4]
        show (_ || (svc7 x || (svc7 y || false))) = _
        rw [Bool.or_false]
theorem seg_sz {c : List Op} (hz : szC c) (f j : Nat) : szC (seg c f j) := by
  refine ⟨?_, fun o ho => hz.2 o (List.mem_of_mem_take (List.mem_of_mem_drop ho))⟩
  have := hz.1
  unfold seg
  rw [List.length_drop, List.length_take]; omega
theorem part_eq {c : List Op} (hz : szC c) {j : Nat} (h : (atS c j).2 = 0) {f : Nat} (hf : (atS c j).1.2.1 = (f : Int)) : f ≤ j ∧ (atS (seg c f j) ((seg c f j).length - 1 : Nat)).2 = 0 ∧ (atS (seg c f j) ((seg c f j).length - 1 : Nat)).1.1 = (atS c j).1.1 := by
  obtain ⟨h1, h2, h3⟩ := bad_in h
  obtain ⟨hn, hc, hr, hlen, hsh, hnst⟩ := res_ok hz h1
  have hat := at_in h
  rw [Int.toNat_natCast, hr] at hat
  rw [hat] at hf ⊢
  have hns : ∀ j, j < c.length → (opA c j).1 = 9 → svc7 (at7 (outG c) (j - 1)) = false := fun k hk h9 => by
    cases hs : svc7 (at7 (outG c) (k - 1))
    · rfl
    · have hk1 : needsK (opA c k).1 = 1 := by rw [h9]; rfl
      obtain ⟨p1, p2⟩ := (hn.steps k hk).one hk1
      obtain ⟨g, hg, hge⟩ := (hn.steps (k - 1) (by omega)).from_le
      obtain ⟨q, q1, q2, q3⟩ := (svc_eq hn.steps (k - 1 + 1) (k - 1) (by omega) (by omega)).1 hs
      have hfp : fromP c k = (g : Int) := by rw [from_eq hn.steps hk, p2]; exact hge
      rw [hge] at q1
      have q1 : (g : Int) ≤ (q : Int) := q1
      have := (nst_iff c c.length 0).2 ⟨k, by omega, by omega, h9, q, by rw [hfp]; omega, by rw [hfp]; omega, q3⟩
      rw [hnst] at this; cases this
  obtain ⟨hfj, hrun⟩ := seg_run hn hc hns (j + 1) j (by omega) (by omega) f hf
  obtain ⟨r, x, e1, e2, e3, e4⟩ := hrun 0 [] []
  have hl := seg_len (c := c) (f := f) (j := j) (by omega)
  have hcl := hn.len
  have hres : resS (seg c f j) = (r ++ [x], 0) := by
    unfold resS
    rw [if_neg (by rw [hl]; omega), e1]
    rfl
  have hin : atS (seg c f j) ((seg c f j).length - 1 : Nat) = (x, 0) := by
    unfold atS
    rw [hres]
    rw [if_neg (by simp), if_neg (by omega)]
    have : getR rsS (r ++ [x]) ((((seg c f j).length - 1 : Nat)) : Int) = x := by
      have := at7_last r x
      unfold at7 at this
      rw [show (seg c f j).length - 1 = r.length by omega]; exact this
    rw [this]
  rw [hin]
  exact ⟨hfj, rfl, e3⟩
end Go.Proofs.Ytfpojhphmgnfhaa.Sp
