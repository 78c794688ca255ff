/- Part of a proof of the seat's statements: no statement by itself. -/
import Derived.Test.YtfafmpiajlgojaaDoorLgB2
import Derived.Laws.CopyRow
import Derived.Laws.Entries
import Derived.ChangeKeysEq
namespace Go.Proofs.YtfafmpiajlgojaaDoor.Lg
open Go

/-! ### Rows of values -/
def RowVals (Pr : PM) : (es : List Sh) → RowE es → List Value → Prop
  | [], _, [] => True
  | e :: es, r, v :: vs => RepC Pr e r.1 v ∧ RowVals Pr es r.2 vs
  | _, _, _ => False
def RowsVals (Pr : PM) (es : List Sh) : List (RowE es) → List (List Value) → Prop
  | [], [] => True
  | r :: l, vs :: vss => RowVals Pr es r vs ∧ RowsVals Pr es l vss
  | _, _ => False

theorem RowVals.length {Pr : PM} : ∀ (es : List Sh) (r : RowE es) (vs : List Value), RowVals Pr es r vs → vs.length = es.length
  | [], _, [], _ => rfl
  | e :: es, r, v :: vs, h => by simp only [RowVals] at h; simp [RowVals.length es r.2 vs h.2]
  | [], _, _ :: _, h => by simp [RowVals] at h
  | _ :: _, _, [], h => by simp [RowVals] at h
theorem RowVals.mono {Pr Pr' : PM} (h : PrLe Pr Pr') : ∀ (es : List Sh) (r : RowE es) (vs : List Value), RowVals Pr es r vs → RowVals Pr' es r vs
  | [], _, [], q => q
  | e :: es, r, v :: vs, q => by simp only [RowVals] at q ⊢; exact ⟨RepC.mono h _ _ _ q.1, RowVals.mono h es r.2 vs q.2⟩
  | [], _, _ :: _, q => by simp [RowVals] at q
  | _ :: _, _, [], q => by simp [RowVals] at q
theorem RowsVals.length {Pr : PM} {es : List Sh} : ∀ (l : List (RowE es)) (vss : List (List Value)), RowsVals Pr es l vss → vss.flatten.length = l.length * es.length
  | [], [], _ => by simp
  | r :: l, vs :: vss, h => by
    simp only [RowsVals] at h
    simp only [List.flatten_cons, List.length_append, RowVals.length es r vs h.1, RowsVals.length l vss h.2, List.length_cons, Nat.succ_mul]
    omega
  | [], _ :: _, h => by simp [RowsVals] at h
  | _ :: _, [], h => by simp [RowsVals] at h
theorem RowsVals.append {Pr : PM} {es : List Sh} : ∀ (l : List (RowE es)) (vss : List (List Value)) (m : List (RowE es)) (uss : List (List Value)), RowsVals Pr es l vss → RowsVals Pr es m uss → RowsVals Pr es (l ++ m) (vss ++ uss)
  | [], [], _, _, _, k => k
  | r :: l, vs :: vss, m, uss, h, k => by simp only [RowsVals] at h; exact ⟨h.1, RowsVals.append l vss m uss h.2 k⟩
  | [], _ :: _, _, _, h, _ => by simp [RowsVals] at h
  | _ :: _, [], _, _, h, _ => by simp [RowsVals] at h

theorem RepRow.vals {Pr : PM} : ∀ (es : List Sh) (r : RowE es) (b o : Nat), RepRow Pr es r b o → ∃ vs, RowVals Pr es r vs ∧ ∀ j v, vs[j]? = some v → Pr b (o + j) = some v
  | [], _, _, _, _ => ⟨[], trivial, by simp⟩
  | e :: es, r, b, o, h => by
    simp only [RepRow] at h
    obtain ⟨⟨v, hv, hc⟩, k⟩ := h
    obtain ⟨vs, h1, h2⟩ := RepRow.vals es r.2 b (o + 1) k
    refine ⟨v :: vs, ⟨hc, h1⟩, fun j u hj => ?_⟩
    cases j with
    | zero => simp at hj; subst hj; simpa using hv
    | succ j => have := h2 j u (by simpa using hj); rw [show o + (j + 1) = o + 1 + j by omega]; exact this
theorem RowVals.row {Pr : PM} : ∀ (es : List Sh) (r : RowE es) (vs : List Value) (b o : Nat), RowVals Pr es r vs → (∀ j v, vs[j]? = some v → Pr b (o + j) = some v) → RepRow Pr es r b o
  | [], _, [], _, _, _, _ => by simp [RepRow]
  | e :: es, r, v :: vs, b, o, h, k => by
    simp only [RowVals] at h
    simp only [RepRow]
    refine ⟨⟨v, by simpa using k 0 v rfl, h.1⟩, RowVals.row es r.2 vs b (o + 1) h.2 fun j u hj => ?_⟩
    have := k (j + 1) u (by simpa using hj)
    rw [show o + 1 + j = o + (j + 1) by omega]; exact this
  | [], _, _ :: _, _, _, h, _ => by simp [RowVals] at h
  | _ :: _, _, [], _, _, h, _ => by simp [RowVals] at h

/-- A slice's rows as values. -/
theorem rows_vals {Pr : PM} {es : List Sh} {b : Nat} : ∀ (l : List (RowE es)) (off : Nat), (∀ i x, l[i]? = some x → RepRow Pr es x b (off + i * es.length)) →
    ∃ vss, RowsVals Pr es l vss ∧ ∀ j v, vss.flatten[j]? = some v → Pr b (off + j) = some v
  | [], _, _ => ⟨[], trivial, by simp⟩
  | r :: l, off, h => by
    obtain ⟨vs, h1, h2⟩ := RepRow.vals es r b off (by simpa using h 0 r rfl)
    obtain ⟨vss, k1, k2⟩ := rows_vals l (off + es.length) (fun i x hi => by have := h (i + 1) x (by simpa using hi); rw [Nat.succ_mul] at this; rw [show off + es.length + i * es.length = off + (i * es.length + es.length) by omega]; exact this)
    have hl := RowVals.length es r vs h1
    refine ⟨vs :: vss, ⟨h1, k1⟩, fun j v hj => ?_⟩
    rw [List.flatten_cons] at hj
    by_cases hjl : j < vs.length
    · rw [List.getElem?_append_left hjl] at hj; exact h2 j v hj
    · rw [List.getElem?_append_right (by omega)] at hj
      have := k2 (j - vs.length) v hj
      rw [show off + es.length + (j - vs.length) = off + j by omega] at this; exact this
theorem vals_rows {Pr : PM} {es : List Sh} {b : Nat} : ∀ (l : List (RowE es)) (vss : List (List Value)) (off : Nat), RowsVals Pr es l vss → (∀ j v, vss.flatten[j]? = some v → Pr b (off + j) = some v) →
    ∀ i x, l[i]? = some x → RepRow Pr es x b (off + i * es.length)
  | [], _, _, _, _, i, x, hi => by simp at hi
  | r :: l, vs :: vss, off, h, k, i, x, hi => by
    simp only [RowsVals] at h
    have hl := RowVals.length es r vs h.1
    cases i with
    | zero =>
      simp at hi; subst hi
      refine RowVals.row es r vs b _ h.1 fun j v hj => ?_
      have hjl : j < vs.length := (List.getElem?_eq_some_iff.1 hj).1
      have := k j v (by rw [List.flatten_cons, List.getElem?_append_left hjl]; exact hj)
      simpa using this
    | succ i =>
      have := vals_rows l vss (off + es.length) h.2 (fun j v hj => by
        have := k (vs.length + j) v (by rw [List.flatten_cons, List.getElem?_append_right (by omega), Nat.add_sub_cancel_left]; exact hj)
        rw [hl] at this; rw [Nat.add_assoc]; exact this) i x (by simpa using hi)
      rw [Nat.succ_mul]; rw [show off + (i * es.length + es.length) = off + es.length + i * es.length by omega]; exact this
  | _ :: _, [], _, h, _, _, _, _ => by simp [RowsVals] at h

theorem RepC.one {Pr : PM} : ∀ (e : Sh) (x : CE e) (v : Value), RepC Pr e x v → v.oneCell' = true
  | .int _, _, _, h => by simp only [RepC] at h; subst h; rfl
  | .bool, _, _, h => by simp only [RepC] at h; subst h; rfl
  | .str, _, _, h => by simp only [RepC] at h; subst h; rfl
  | .sl _, _, _, h => by simp only [RepC] at h; obtain ⟨_, _, _, rfl, _⟩ := h; rfl
theorem RepD.one {Pr : PM} {x : D} {v : Value} (h : RepD Pr x v) : v.oneCell' = true := by
  cases x with
  | int k n => simp only [RepD] at h; subst h; rfl
  | bool b => simp only [RepD] at h; subst h; rfl
  | str s => simp only [RepD] at h; subst h; rfl
  | sl es l => exact RepC.one (.sl es) l v h
theorem RowVals.one {Pr : PM} : ∀ (es : List Sh) (r : RowE es) (vs : List Value), RowVals Pr es r vs → ∀ v ∈ vs, v.oneCell' = true
  | [], _, [], _ => by simp
  | e :: es, r, v :: vs, h => by
    simp only [RowVals] at h
    intro u hu
    rcases List.mem_cons.1 hu with rfl | hu
    · exact RepC.one _ _ _ h.1
    · exact RowVals.one es r.2 vs h.2 u hu
  | [], _, _ :: _, h => by simp [RowVals] at h
  | _ :: _, _, [], h => by simp [RowVals] at h
theorem RowsVals.one {Pr : PM} {es : List Sh} : ∀ (l : List (RowE es)) (vss : List (List Value)), RowsVals Pr es l vss → ∀ v ∈ vss.flatten, v.oneCell' = true
  | [], [], _ => by simp
  | r :: l, vs :: vss, h => by
    simp only [RowsVals] at h
    intro v hv
    simp only [List.flatten_cons, List.mem_append] at hv
    rcases hv with hv | hv
    · exact RowVals.one es r vs h.1 v hv
    · exact RowsVals.one l vss h.2 v hv
  | [], _ :: _, h => by simp [RowsVals] at h
  | _ :: _, [], h => by simp [RowsVals] at h

theorem toD_rep {Pr : PM} : ∀ (e : Sh) (x : CE e) (v : Value), RepC Pr e x v → RepD Pr (toD e x) v
  | .int _, _, _, h => h
  | .bool, _, _, h => h
  | .str, _, _, h => h
  | .sl _, _, _, h => h
theorem rowD_rep {Pr : PM} : ∀ (es : List Sh) (r : RowE es) (b o : Nat), RepRow Pr es r b o → ∀ j x, (rowD es r)[j]? = some x → ∃ u, Pr b (o + j) = some u ∧ RepD Pr x u
  | [], _, _, _, _, j, x, hj => by simp [rowD] at hj
  | e :: es, r, b, o, h, j, x, hj => by
    simp only [RepRow] at h
    cases j with
    | zero => simp [rowD] at hj; subst hj; obtain ⟨⟨v, hv, hc⟩, _⟩ := h; exact ⟨v, by simpa using hv, toD_rep _ _ _ hc⟩
    | succ j =>
      obtain ⟨u, h1, h2⟩ := rowD_rep es r.2 b (o + 1) h.2 j x (by simpa [rowD] using hj)
      exact ⟨u, by rw [show o + (j + 1) = o + 1 + j by omega]; exact h1, h2⟩

theorem ofD_rep {Pr : PM} : ∀ (e : Sh) (x : D) (y : CE e) (v : Value), ofD e x = some y → RepD Pr x v → RepC Pr e y v := by
  intro e x y v h hr
  cases e <;> cases x <;> simp only [ofD] at h <;> try (cases h; done)
  · rename_i k k' n
    split at h
    · rename_i hk; subst hk; cases h; exact hr
    · cases h
  · cases h; exact hr
  · cases h; exact hr
  · rename_i es es' l
    split at h
    · rename_i hq hh; subst hq; cases h; exact hr
    · cases h
theorem ofDs_vals {Pr : PM} : ∀ (es : List Sh) (ds : List D) (r : RowE es) (vs : List Value), ofDs es ds = some r → RepDs Pr ds vs → RowVals Pr es r vs
  | [], [], _, [], _, _ => trivial
  | [], [], _, _ :: _, _, q => by simp [RepDs] at q
  | [], _ :: _, _, _, h, _ => by simp [ofDs] at h
  | _ :: _, [], _, _, h, _ => by simp [ofDs] at h
  | e :: es, d :: ds, r, [], _, q => by simp [RepDs] at q
  | e :: es, d :: ds, r, v :: vs, h, q => by
    simp only [ofDs] at h
    cases h1 : ofD e d with
    | none => simp [h1] at h
    | some x =>
      cases h2 : ofDs es ds with
      | none => simp [h1, h2] at h
      | some r' =>
        simp only [h1, h2, Option.some.injEq] at h
        subst h
        simp only [RepDs] at q
        exact ⟨ofD_rep e d x v h1 q.1, ofDs_vals es ds r' vs h2 q.2⟩

theorem RepDs.length {Pr : PM} : ∀ (ds : List D) (vs : List Value), RepDs Pr ds vs → vs.length = ds.length
  | [], [], _ => rfl
  | _ :: ds, _ :: vs, h => by simp only [RepDs] at h; simp [RepDs.length ds vs h.2]
  | [], _ :: _, h => by simp [RepDs] at h
  | _ :: _, [], h => by simp [RepDs] at h
theorem RepDs.get {Pr : PM} : ∀ (ds : List D) (vs : List Value), RepDs Pr ds vs → ∀ (j : Nat) (d : D) (v : Value), ds[j]? = some d → vs[j]? = some v → RepD Pr d v
  | d :: ds, v :: vs, h, 0, d', v', hd, hv => by simp at hd hv; subst hd; subst hv; exact h.1
  | d :: ds, v :: vs, h, j + 1, d', v', hd, hv => RepDs.get ds vs h.2 j d' v' (by simpa using hd) (by simpa using hv)
  | [], _, _, _, _, _, hd, _ => by simp at hd
  | _ :: _, [], _, _, _, _, _, hv => by simp at hv
theorem RepDs.of_get {Pr : PM} : ∀ (ds : List D) (vs : List Value), vs.length = ds.length → (∀ (j : Nat) (d : D) (v : Value), ds[j]? = some d → vs[j]? = some v → RepD Pr d v) → RepDs Pr ds vs
  | [], [], _, _ => trivial
  | d :: ds, v :: vs, hl, h => ⟨h 0 d v rfl rfl, RepDs.of_get ds vs (by simpa using hl) fun j d' v' hd hv => h (j + 1) d' v' (by simpa using hd) (by simpa using hv)⟩
  | [], _ :: _, hl, _ => by simp at hl
  | _ :: _, [], hl, _ => by simp at hl
theorem RepDs.one {Pr : PM} : ∀ (ds : List D) (vs : List Value), RepDs Pr ds vs → ∀ v ∈ vs, v.oneCell' = true
  | [], [], _ => by simp
  | d :: ds, v :: vs, h => by
    intro u hu
    rcases List.mem_cons.1 hu with rfl | hu
    · exact h.1.one
    · exact RepDs.one ds vs h.2 u hu
  | [], _ :: _, h => by simp [RepDs] at h
  | _ :: _, [], h => by simp [RepDs] at h

/-! ### New blocks -/
def prExt (Pr : PM) (b lo : Nat) (us : List Value) : PM := fun b' o => if b' = b ∧ lo ≤ o ∧ o < lo + us.length then us[o - lo]? else Pr b' o
theorem prExt_le {Pr : PM} {b lo : Nat} {us : List Value} (h : ∀ o, lo ≤ o → Pr b o = none) : PrLe Pr (prExt Pr b lo us) := by
  intro b' o v hv
  simp only [prExt]
  split
  · rename_i hc
    obtain ⟨rfl, h1, _⟩ := hc
    rw [h o h1] at hv; cases hv
  · exact hv
theorem prExt_at {Pr : PM} {b lo : Nat} {us : List Value} {j : Nat} {v : Value} (h : us[j]? = some v) : prExt Pr b lo us b (lo + j) = some v := by
  have hj := (List.getElem?_eq_some_iff.1 h).1
  simp only [prExt]
  rw [if_pos ⟨trivial, by omega, by omega⟩, Nat.add_sub_cancel_left]; exact h
theorem prExt_other {Pr : PM} {b lo : Nat} {us : List Value} {b' : Nat} (h : b' ≠ b) (o : Nat) : prExt Pr b lo us b' o = Pr b' o := by
  simp only [prExt]; rw [if_neg (fun q => h q.1)]
theorem PrOK.new {Pr : PM} {w : World} (h : PrOK Pr w) (o : Nat) : Pr w.heap.size o = none := by
  cases hp : Pr w.heap.size o with
  | none => rfl
  | some v => have := h _ _ _ hp; simp [World.cell?] at this

theorem cell_cells {w : World} {b : Nat} {c : Array Value} {T : TypeId} {f : Nat × Nat} (h : w.heap[b]? = some (.cells c T f)) (o : Nat) : w.cell? ⟨b, o, none⟩ = c[o]? := by
  simp [World.cell?, h]

theorem PrOK.push {Pr : PM} {w : World} (h : PrOK Pr w) (ob : Obj) : PrOK Pr { w with heap := w.heap.push ob } := by
  intro b o v hv
  have := h b o v hv
  simp only [World.cell?] at this ⊢
  by_cases hb : b < w.heap.size
  · rw [Array.getElem?_push, if_neg (by omega)]; exact this
  · rw [Array.getElem?_eq_none (by omega)] at this; cases this
theorem keeps_push {Pr : PM} {w : World} {ob : Obj} {B : List Nat} (h : ∀ b ∈ B, b < w.heap.size) : Keeps B Pr w Pr { w with heap := w.heap.push ob } := by
  intro b hb
  have := h b hb
  exact ⟨by simp only [Array.getElem?_push]; rw [if_neg (by omega)], fun _ => rfl⟩
theorem Ext.push (A : Nat → Prop) (Pr : PM) (w : World) (ob : Obj) : Ext A Pr w Pr { w with heap := w.heap.push ob } :=
  ⟨rfl, rfl, rfl, by simp, PrLe.refl _, fun b hb _ => ⟨by simp only [Array.getElem?_push]; rw [if_neg (by omega)], fun _ => rfl⟩⟩
theorem Ext.pr {A : Nat → Prop} {Pr Pr' : PM} {w w' : World} (h : Ext A Pr w Pr w') (hle : PrLe Pr Pr') (hb : ∀ b, b < w.heap.size → ¬ A b → ∀ o, Pr' b o = Pr b o) : Ext A Pr w Pr' w' :=
  ⟨h.os, h.tape, h.output, h.size, hle, fun b hl hn => ⟨(h.block b hl hn).1, hb b hl hn⟩⟩
theorem Ext.drew {A : Nat → Prop} {Pr Pr' : PM} {w w' : World} (h : Ext A Pr w Pr' w') (n : Nat) : Ext A Pr w Pr' { w' with drawn := n } := ⟨h.os, h.tape, h.output, h.size, h.le, h.block⟩
theorem PrOK.drew {Pr : PM} {w : World} (h : PrOK Pr w) (n : Nat) : PrOK Pr { w with drawn := n } := h

/-- Cells written from lo on into a block of one's own. -/
theorem PrOK.setRow {Pr : PM} {w : World} (h : PrOK Pr w) {b : Nat} {c : Array Value} {T : TypeId} {f : Nat × Nat} (hb : w.heap[b]? = some (.cells c T f)) (c' : Array Value)
    (hk : ∀ o v, Pr b o = some v → c'[o]? = c[o]?) (w' : World) (hw' : w'.heap[b]? = some (.cells c' T f)) (ho : ∀ b', b' ≠ b → w'.heap[b']? = w.heap[b']?) : PrOK Pr w' := by
  intro b' o v hv
  have h1 := h b' o v hv
  by_cases e : b' = b
  · subst e
    rw [cell_cells hw', hk o v hv, ← cell_cells hb]; exact h1
  · simp only [World.cell?, ho b' e] at h1 ⊢; exact h1
end Go.Proofs.YtfafmpiajlgojaaDoor.Lg
