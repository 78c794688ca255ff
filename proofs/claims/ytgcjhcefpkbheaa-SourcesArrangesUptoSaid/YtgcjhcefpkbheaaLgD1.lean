/- Part of a proof of the seat's statements: no statement by itself. -/
import Derived.Test.YtgcjhcefpkbheaaLgC6
import Derived.SizedLaws
import Derived.ChangeArms
import Derived.OpenShut
import Derived.Carry
import Derived.Handed
import Derived.ChangeSame
import Derived.RowKit
import Derived.Laws.StructEq
import Derived.ChangeKeysEq
section
namespace Go.Proofs.Ytgcjhcefpkbheaa.Lg
open Go
variable {Lz : PM}

/-! What a row's arguments are. -/
def Sh.bytes : Sh → Nat
  | .int k => k.bits / 8
  | .bool => 1
  | .str => 16
  | .sl _ => 24
  | .mp _ _ _ => 8
def bytesL (es : List Sh) : Nat := (es.map Sh.bytes).sum
def fieldsSh (P : Program) (f : TypeId → Option (List Sh)) : Nat → List Field → Option (List Sh)
  | _, [] => some []
  | o, x :: xs => match f x.type, fieldsSh P f (o + P.cellsOf x.type) xs with
    | some es, some fs => bif Nat.beq x.offset o && Nat.beq (P.cellsOf x.type) es.length then some (es ++ fs) else none
    | _, _ => none
def reps (es : List Sh) : Nat → List Sh
  | 0 => []
  | n + 1 => es ++ reps es n
def shOf (P : Program) : Nat → TypeId → Option (List Sh)
  | 0, _ => none
  | n + 1, t => match P.underlying t with
    | some .bool => some [.bool]
    | some (.int k) => some [.int k]
    | some .string => some [.str]
    | some (.slice e) => match shOf P n e with
      | some es => bif Nat.beq (P.cellsOf e) es.length && Nat.blt 0 es.length && Nat.ble (bytesL es) (P.bytesOf e) then some [.sl es] else none
      | none => none
    | some (.struct fs) => match fieldsSh P (shOf P n) 0 fs.toList with
      | some es => bif Nat.beq (P.cellsOf t) es.length then some es else none
      | none => none
    | some (.array k e) => match shOf P n e with
      | some es => bif Nat.beq (P.cellsOf e) es.length && Nat.beq (P.cellsOf t) (k * es.length) then some (reps es k) else none
      | none => none
    | _ => none

mutual
def CE.small : (e : Sh) → CE e → Prop
  | .int k, n => (Lit.int k n).wf = true
  | .bool, _ => True
  | .str, s => s.length ≤ reachBytes
  | .sl es, l => l.length * bytesL es ≤ reachBytes ∧ ∀ r ∈ l, RowE.small es r
  | .mp _ _ _, _ => True
def RowE.small : (es : List Sh) → RowE es → Prop
  | [], _ => True
  | e :: es, r => CE.small e r.1 ∧ RowE.small es r.2
end
/-! How many values and letters there are. -/
mutual
def CE.bulk : (e : Sh) → CE e → Nat
  | .int _, _ => 1
  | .bool, _ => 1
  | .str, s => s.length + 1
  | .sl es, l => (l.map (RowE.bulk es)).sum + 1
  | .mp _ _ _, _ => 1
def RowE.bulk : (es : List Sh) → RowE es → Nat
  | [], _ => 0
  | e :: es, r => CE.bulk e r.1 + RowE.bulk es r.2
end
mutual
def blk {H : Type} : DataW H → Nat
  | .lit (.string bytes) => bytes.length + 1
  | .lit _ => 1
  | .nil => 1
  | .ptr d => blk d + 1
  | .slice elems spare => blkAll elems + blkAll spare + 1
  | .agg parts => blkAll parts + 1
  | .iface _ d => blk d + 1
  | .map entries => blkEntries entries + 1
  | .held _ => 1
def blkAll {H : Type} : List (DataW H) → Nat
  | [] => 0
  | d :: r => blk d + blkAll r
def blkEntries {H : Type} : List (Lit × DataW H) → Nat
  | [] => 0
  | (k, d) :: r => blk (.lit (H := H) k) + blk d + blkEntries r
end
theorem one_le_blk {H : Type} (d : DataW H) : 1 ≤ blk d := by
  cases d with
  | lit l => cases l <;> simp [blk]
  | nil => simp [blk]
  | ptr d => simp [blk]
  | slice elems spare => simp [blk]
  | agg parts => simp [blk]
  | iface t d => simp [blk]
  | map entries => simp [blk]
  | held h => simp [blk]
theorem blkAll_sum {H : Type} : ∀ l : List (DataW H), blkAll l = (l.map blk).sum
  | [] => by simp [blkAll]
  | d :: l => by simp [blkAll, blkAll_sum l]
theorem sum_le_sum {α β : Type} {f : α → Nat} {g : β → Nat} : ∀ (l : List α) (m : List β), l.length ≤ m.length → (∀ (i : Nat) (x : α) (y : β), l[i]? = some x → m[i]? = some y → f x ≤ g y) → (l.map f).sum ≤ (m.map g).sum
  | [], _, _, _ => by simp
  | x :: l, [], h, _ => by simp at h
  | x :: l, y :: m, h, k => by
    have := sum_le_sum l m (by simpa using h) fun i a b h1 h2 => k (i + 1) a b (by simpa using h1) (by simpa using h2)
    have := k 0 x y rfl rfl
    simp only [List.map_cons, List.sum_cons]; omega
def RowE.app : (a b : List Sh) → RowE a → RowE b → RowE (a ++ b)
  | [], _, _, s => s
  | _ :: a, b, r, s => (r.1, RowE.app a b r.2 s)
theorem RowVals.app {Pr : PM} : ∀ (a b : List Sh) (r : RowE a) (s : RowE b) (vs us : List Value), RowVals Pr a r vs → RowVals Pr b s us → RowVals Pr (a ++ b) (RowE.app a b r s) (vs ++ us)
  | [], b, r, s, [], us, _, k => k
  | e :: a, b, r, s, v :: vs, us, h, k => by simp only [RowVals] at h; exact ⟨h.1, RowVals.app a b r.2 s vs us h.2 k⟩
  | [], _, _, _, _ :: _, _, h, _ => by simp [RowVals] at h
  | _ :: _, _, _, _, [], _, h, _ => by simp [RowVals] at h
theorem RowE.small_app : ∀ (a b : List Sh) (r : RowE a) (s : RowE b), RowE.small a r → RowE.small b s → RowE.small (a ++ b) (RowE.app a b r s)
  | [], b, r, s, _, k => k
  | e :: a, b, r, s, h, k => by simp only [RowE.small] at h; simp only [List.cons_append, RowE.small]; exact ⟨h.1, RowE.small_app a b r.2 s h.2 k⟩
theorem RowE.bulk_app : ∀ (a b : List Sh) (r : RowE a) (s : RowE b), RowE.bulk (a ++ b) (RowE.app a b r s) = RowE.bulk a r + RowE.bulk b s
  | [], b, r, s => by simp only [RowE.bulk, Nat.zero_add]; rfl
  | e :: a, b, r, s => by
    have := RowE.bulk_app a b r.2 s
    simp only [List.cons_append, RowE.bulk]
    show CE.bulk e r.1 + RowE.bulk (a ++ b) (RowE.app a b r.2 s) = _
    rw [this]; omega
def allPr (w : World) : PM := fun b o => cellX w b o
theorem allPr_ok (w : World) : PrOK (allPr w) w := fun _ _ _ h => h

section
variable {P : Program} {W : World} {H : Type} {enc : TypeId × Value → H}

theorem cells_spec {a : Addr} {n : Nat} {cs : List Value} (h : W.cells? 0 a n = some cs) : cs.length = n ∧ ∀ i v, cs[i]? = some v → W.cell? (a.add i) = some v := by
  unfold World.cells? at h
  rw [if_pos (Nat.zero_le _)] at h
  have hl := mapM_some_length h
  simp at hl
  refine ⟨hl.symm ▸ rfl, fun i v hi => ?_⟩
  have hlt : i < n := by have := (List.getElem?_eq_some_iff.1 hi).1; omega
  have := mapM_some_get h i i (by simp [hlt])
  rw [hi] at this
  exact this

/-- A reading of cells, of one type. -/
def Reads (P : Program) (W : World) (enc : TypeId × Value → H) (t : TypeId) (es : List Sh) : Prop :=
  ∀ (m : Nat) (cs : List Value) (d : DataW H) (ps : List MemPlace), DataW.trod enc P W 0 (fun _ => true) true m t cs = some (d, ps) → (∀ x ∈ d.weights P t, x ≤ reachBytes) →
    ∃ r : RowE es, RowVals (allPr W) es r cs ∧ RowE.small es r ∧ RowE.bulk es r ≤ blk d

theorem weightsEach_mem : ∀ (ts : List TypeId) (ds : List (DataW H)) (i : Nat) (t : TypeId) (d : DataW H), ts[i]? = some t → ds[i]? = some d → ∀ x ∈ d.weights P t, x ∈ DataW.weightsEach P ts ds
  | t' :: ts, d' :: ds, 0, t, d, h1, h2, x, hx => by simp at h1 h2; subst h1 h2; simp [DataW.weightsEach, hx]
  | t' :: ts, d' :: ds, i + 1, t, d, h1, h2, x, hx => by
    simp only [DataW.weightsEach, List.mem_append]
    exact .inr (weightsEach_mem ts ds i t d (by simpa using h1) (by simpa using h2) x hx)
  | [], _, _, _, _, h1, _, _, _ => by simp at h1
  | _ :: _, [], _, _, _, _, h2, _, _ => by simp at h2
theorem weightsAll_mem {e : TypeId} : ∀ (ds : List (DataW H)) (d : DataW H), d ∈ ds → ∀ x ∈ d.weights P e, x ∈ DataW.weightsAll P e ds
  | d' :: ds, d, hd, x, hx => by
    simp only [DataW.weightsAll, List.mem_append]
    rcases List.mem_cons.1 hd with rfl | hd
    · exact .inl hx
    · exact .inr (weightsAll_mem ds d hd x hx)
  | [], _, hd, _, _ => by simp at hd

theorem fields_reads {f : TypeId → Option (List Sh)} (hf : ∀ t es, f t = some es → Reads P W enc t es) (m : Nat) (all : List Value) : ∀ (fs : List Field) (o : Nat) (es : List Sh) (xs : List (DataW H × List MemPlace)),
    fieldsSh P f o fs = some es → all.length = o + es.length → xs.length = fs.length → (∀ (i : Nat) (x : Field), fs[i]? = some x → DataW.trod enc P W 0 (fun _ => true) true m x.type ((all.drop x.offset).take (P.cellsOf x.type)) = xs[i]?) →
    (∀ (i : Nat) (x : Field) (y : DataW H × List MemPlace), fs[i]? = some x → xs[i]? = some y → ∀ z ∈ y.1.weights P x.type, z ≤ reachBytes) → ∃ r : RowE es, RowVals (allPr W) es r (all.drop o) ∧ RowE.small es r ∧ RowE.bulk es r ≤ (xs.map fun y => blk y.1).sum
  | [], o, es, xs, h, hl, _, _, _ => by
    simp [fieldsSh] at h; subst h
    simp at hl
    exact ⟨(), by rw [List.drop_of_length_le (by omega)]; trivial, trivial, by simp [RowE.bulk]⟩
  | x :: fs, o, es, [], h, hl, hx, _, _ => by simp at hx
  | x :: fs, o, es, y :: xs, h, hl, hx, ht, hw => by
    simp only [fieldsSh] at h
    split at h
    · rename_i e1 e2 h1 h2
      cases hc : Nat.beq x.offset o && Nat.beq (P.cellsOf x.type) e1.length
      · rw [hc] at h; cases h
      · rw [hc, cond_true] at h
        simp at h; subst h
        simp only [Bool.and_eq_true] at hc
        have ho := Nat.eq_of_beq_eq_true hc.1
        have hn := Nat.eq_of_beq_eq_true hc.2
        have t0 := ht 0 x rfl
        simp only [List.getElem?_cons_zero] at t0
        obtain ⟨r1, q1, q2, b1⟩ := hf x.type e1 h1 m _ y.1 y.2 t0 (hw 0 x y rfl rfl)
        obtain ⟨r2, q3, q4, b2⟩ := fields_reads hf m all fs (o + P.cellsOf x.type) e2 xs h2 (by rw [hl, hn]; simp; omega) (by simpa using hx) (fun i z hz => by simpa using ht (i + 1) z (by simpa using hz)) (fun i z u h3 h4 => hw (i + 1) z u (by simpa using h3) (by simpa using h4))
        refine ⟨RowE.app e1 e2 r1 r2, ?_, RowE.small_app e1 e2 r1 r2 q2 q4, by rw [RowE.bulk_app]; simp only [List.map_cons, List.sum_cons]; omega⟩
        have e : all.drop o = (all.drop x.offset).take (P.cellsOf x.type) ++ all.drop (o + P.cellsOf x.type) := by
          rw [ho, ← List.drop_drop, List.take_append_drop]
        rw [e]
        exact RowVals.app e1 e2 r1 r2 _ _ q1 q3
    · cases h

theorem reps_reads {e : TypeId} {es : List Sh} (hf : Reads P W enc e es) (m : Nat) (all : List Value) (hn : P.cellsOf e = es.length) : ∀ (k o : Nat) (xs : List (DataW H × List MemPlace)),
    all.length = (o + k) * es.length → xs.length = k → (∀ i, i < k → DataW.trod enc P W 0 (fun _ => true) true m e ((all.drop ((o + i) * P.cellsOf e)).take (P.cellsOf e)) = xs[i]?) →
    (∀ y ∈ xs, ∀ z ∈ y.1.weights P e, z ≤ reachBytes) → ∃ r : RowE (reps es k), RowVals (allPr W) (reps es k) r (all.drop (o * es.length)) ∧ RowE.small (reps es k) r ∧ RowE.bulk (reps es k) r ≤ (xs.map fun y => blk y.1).sum
  | 0, o, xs, hl, _, _, _ => ⟨(), by rw [List.drop_of_length_le (by rw [hl]; simp)]; trivial, trivial, by simp [reps, RowE.bulk]⟩
  | k + 1, o, [], _, hx, _, _ => by simp at hx
  | k + 1, o, y :: xs, hl, hx, ht, hw => by
    have t0 := ht 0 (by omega)
    simp only [List.getElem?_cons_zero, Nat.add_zero] at t0
    obtain ⟨r1, q1, q2, b1⟩ := hf m _ y.1 y.2 t0 (hw y (by simp))
    obtain ⟨r2, q3, q4, b2⟩ := reps_reads hf m all hn k (o + 1) xs (by rw [hl]; congr 1; omega) (by simpa using hx) (fun i hi => by
      have := ht (i + 1) (by omega)
      rw [show o + 1 + i = o + (i + 1) by omega]
      simpa using this) (fun y hy => hw y (by simp [hy]))
    refine ⟨RowE.app es (reps es k) r1 r2, ?_, RowE.small_app es (reps es k) r1 r2 q2 q4, by
      have := RowE.bulk_app es (reps es k) r1 r2
      show RowE.bulk (es ++ reps es k) _ ≤ _
      rw [this]; simp only [List.map_cons, List.sum_cons]; omega⟩
    have e : all.drop (o * es.length) = (all.drop (o * P.cellsOf e)).take (P.cellsOf e) ++ all.drop ((o + 1) * es.length) := by
      rw [hn, Nat.succ_mul, ← List.drop_drop, List.take_append_drop]
    rw [e]
    exact RowVals.app es (reps es k) r1 r2 _ _ q1 q3

theorem choose_list {α : Type} {p : Nat → α → Prop} : ∀ (n : Nat), (∀ i, i < n → ∃ x, p i x) → ∃ l : List α, l.length = n ∧ ∀ i x, l[i]? = some x → p i x
  | 0, _ => ⟨[], rfl, by simp⟩
  | n + 1, h => by
    obtain ⟨l, h1, h2⟩ := choose_list n (fun i hi => h i (by omega))
    obtain ⟨x, hx⟩ := h n (by omega)
    refine ⟨l ++ [x], by simp [h1], fun i y hi => ?_⟩
    by_cases hlt : i < l.length
    · rw [List.getElem?_append_left hlt] at hi; exact h2 i y hi
    · rw [List.getElem?_append_right (by omega)] at hi
      by_cases e : i - l.length = 0
      · rw [e] at hi; simp at hi; subst hi
        have : i = n := by omega
        rw [this]; exact hx
      · have : i - l.length = (i - l.length - 1) + 1 := by omega
        rw [this] at hi; simp at hi

theorem shOf_reads : ∀ (n : Nat) (t : TypeId) (es : List Sh), shOf P n t = some es → Reads P W enc t es
  | 0, t, es, h => by simp [shOf] at h
  | n + 1, t, es, h => by
    intro m cs d ps ht hw
    simp only [shOf] at h
    split at h
    · rename_i hu
      simp at h; subst h
      obtain ⟨b, rfl, _⟩ := DataW.trod_bool hu ht
      exact ⟨(b, ()), ⟨by simp [RepC], trivial⟩, ⟨trivial, trivial⟩, by simp only [RowE.bulk, CE.bulk]; exact one_le_blk d⟩
    · rename_i k hu
      simp at h; subst h
      obtain ⟨x, rfl, _, hwf⟩ := DataW.trod_int hu ht
      exact ⟨(x, ()), ⟨by simp [RepC], trivial⟩, ⟨by simpa only [CE.small] using hwf, trivial⟩, by simp only [RowE.bulk, CE.bulk]; exact one_le_blk d⟩
    · rename_i hu
      simp at h; subst h
      obtain ⟨s, rfl, hd, _⟩ := DataW.trod_string hu ht
      simp only [Prod.mk.injEq] at hd
      refine ⟨(s.data.toList, ()), ⟨by simp [RepC], trivial⟩, ⟨?_, trivial⟩, by rw [hd.1]; simp [RowE.bulk, CE.bulk, blk]⟩
      simp only [CE.small]
      refine hw _ ?_
      rw [hd.1]; simp [DataW.weights]
    · rename_i e hu
      split at h
      · rename_i es' he
        cases hc : (Nat.beq (P.cellsOf e) es'.length && Nat.blt 0 es'.length && Nat.ble (bytesL es') (P.bytesOf e))
        · rw [hc] at h; cases h
        · rw [hc, cond_true] at h
          simp at h; subst h
          simp only [Bool.and_eq_true] at hc
          have hn := Nat.eq_of_beq_eq_true hc.1.1
          have hpos : 0 < es'.length := by have := hc.1.2; rwa [Nat.blt_eq] at this
          have hble := Nat.le_of_ble_eq_true hc.2
          have ih := shOf_reads n e es' he
          rcases DataW.trod_slice hu ht with ⟨rfl, _⟩ | ⟨a, len, cap, elems, rest, q, _, rfl, hd, _, hlc, hcm, hel, hat, hsp, _⟩
          · refine ⟨(([] : List (RowE es')), ()), ⟨?_, trivial⟩, ⟨?_, trivial⟩, by simp only [RowE.bulk, CE.bulk, List.map_nil, List.sum_nil]; exact one_le_blk d⟩
            · simp only [RepC]; exact ⟨none, 0, 0, rfl, rfl, Nat.le_refl _, by simp⟩
            · simp [CE.small]
          · simp only [Prod.mk.injEq] at hd
            have hwall : ∀ y ∈ elems, ∀ z ∈ y.1.weights P e, z ≤ reachBytes := by
              intro y hy z hz
              refine hw z ?_
              rw [hd.1]
              simp only [DataW.weights, hu, List.mem_cons, List.mem_append]
              exact .inr (.inl (weightsAll_mem _ y.1 (List.mem_map_of_mem hy) z hz))
            have heach : ∀ i, i < len → ∃ r : RowE es', RepRow (allPr W) es' r a.block (a.off + i * es'.length) ∧ RowE.small es' r ∧ ∀ y, elems[i]? = some y → RowE.bulk es' r ≤ blk y.1 := by
              intro i hi
              have h1 := hat i hi
              have hlt : i < elems.length := by omega
              have h2 : elems[i]? = some elems[i] := by simp [hlt]
              rw [h2] at h1
              cases hcs : W.cells? 0 (a.add (i * P.cellsOf e)) (P.cellsOf e) with
              | none => rw [hcs] at h1; simp at h1
              | some cs =>
                rw [hcs, Option.bind_some] at h1
                obtain ⟨r, q1, q2, b1⟩ := ih q cs elems[i].1 elems[i].2 h1 (hwall _ (List.getElem_mem hlt))
                obtain ⟨c1, c2⟩ := cells_spec hcs
                refine ⟨r, RowVals.row es' r cs a.block _ q1 fun j v hj => ?_, q2, fun y hy => by rw [h2] at hy; simp at hy; subst hy; exact b1⟩
                have := c2 j v hj
                refine cellX_of ?_ (one_tup (RowVals.one es' r cs q1 v (List.mem_of_getElem? hj)))
                rw [← hn]
                have e1 : W.cell? ((a.add (i * P.cellsOf e)).add j) = W.cell? ⟨a.block, a.off + i * P.cellsOf e + j, none⟩ := by
                  have hs : a.spot = none ∨ W.cell? ((a.add (i * P.cellsOf e)).add j) = none ∨ (i * P.cellsOf e ≠ 0 ∨ j ≠ 0) := by
                    by_cases z1 : i * P.cellsOf e = 0
                    · by_cases z2 : j = 0
                      · cases hsp : a.spot with
                        | none => exact .inl rfl
                        | some q =>
                          right; left
                          rw [z1, z2]
                          simp only [Addr.add, if_true, World.cell?, hsp]
                          split <;> simp
                      · exact .inr (.inr (.inr z2))
                    · exact .inr (.inr (.inl z1))
                  rcases hs with hs | hs | hs
                  · obtain ⟨ab, ao, as⟩ := a
                    simp at hs; subst hs
                    rw [Addr.add_lit, Addr.add_lit]
                  · rw [hs] at this; cases this
                  · obtain ⟨ab, ao, as⟩ := a
                    congr 1
                    simp only [Addr.add]
                    by_cases z1 : i * P.cellsOf e = 0 <;> by_cases z2 : j = 0
                    · rcases hs with hs | hs
                      · exact absurd z1 hs
                      · exact absurd z2 hs
                    all_goals simp [z1, z2]
                rw [← e1]; exact this
            obtain ⟨l, hl1, hl2⟩ := choose_list len heach
            have hspot : l ≠ [] → a.spot = none := by
              intro hne
              have hlen : 0 < len := by
                rcases Nat.eq_zero_or_pos len with z | z
                · rw [z] at hl1; exact absurd (List.length_eq_zero_iff.1 hl1) hne
                · exact z
              have h1 := hat 0 hlen
              have h2 : elems[0]? = some elems[0] := by simp
              rw [h2] at h1
              cases hcs : W.cells? 0 (a.add (0 * P.cellsOf e)) (P.cellsOf e) with
              | none => rw [hcs] at h1; simp at h1
              | some cs =>
                obtain ⟨c1, c2⟩ := cells_spec hcs
                have hcl : 0 < cs.length := by omega
                have := c2 0 cs[0] (by simp)
                simp only [Nat.zero_mul, Addr.add, if_true] at this
                cases hsp : a.spot with
                | none => rfl
                | some z =>
                  exfalso
                  unfold World.cell? at this
                  rw [hsp] at this
                  split at this <;> simp at this
            have hbulk : RowE.bulk [.sl es'] ((l : List (RowE es')), ()) ≤ blk d := by
              rw [hd.1]
              simp only [RowE.bulk, CE.bulk, blk, Nat.add_zero]
              have hsum : (l.map (RowE.bulk es')).sum ≤ (elems.map fun y => blk y.1).sum := sum_le_sum l elems (by omega) fun i x y h1 h2 => (hl2 i x h1).2.2 y h2
              have e1 : blkAll (elems.map fun y => y.1) = (elems.map fun y => blk y.1).sum := by rw [blkAll_sum, List.map_map]; rfl
              have e2 : blkAll (elems.map (·.1)) = (elems.map fun y => blk y.1).sum := e1
              rw [e2]; omega
            refine ⟨((l : List (RowE es')), ()), ⟨?_, trivial⟩, ⟨?_, trivial⟩, hbulk⟩
            · simp only [RepC]
              refine ⟨some a, len, cap, rfl, hl1.symm, hlc, ?_⟩
              by_cases hne : l = []
              · exact .inl hne
              · right
                have := hspot hne
                obtain ⟨ab, ao, as⟩ := a
                simp at this; subst this
                exact ⟨ab, ao, rfl, fun i x hi => (hl2 i x hi).1⟩
            · simp only [CE.small]
              refine ⟨?_, fun r hr => ?_⟩
              · have := hw ((elems.length + rest.length) * P.bytesOf e) (by rw [hd.1]; simp [DataW.weights, hu])
                refine Nat.le_trans (Nat.le_trans (Nat.mul_le_mul_left _ hble) (Nat.mul_le_mul_right _ ?_)) this
                omega
              · obtain ⟨i, hi⟩ := List.getElem?_of_mem hr
                exact (hl2 i r hi).2.1
      · cases h
    · rename_i fs hu
      split at h
      · rename_i es' he
        cases hc : Nat.beq (P.cellsOf t) es'.length
        · rw [hc] at h; cases h
        · rw [hc, cond_true] at h
          simp at h; subst h
          have hn := Nat.eq_of_beq_eq_true hc
          obtain ⟨xs, q, _, hd, hl, hlen, hf⟩ := DataW.trod_struct hu ht
          simp only [Prod.mk.injEq] at hd
          have := fields_reads (fun t es h => shOf_reads n t es h) q cs fs.toList 0 es' xs he (by rw [hl, hn]; simp) (by simpa using hlen) (fun i x hx => hf i x (by simpa using hx)) (fun i x y hx hy z hz => by
            refine hw z ?_
            rw [hd.1]
            simp only [DataW.weights, hu]
            exact weightsEach_mem _ _ i x.type y.1 (by simp at hx; simp [hx]) (by simp [hy]) z hz)
          obtain ⟨r, z1, z2, z3⟩ := this
          refine ⟨r, by simpa using z1, z2, ?_⟩
          rw [hd.1]
          simp only [blk, blkAll_sum, List.map_map]
          exact Nat.le_succ_of_le z3
      · cases h
    · rename_i k e hu
      split at h
      · rename_i es' he
        cases hc : (Nat.beq (P.cellsOf e) es'.length && Nat.beq (P.cellsOf t) (k * es'.length))
        · rw [hc] at h; cases h
        · rw [hc, cond_true] at h
          simp at h; subst h
          simp only [Bool.and_eq_true] at hc
          have hn := Nat.eq_of_beq_eq_true hc.1
          have hn2 := Nat.eq_of_beq_eq_true hc.2
          obtain ⟨xs, q, _, hd, hl, hlen, hf⟩ := DataW.trod_array hu ht
          simp only [Prod.mk.injEq] at hd
          have := reps_reads (shOf_reads n e es' he) q cs hn k 0 xs (by rw [hl, hn2]; simp) hlen (fun i hi => by simpa using hf i hi) (fun y hy z hz => by
            refine hw z ?_
            rw [hd.1]
            simp only [DataW.weights, hu]
            exact weightsAll_mem _ y.1 (List.mem_map_of_mem hy) z hz)
          obtain ⟨r, z1, z2, z3⟩ := this
          refine ⟨r, by simpa using z1, z2, ?_⟩
          rw [hd.1]
          simp only [blk, blkAll_sum, List.map_map]
          exact Nat.le_succ_of_le z3
      · cases h
    · cases h
end
end Go.Proofs.Ytgcjhcefpkbheaa.Lg
end

section
namespace Go.Proofs.Ytgcjhcefpkbheaa.Lg
open Go
variable {Lz : PM}

def aggB (P : Program) (t : TypeId) : Bool := match P.underlying t with | some (.struct _) | some (.array _ _) => true | _ => false
def Rs : List (Bool × List Sh) → Type
  | [] => Unit
  | p :: ps => RowE p.2 × Rs ps
def Rs.small : (ps : List (Bool × List Sh)) → Rs ps → Prop
  | [], _ => True
  | p :: ps, r => RowE.small p.2 r.1 ∧ Rs.small ps r.2
def Rs.bulk : (ps : List (Bool × List Sh)) → Rs ps → Nat
  | [], _ => 0
  | p :: ps, r => RowE.bulk p.2 r.1 + Rs.bulk ps r.2
def Rs.avs : (ps : List (Bool × List Sh)) → Rs ps → List AV
  | [], _ => []
  | p :: ps, r => argAV p.1 p.2 r.1 :: Rs.avs ps r.2
/-- The parameters' types, as they are told. -/
def parsB (P : Program) : List TypeId → List (Bool × List Sh) → Bool
  | [], [] => true
  | t :: ts, p :: ps => (match shOf P 8 t with | some es => (Sh.eqs? es p.2).isSome | none => false) && (Bool.xor (aggB P t) (!p.1)) && (p.1 || Nat.beq p.2.length 1) && P.readableRec t && decide (t < P.types.size) && parsB P ts ps
  | _, _ => false

section
variable {P : Program} {W : World} {H : Type} {enc : TypeId × Value → H}

theorem trod_val {base : Nat} {t : TypeId} {v : Value} {es : List Sh} (hs : shOf P 8 t = some es) (ha : aggB P t = false → es.length = 1) (hv : Value.okWide P W .any base t v) {d : DataW H} {ps : List MemPlace} (h : DataW.Trod enc P W 0 (fun _ => true) true t v d ps) (hw : ∀ x ∈ d.weights P t, x ≤ reachBytes) :
    ∃ r : RowE es, RepA (allPr W) (argAV (aggB P t) es r) v ∧ RowE.small es r ∧ RowE.bulk es r ≤ blk d := by
  obtain ⟨m, hm⟩ := h
  obtain ⟨r, h1, h2⟩ := shOf_reads 8 t es hs m _ d ps hm hw
  refine ⟨r, ?_, h2⟩
  have key : ∀ (cs : Array Value), v.cells = cs → aggB P t = true → v = .agg cs → RepA (allPr W) (argAV (aggB P t) es r) v := by
    intro cs hc hb e
    rw [hb]
    simp only [argAV, RepA]
    exact ⟨cs, e, by rw [← hc]; exact RowVals.ds es r _ h1⟩
  have key2 : aggB P t = false → v.cells = #[v] → RepA (allPr W) (argAV (aggB P t) es r) v := by
    intro hb hc
    rw [hc] at h1
    have hl := ha hb
    rw [hb]
    match es, r, h1, hl with
    | [e], r, h1, _ =>
      simp only [RowVals] at h1
      simp only [argAV, RepA]
      exact RepC.toD e r.1 v h1.1
  have hs' := hs
  simp only [shOf] at hs'
  cases hu : P.underlying t with
  | none => rw [hu] at hs'; cases hs'
  | some u =>
    cases u with
    | struct fs =>
      have hb : aggB P t = true := by simp [aggB, hu]
      simp only [Value.okWide, hu] at hv
      obtain ⟨cs, rfl, _⟩ := hv
      exact key cs rfl hb rfl
    | array n e =>
      have hb : aggB P t = true := by simp [aggB, hu]
      simp only [Value.okWide, hu] at hv
      obtain ⟨cs, rfl, _⟩ := hv
      exact key cs rfl hb rfl
    | bool => obtain ⟨b, rfl⟩ := WideShapes.okWide_bool hu hv; exact key2 (by simp [aggB, hu]) rfl
    | int k => obtain ⟨b, rfl⟩ := WideShapes.okWide_int hu hv; exact key2 (by simp [aggB, hu]) rfl
    | string => obtain ⟨b, rfl⟩ := WideShapes.okWide_string hu hv; exact key2 (by simp [aggB, hu]) rfl
    | slice e => obtain ⟨_, _, _, rfl⟩ := WideShapes.okWide_slice hu hv; exact key2 (by simp [aggB, hu]) rfl
    | _ => rw [hu] at hs'; cases hs'

theorem args_open {base : Nat} : ∀ (ts : List TypeId) (ps : List (Bool × List Sh)) (vs : List Value) (ds : List (DataW H)) (p : List MemPlace), parsB P ts ps = true → DataW.TrodAll enc P W 0 (fun _ => true) true ts vs ds p →
    (∀ (i : Nat) t v, ts[i]? = some t → vs[i]? = some v → Value.okWide P W .any base t v) → (∀ (i : Nat) t (d : DataW H), ts[i]? = some t → ds[i]? = some d → ∀ x ∈ d.weights P t, x ≤ reachBytes) →
    ∃ rs : Rs ps, RepAs (allPr W) (Rs.avs ps rs) vs ∧ Rs.small ps rs ∧ Rs.bulk ps rs ≤ blkAll ds
  | [], [], vs, ds, p, _, h, _, _ => by
    obtain ⟨h1, _, _⟩ := ChangeShapes.trodAll_nil h
    subst h1
    exact ⟨(), by simp [Rs.avs, RepAs], trivial, by simp [Rs.bulk]⟩
  | t :: ts, q :: ps, vs, ds, p, hp, h, hv, hw => by
    obtain ⟨v, vs', d, ds', p1, p2, rfl, rfl, rfl, h1, h2⟩ := ChangeShapes.trodAll_cons h
    simp only [parsB, Bool.and_eq_true] at hp
    obtain ⟨⟨⟨⟨⟨hs, hx⟩, hl⟩, _⟩, _⟩, hrest⟩ := hp
    cases hes : shOf P 8 t with
    | none => rw [hes] at hs; simp at hs
    | some es =>
      rw [hes] at hs
      simp only at hs
      cases he : Sh.eqs? es q.2 with
      | none => rw [he] at hs; simp at hs
      | some pl =>
        obtain ⟨e⟩ := pl
        obtain ⟨b, q2⟩ := q
        simp only at e; subst e
        have hb : aggB P t = b := by cases h1 : aggB P t <;> cases b <;> simp_all
        obtain ⟨r, q1, q2, b1⟩ := trod_val hes (fun h => by
          rw [hb] at h; subst h
          simp at hl; exact hl) (hv 0 t v rfl rfl) h1 (hw 0 t d rfl rfl)
        obtain ⟨rs, q3, q4, b2⟩ := args_open ts ps vs' ds' p2 hrest h2 (fun i t v h3 h4 => hv (i + 1) t v (by simpa using h3) (by simpa using h4)) (fun i t d h3 h4 => hw (i + 1) t d (by simpa using h3) (by simpa using h4))
        rw [hb] at q1
        exact ⟨(r, rs), by simp only [Rs.avs, RepAs]; exact ⟨q1, q3⟩, ⟨q2, q4⟩, by simp only [Rs.bulk, blkAll]; omega⟩
  | [], _ :: _, _, _, _, h, _, _, _ => by simp [parsB] at h
  | _ :: _, [], _, _, _, h, _, _, _ => by simp [parsB] at h

theorem trodAll_stay (hl : laidOutB P = true) {W' : World} (hb : RowKit.Below W.heap.size W W') : ∀ (ts : List TypeId) (ps : List (Bool × List Sh)) (vs : List Value) (ds : List (DataW H)) (p : List MemPlace), parsB P ts ps = true → DataW.TrodAll enc P W 0 (fun _ => true) true ts vs ds p →
    (∀ x ∈ p, x.block < W.heap.size) → DataW.TrodAll enc P W' 0 (fun b => decide (b < W.heap.size)) true ts vs ds p
  | [], [], [], [], _, _, h, _ => h
  | [], [], _ :: _, _, _, _, h, _ => h.elim
  | [], [], [], _ :: _, _, _, h, _ => h.elim
  | t :: ts, q :: ps, vs, ds, p, hp, h, hlt => by
    obtain ⟨v, vs', d, ds', p1, p2, rfl, rfl, rfl, h1, h2⟩ := ChangeShapes.trodAll_cons h
    simp only [parsB, Bool.and_eq_true] at hp
    obtain ⟨⟨⟨⟨⟨hs, hx⟩, _⟩, hr⟩, ht⟩, hrest⟩ := hp
    exact ⟨p1, p2, RowKit.Below.trod hl hr (of_decide_eq_true ht) h1 hb (fun x hx => hlt x (List.mem_append_left _ hx)), trodAll_stay hl hb ts ps vs' ds' p2 hrest h2 (fun x hx => hlt x (List.mem_append_right _ hx)), rfl⟩
  | [], _ :: _, _, _, _, h, _, _ => by simp [parsB] at h
  | _ :: _, [], _, _, _, h, _, _ => by simp [parsB] at h

theorem contract_upto {f : FuncId} {fn : Func} {s : ChangeSpec} {S : List AV → Tr SV} {ps : List (Bool × List Sh)} {tb : TypeId} (hS : Sat P f S) (laid : laidOutB P = true) (hps : parsB P fn.params.toList ps = true)
    (hr : fn.resultTypes = #[tb]) (htb : P.underlying tb = some .bool) (hvars : s.vars = []) (hs : ∀ (ds : List (DataW H)), ds.length = ps.length → s.fn H ds = { results := [.lit (.bool true)], args := ds })
    (B : Nat) (hout : ∀ rs : Rs ps, Rs.small ps rs → Rs.bulk ps rs ≤ B → (S (Rs.avs ps rs)).Out (.val (.d (.bool true)))) :
    ∀ (W : World) (base : Nat) (args : Array Value) (ds gs : List (DataW H)) (before : List MemPlace), JW P W →
      (∀ (j : Nat) t v, fn.params[j]? = some t → args[j]? = some v → Value.okWide P W .any base t v) →
      DataW.Whole enc P fn.params.toList s.vars false W args.toList ds gs before →
      (DataW.weightsEach P (fn.params.toList ++ s.plain.varTypes P) (ds ++ gs)).all (· ≤ reachBytes) = true → blkAll ds ≤ B →
      Calls P f args W fun e W' => ∃ v, e = .returned v ∧ s.post enc P fn false true false false W args v W' := by
  intro W base args ds gs before hJ hval hW hsz hbk
  have hW' := hW
  obtain ⟨p, q, hA, hV, rfl, hfz, hnd⟩ := hW
  rw [hvars] at hV
  obtain ⟨rfl, rfl⟩ := ChangeShapes.trodVars_none hV
  have hlen : ∀ (ts : List TypeId) (vs : List Value) (ds : List (DataW H)) (p : List MemPlace), DataW.TrodAll enc P W 0 (fun _ => true) true ts vs ds p → ds.length = ts.length ∧ vs.length = ts.length := by
    intro ts
    induction ts with
    | nil => intro vs ds p h; obtain ⟨h1, h2, _⟩ := ChangeShapes.trodAll_nil h; subst h1 h2; simp
    | cons t ts ih =>
      intro vs ds p h
      obtain ⟨v, vs', d, ds', p1, p2, rfl, rfl, rfl, h1, h2⟩ := ChangeShapes.trodAll_cons h
      have := ih vs' ds' p2 h2
      simp [this.1, this.2]
  have hl2 : ∀ (ts : List TypeId) (ps : List (Bool × List Sh)), parsB P ts ps = true → ps.length = ts.length := by
    intro ts
    induction ts with
    | nil => intro ps h; cases ps with
      | nil => rfl
      | cons _ _ => simp [parsB] at h
    | cons t ts ih =>
      intro ps h
      cases ps with
      | nil => simp [parsB] at h
      | cons q ps => simp only [parsB, Bool.and_eq_true] at h; simp [ih ps h.2]
  have hds := (hlen _ _ _ _ hA).1
  obtain ⟨rs, hrep, hsm, hbs⟩ := args_open (base := base) fn.params.toList ps args.toList ds p hps hA (fun i t v h1 h2 => hval i t v (by simpa using h1) (by simpa using h2)) (fun i t d h1 h2 x hx => by
    have hm := weightsEach_mem (fn.params.toList ++ s.plain.varTypes P) (ds ++ []) i t d (by rw [List.getElem?_append_left (List.getElem?_eq_some_iff.1 h1).1]; exact h1) (by simpa using h2) x hx
    have := List.all_eq_true.1 hsz x hm
    exact of_decide_eq_true this)
  have hcall := hS.calls _ _ (hout rs hsm (Nat.le_trans hbs hbk)) (allPr W) W args.toList hJ hrep (allPr_ok W)
  rw [Array.toArray_toList] at hcall
  refine Calls.mono hcall fun e W' ⟨v, Pr', B, he, _, hrv, _, hx, _, _⟩ => ?_
  subst he
  refine ⟨v, rfl, ?_⟩
  have hv : v = .bool true := by simp only [RepS, RepA, RepD] at hrv; exact hrv.1
  subst hv
  have hbel : RowKit.Below W.heap.size W W' := ⟨hx.os, hx.tape, hx.output, hx.size, fun k hk => (hx.block k hk (fun h => h)).1⟩
  have hlt := hA.lt
  have hfn : s.fn H (ds ++ []) = { results := [.lit (.bool true)], args := ds } := by
    rw [List.append_nil]
    exact hs ds (by rw [hds, hl2 _ _ hps])
  refine ⟨ds, [], p ++ [], [], p, [], hW', ?_, ?_, ?_, hbel.frame _, fun h => by cases h⟩
  · rw [hfn, hr]
    exact ChangeShapes.trodAll_mk1 ⟨1, by simp [DataW.trod, Value.cells, htb]⟩
  · rw [hfn]
    exact trodAll_stay laid hbel _ ps _ _ _ hps hA hlt
  · rw [hfn, hvars]; rfl
theorem contract_of {f : FuncId} {fn : Func} {s : ChangeSpec} {S : List AV → Tr SV} {ps : List (Bool × List Sh)} {tb : TypeId} (hS : Sat P f S) (laid : laidOutB P = true) (hps : parsB P fn.params.toList ps = true)
    (hr : fn.resultTypes = #[tb]) (htb : P.underlying tb = some .bool) (hvars : s.vars = []) (hs : ∀ (ds : List (DataW H)), ds.length = ps.length → s.fn H ds = { results := [.lit (.bool true)], args := ds })
    (hout : ∀ rs : Rs ps, Rs.small ps rs → (S (Rs.avs ps rs)).Out (.val (.d (.bool true)))) :
    ∀ (W : World) (base : Nat) (args : Array Value) (ds gs : List (DataW H)) (before : List MemPlace), JW P W →
      (∀ (j : Nat) t v, fn.params[j]? = some t → args[j]? = some v → Value.okWide P W .any base t v) →
      DataW.Whole enc P fn.params.toList s.vars false W args.toList ds gs before →
      (DataW.weightsEach P (fn.params.toList ++ s.plain.varTypes P) (ds ++ gs)).all (· ≤ reachBytes) = true →
      Calls P f args W fun e W' => ∃ v, e = .returned v ∧ s.post enc P fn false true false false W args v W' :=
  fun W base args ds gs before h0 h1 h2 h3 => contract_upto hS laid hps hr htb hvars hs (blkAll ds) (fun rs h _ => hout rs h) W base args ds gs before h0 h1 h2 h3 (Nat.le_refl _)
end
end Go.Proofs.Ytgcjhcefpkbheaa.Lg
end

section
namespace Go.Proofs.Ytgcjhcefpkbheaa.Lg
open Go
variable {Lz : PM}

def eqAll : List D → List D → Bool
  | x :: xs, y :: ys => (eqD x y).getD false && eqAll xs ys
  | _, _ => true
theorem eqDs_all : ∀ (ds es : List D) (r : Bool), eqDs ds es = some r → eqAll ds es = r
  | [], [], r, h => by simp [eqDs] at h; simp [eqAll, h]
  | [x], [y], r, h => by simp only [eqDs] at h; simp [eqAll, h]
  | x :: x' :: xs, y :: ys, r, h => by
    simp only [eqDs] at h
    split at h
    · rename_i a b h1 h2
      have := eqDs_all (x' :: xs) ys b h2
      simp at h; subst h
      unfold eqAll
      rw [h1, this]; rfl
    · cases h
  | [x], y :: y' :: ys, r, h => by
    simp only [eqDs] at h
    split at h
    · rename_i a b h1 h2
      simp [eqDs] at h2
    · cases h
  | [], _ :: _, r, h => by simp [eqDs] at h
  | _ :: _, [], r, h => by simp [eqDs] at h
theorem eqAll_split : ∀ (n : Nat) (ds es : List D), ds.length = es.length → eqAll ds es = (eqAll (ds.take n) (es.take n) && eqAll (ds.drop n) (es.drop n))
  | 0, ds, es, _ => by simp [eqAll]
  | n + 1, [], [], _ => by simp [eqAll]
  | n + 1, x :: xs, y :: ys, h => by
    simp only [List.take_succ_cons, List.drop_succ_cons, eqAll]
    rw [eqAll_split n xs ys (by simpa using h), Bool.and_assoc]
  | _ + 1, [], _ :: _, h => by simp at h
  | _ + 1, _ :: _, [], h => by simp at h

theorem dsFit_length : ∀ (sh : List Sh) (ds : List D), dsFit sh ds = true → ds.length = sh.length
  | [], [], _ => rfl
  | .int k :: es, .int k' _ :: ds, h => by simp only [dsFit, Bool.and_eq_true] at h; simp [dsFit_length es ds h.2]
  | .bool :: es, .bool _ :: ds, h => by simp only [dsFit] at h; simp [dsFit_length es ds h]
  | .str :: es, .str _ :: ds, h => by simp only [dsFit] at h; simp [dsFit_length es ds h]
  | [], _ :: _, h => by simp [dsFit] at h
  | _ :: _, [], h => by simp [dsFit] at h
  | .int _ :: _, .bool _ :: _, h => by simp [dsFit] at h
  | .int _ :: _, .str _ :: _, h => by simp [dsFit] at h
  | .int _ :: _, .sl _ _ :: _, h => by simp [dsFit] at h
  | .bool :: _, .int _ _ :: _, h => by simp [dsFit] at h
  | .bool :: _, .str _ :: _, h => by simp [dsFit] at h
  | .bool :: _, .sl _ _ :: _, h => by simp [dsFit] at h
  | .str :: _, .int _ _ :: _, h => by simp [dsFit] at h
  | .str :: _, .bool _ :: _, h => by simp [dsFit] at h
  | .str :: _, .sl _ _ :: _, h => by simp [dsFit] at h
  | .sl _ :: _, _ :: _, h => by simp [dsFit] at h
theorem dsFit_cons {e : Sh} {es : List Sh} {d : D} {ds : List D} (h : dsFit (e :: es) (d :: ds) = true) : dsFit [e] [d] = true ∧ dsFit es ds = true := by
  cases e <;> cases d <;> simp [dsFit] at h ⊢ <;> exact h
theorem dsFit_take : ∀ (n : Nat) (sh : List Sh) (ds : List D), dsFit sh ds = true → dsFit (sh.take n) (ds.take n) = true ∧ dsFit (sh.drop n) (ds.drop n) = true
  | 0, sh, ds, h => by simp [dsFit]; exact h
  | n + 1, [], [], _ => by simp [dsFit]
  | n + 1, e :: es, d :: ds, h => by
    obtain ⟨h1, h2⟩ := dsFit_cons h
    obtain ⟨h3, h4⟩ := dsFit_take n es ds h2
    refine ⟨?_, by simpa using h4⟩
    simp only [List.take_succ_cons]
    cases e <;> cases d <;> simp [dsFit] at h1 ⊢ <;> first | exact h3 | exact ⟨h1, h3⟩
  | _ + 1, [], _ :: _, h => by simp [dsFit] at h
  | _ + 1, _ :: _, [], h => by simp [dsFit] at h

def eqFB (T : Tab) (f : Nat → Bool) : Nat → List Sh → List Field → Bool
  | _, sh, [] => sh.isEmpty
  | o, sh, x :: xs => match ti? x.type T with
    | some j => (x.name != "_") && (j.agg || Nat.beq j.sh.length 1) && Nat.beq x.offset o && (Sh.eqs? (sh.take j.sh.length) j.sh).isSome && f x.type && eqFB T f (o + j.sh.length) (sh.drop j.sh.length) xs
    | none => false
def eqIB (j : TI) : Nat → List Sh → Bool
  | 0, sh => sh.isEmpty
  | n + 1, sh => (Sh.eqs? (sh.take j.sh.length) j.sh).isSome && eqIB j n (sh.drop j.sh.length)
def eqB (P : Program) (T : Tab) : Nat → Nat → Bool
  | 0, _ => false
  | n + 1, t => match ti? t T, P.underlying t with
    | some i, some (.struct fs) => i.agg && !P.stoodInHeld t && eqFB T (eqB P T n) 0 i.sh fs.toList
    | some i, some (.array m e) => (match ti? e T with
      | some j => i.agg && (j.agg || Nat.beq j.sh.length 1) && eqIB j m i.sh && eqB P T n e
      | none => false)
    | some i, some (.int k) => (Sh.eqs? i.sh [.int k]).isSome && !i.agg
    | some i, some .bool => (Sh.eqs? i.sh [.bool]).isSome && !i.agg
    | some i, some .string => (Sh.eqs? i.sh [.str]).isSome && !i.agg
    | _, _ => false

/-- A value of cells. -/
def ofCells (agg : Bool) (vs : List Value) : Value := bif agg then .agg vs.toArray else vs.headD undef

def EqOK (P : Program) (T : Tab) (t : Nat) (n : Nat) : Prop :=
  ∀ i, ti? t T = some i → ∀ (Pr : PM) (ds es : List D) (xs ys : List Value) (w : World), dsFit i.sh ds = true → dsFit i.sh es = true → RepDs Pr ds xs → RepDs Pr es ys →
    ∀ d, n ≤ d → (Op.equalIn d t (ofCells i.agg xs) (ofCells i.agg ys)).run P w = .ok (eqAll ds es) w

theorem one_of {Pr : PM} {e : Sh} {ds : List D} {xs : List Value} (h : dsFit [e] ds = true) (hr : RepDs Pr ds xs) : ∃ d v, ds = [d] ∧ xs = [v] ∧ RepD Pr d v := by
  have := dsFit_length _ _ h
  match ds, xs, this, hr with
  | [d], [v], _, hr => exact ⟨d, v, rfl, rfl, hr.1⟩

section
variable {P : Program} {T : Tab}
theorem eqF_sound (hty : ∀ t i, ti? t T = some i → Nonempty (TyF P t i)) {f : Nat → Bool} {n : Nat} (hf : ∀ t, f t = true → EqOK P T t n) {Pr : PM} {xs ys : Array Value} {w : World} {d : Nat} (hd : n ≤ d) : ∀ (fs : List Field) (o : Nat) (sh : List Sh) (ds es : List D),
    eqFB T f o sh fs = true → dsFit sh ds = true → dsFit sh es = true → RepDs Pr ds (xs.toList.drop o) → RepDs Pr es (ys.toList.drop o) → (Op.eqFields d xs ys fs).run P w = .ok (eqAll ds es) w
  | [], o, sh, ds, es, h, h1, h2, _, _ => by
    simp [eqFB] at h; subst h
    have e1 := dsFit_length _ _ h1
    have e2 := dsFit_length _ _ h2
    simp at e1 e2
    subst e1 e2
    simp [Op.eqFields, eqAll]
  | x :: fs, o, sh, ds, es, h, h1, h2, h3, h4 => by
    simp only [eqFB] at h
    split at h
    · rename_i j hj
      simp only [Bool.and_eq_true, bne_iff_ne] at h
      obtain ⟨⟨⟨⟨⟨hn, hag⟩, ho⟩, hsh⟩, hfx⟩, hrest⟩ := h
      have ho := Nat.eq_of_beq_eq_true ho
      cases he : Sh.eqs? (sh.take j.sh.length) j.sh with
      | none => rw [he] at hsh; simp at hsh
      | some pl =>
        obtain ⟨e⟩ := pl
        obtain ⟨tf⟩ := hty _ _ hj
        obtain ⟨a1, a2⟩ := dsFit_take j.sh.length sh ds h1
        obtain ⟨b1, b2⟩ := dsFit_take j.sh.length sh es h2
        rw [e] at a1 b1
        have hl1 := dsFit_length _ _ h1
        have hl2 := dsFit_length _ _ h2
        have part : ∀ (zs : Array Value) (qs : List D), dsFit j.sh (qs.take j.sh.length) = true → RepDs Pr qs (zs.toList.drop o) → (Go.part x.type zs x.offset).run P w = .ok (ofCells j.agg ((zs.toList.drop o).take j.sh.length)) w := by
          intro zs qs hfit hr
          rw [ho]
          cases ha : j.agg
          · have hone : j.sh.length = 1 := by
              rw [ha] at hag; simpa using hag
            have hl := RepDs.length _ _ hr
            have hql := dsFit_length _ _ hfit
            rw [hone] at hql
            have hpos : 0 < qs.length := by
              cases qs with
              | nil => simp at hql
              | cons _ _ => simp
            have hz : o < zs.size := by simp at hl; omega
            rw [run_part_one tf ha (v := zs[o]) (by simp [hz])]
            have : (zs.toList.drop o) = zs[o] :: zs.toList.drop (o + 1) := by
              rw [List.drop_eq_getElem_cons (by simpa using hz)]; simp
            rw [this, hone]
            rfl
          · rw [run_part_agg tf ha]
            simp [ofCells]
            rw [← Array.toList_inj]
            simp
        have p1 := part xs ds a1 h3
        have p2 := part ys es b1 h4
        have q := hf x.type hfx j hj Pr (ds.take j.sh.length) (es.take j.sh.length) _ _ w a1 b1 (h3.take j.sh.length) (h4.take j.sh.length) d hd
        have ih := eqF_sound hty hf (w := w) hd fs (o + j.sh.length) (sh.drop j.sh.length) _ _ hrest a2 b2 (by rw [← List.drop_drop]; exact h3.drop j.sh.length) (by rw [← List.drop_drop]; exact h4.drop j.sh.length)
        rw [eqAll_split j.sh.length ds es (by omega)]
        simp only [Op.eqFields, if_pos hn, Sem.run_bind, p1, p2, q, Result.andThen_ok]
        cases eqAll (ds.take j.sh.length) (es.take j.sh.length)
        · simp
        · simp only [Bool.not_true, Bool.false_eq_true, if_false, Bool.true_and]
          exact ih
    · cases h

theorem part_cells {j : TI} {t : Nat} (tf : TyF P t j) (hag : j.agg = true ∨ j.sh.length = 1) {Pr : PM} {w : World} (zs : Array Value) (o : Nat) (qs : List D) (hfit : dsFit j.sh (qs.take j.sh.length) = true)
    (hr : RepDs Pr qs (zs.toList.drop o)) : (Go.part t zs o).run P w = .ok (ofCells j.agg ((zs.toList.drop o).take j.sh.length)) w := by
  cases ha : j.agg
  · have hone : j.sh.length = 1 := by
      rw [ha] at hag; simpa using hag
    have hl := RepDs.length _ _ hr
    have hql := dsFit_length _ _ hfit
    rw [hone] at hql
    have hpos : 0 < qs.length := by
      cases qs with
      | nil => simp at hql
      | cons _ _ => simp
    have hz : o < zs.size := by simp at hl; omega
    rw [run_part_one tf ha (v := zs[o]) (by simp [hz])]
    have : (zs.toList.drop o) = zs[o] :: zs.toList.drop (o + 1) := by
      rw [List.drop_eq_getElem_cons (by simpa using hz)]; simp
    rw [this, hone]
    rfl
  · rw [run_part_agg tf ha]
    simp [ofCells]
    rw [← Array.toList_inj]
    simp
theorem eqI_sound {j : TI} {e : Nat} (tf : TyF P e j) (hj : ti? e T = some j) (hag : j.agg = true ∨ j.sh.length = 1) {n : Nat} (hf : EqOK P T e n) {Pr : PM} {xs ys : Array Value} {w : World} {d : Nat} (hd : n ≤ d) : ∀ (m k : Nat) (sh : List Sh) (ds es : List D),
    eqIB j m sh = true → dsFit sh ds = true → dsFit sh es = true → RepDs Pr ds (xs.toList.drop (k * j.sh.length)) → RepDs Pr es (ys.toList.drop (k * j.sh.length)) →
    (Op.eqItems d e j.sh.length xs ys (List.range' k m)).run P w = .ok (eqAll ds es) w
  | 0, k, sh, ds, es, h, h1, h2, _, _ => by
    simp [eqIB] at h; subst h
    have e1 := dsFit_length _ _ h1
    have e2 := dsFit_length _ _ h2
    simp at e1 e2
    subst e1 e2
    simp [Op.eqItems, eqAll]
  | m + 1, k, sh, ds, es, h, h1, h2, h3, h4 => by
    simp only [eqIB, Bool.and_eq_true] at h
    obtain ⟨hsh, hrest⟩ := h
    cases he : Sh.eqs? (sh.take j.sh.length) j.sh with
    | none => rw [he] at hsh; simp at hsh
    | some pl =>
      obtain ⟨e⟩ := pl
      obtain ⟨a1, a2⟩ := dsFit_take j.sh.length sh ds h1
      obtain ⟨b1, b2⟩ := dsFit_take j.sh.length sh es h2
      rw [e] at a1 b1
      have hl1 := dsFit_length _ _ h1
      have hl2 := dsFit_length _ _ h2
      have p1 := part_cells tf hag (w := w) xs _ ds a1 h3
      have p2 := part_cells tf hag (w := w) ys _ es b1 h4
      have q := hf j hj Pr (ds.take j.sh.length) (es.take j.sh.length) _ _ w a1 b1 (h3.take j.sh.length) (h4.take j.sh.length) d hd
      have e3 : (k + 1) * j.sh.length = k * j.sh.length + j.sh.length := by rw [Nat.add_mul, Nat.one_mul]
      have ih := eqI_sound tf hj hag hf (w := w) hd m (k + 1) (sh.drop j.sh.length) _ _ hrest a2 b2 (by rw [e3, ← List.drop_drop]; exact h3.drop j.sh.length) (by rw [e3, ← List.drop_drop]; exact h4.drop j.sh.length)
      rw [eqAll_split j.sh.length ds es (by omega)]
      simp only [List.range'_succ, Op.eqItems, Sem.run_bind, p1, p2, q, Result.andThen_ok]
      cases eqAll (ds.take j.sh.length) (es.take j.sh.length)
      · simp
      · simp only [Bool.not_true, Bool.false_eq_true, if_false, Bool.true_and]
        exact ih

theorem eqs_of {a b : List Sh} (h : (Sh.eqs? a b).isSome = true) : a = b := by
  cases he : Sh.eqs? a b with
  | none => rw [he] at h; simp at h
  | some pl => exact pl.down

theorem eqB_sound (hty : ∀ t i, ti? t T = some i → Nonempty (TyF P t i)) : ∀ (n t : Nat), eqB P T n t = true → EqOK P T t n
  | 0, t, h => by simp [eqB] at h
  | n + 1, t, h => by
    intro i hi Pr ds es xs ys w h1 h2 h3 h4 d hd
    simp only [eqB, hi] at h
    obtain ⟨d, rfl⟩ : ∃ d', d = d' + 1 := ⟨d - 1, by omega⟩
    cases hu : P.underlying t with
    | none => rw [hu] at h; cases h
    | some u =>
      rw [hu] at h
      cases u with
      | struct fs =>
        simp only [Bool.and_eq_true, Bool.not_eq_true'] at h
        obtain ⟨⟨ha, hsi⟩, hf⟩ := h
        rw [ha]
        simp only [ofCells, cond_true]
        have e : P.fieldsOf t = fs := by simp [Program.fieldsOf, hu]
        rw [run_equalIn_struct w d t _ _ (by rw [e]; exact hu) hsi, e]
        exact eqF_sound hty (fun t h => eqB_sound hty n t h) (by omega) fs.toList 0 i.sh ds es hf h1 h2 (by simpa using h3) (by simpa using h4)
      | array m e =>
        simp only at h
        cases hj : ti? e T with
        | none => rw [hj] at h; cases h
        | some j =>
          rw [hj] at h
          simp only [Bool.and_eq_true] at h
          obtain ⟨⟨⟨ha, hag⟩, hI⟩, hE⟩ := h
          obtain ⟨tf⟩ := hty _ _ hj
          have hag : j.agg = true ∨ j.sh.length = 1 := by
            cases hh : j.agg
            · rw [hh] at hag; exact .inr (Nat.eq_of_beq_eq_true (by simpa using hag))
            · exact .inl rfl
          have hc : P.cellsOf e = j.sh.length := by rw [← tf.hs]; simp [Program.cellsOf, tf.hf]
          rw [ha]
          simp only [ofCells, cond_true]
          rw [run_equalIn_array w d _ _ hu tf.hf, hc, List.range_eq_range']
          exact eqI_sound tf hj hag (eqB_sound hty n e hE) (by omega) m 0 i.sh ds es hI h1 h2 (by simpa using h3) (by simpa using h4)
      | int k =>
        simp only [Bool.and_eq_true, Bool.not_eq_true'] at h
        obtain ⟨hs, ha⟩ := h
        rw [eqs_of hs] at h1 h2
        obtain ⟨x, v, rfl, rfl, hx⟩ := one_of h1 h3
        obtain ⟨y, u, rfl, rfl, hy⟩ := one_of h2 h4
        cases x <;> simp [dsFit] at h1
        cases y <;> simp [dsFit] at h2
        simp only [RepD] at hx hy
        subst hx hy h1 h2
        simp only [ofCells, ha, cond_false, List.headD_cons]
        rw [run_equalIn_int w d t _ k _ _ hu]
        simp [eqAll, eqD]
      | bool =>
        simp only [Bool.and_eq_true, Bool.not_eq_true'] at h
        obtain ⟨hs, ha⟩ := h
        rw [eqs_of hs] at h1 h2
        obtain ⟨x, v, rfl, rfl, hx⟩ := one_of h1 h3
        obtain ⟨y, u, rfl, rfl, hy⟩ := one_of h2 h4
        cases x <;> simp [dsFit] at h1
        cases y <;> simp [dsFit] at h2
        simp only [RepD] at hx hy
        subst hx hy
        simp only [ofCells, ha, cond_false, List.headD_cons]
        rw [run_equalIn_bool' w d t _ _ hu]
        simp [eqAll, eqD]
      | string =>
        simp only [Bool.and_eq_true, Bool.not_eq_true'] at h
        obtain ⟨hs, ha⟩ := h
        rw [eqs_of hs] at h1 h2
        obtain ⟨x, v, rfl, rfl, hx⟩ := one_of h1 h3
        obtain ⟨y, u, rfl, rfl, hy⟩ := one_of h2 h4
        cases x <;> simp [dsFit] at h1
        cases y <;> simp [dsFit] at h2
        simp only [RepD] at hx hy
        subst hx hy
        simp only [ofCells, ha, cond_false, List.headD_cons]
        rw [run_equalIn_string w d t _ _ hu]
        simp [eqAll, eqD, ByteArray.toList_mk]
      | _ => cases h

/-- A type table is what the program's own is. -/
def tabB (P : Program) (T : Tab) : Bool := T.all fun p => tyOKb P p.1 p.2
def tabEqB (P : Program) (T : Tab) : Bool := T.all fun p => !(p.2.eq && p.2.agg) || (!(P.eqGuardType P.depth p.1) && eqB P T 6 p.1)
theorem ti_mem {t : Nat} {i : TI} : ∀ {T : Tab}, ti? t T = some i → (t, i) ∈ T
  | [], h => by simp [ti?] at h
  | (x, j) :: T, h => by
    simp only [ti?] at h
    cases hb : Nat.beq x t
    · rw [hb, cond_false] at h; exact List.mem_cons_of_mem _ (ti_mem h)
    · rw [hb, cond_true] at h
      have := Nat.eq_of_beq_eq_true hb
      simp at h; subst this h; exact List.mem_cons_self
theorem tyF_of {t : Nat} {i : TI} (this : tyOKb P t i = true) : Nonempty (TyF P t i) := by
  unfold tyOKb at this
  cases hd : P.underlying t with
  | none => simp [hd] at this
  | some d =>
    cases hf : P.info? t with
    | none => simp [hd, hf] at this
    | some f =>
      simp only [hd, hf, Bool.and_eq_true, beq_iff_eq] at this
      obtain ⟨⟨h1, h2⟩, h3⟩ := this
      cases hz : f.zero with
      | none => simp [hz] at h2
      | some z => exact ⟨⟨d, f, z, hd, hf, h1, hz, by simpa [hz] using h2, h3⟩⟩
theorem Cx.mk' (h1 : tabB P T = true) (h2 : tabEqB P T = true) : Cx P T := by
  have hty : ∀ t i, ti? t T = some i → tyOKb P t i = true := fun t i hi => List.all_eq_true.1 h1 _ (ti_mem hi)
  have hf : ∀ t i, ti? t T = some i → Nonempty (TyF P t i) := fun t i hi => tyF_of (hty t i hi)
  refine ⟨hty, fun t i hi he ha => ?_⟩
  have q := List.all_eq_true.1 h2 _ (ti_mem hi)
  simp only [he, ha, Bool.and_true, Bool.not_true, Bool.false_or, Bool.and_eq_true, Bool.not_eq_true'] at q
  refine ⟨q.1, fun Pr ds es r xs ys w h3 h4 h5 h6 h7 => ?_⟩
  have := eqB_sound hf 6 t q.2 i hi Pr ds es xs.toList ys.toList w h3 h4 h5 h6 Op.maxDepth (by decide)
  rw [ha] at this
  simp only [ofCells, cond_true, Array.toArray_toList] at this
  unfold Op.equal
  rw [this, eqDs_all ds es r h7]
end
end Go.Proofs.Ytgcjhcefpkbheaa.Lg
end
