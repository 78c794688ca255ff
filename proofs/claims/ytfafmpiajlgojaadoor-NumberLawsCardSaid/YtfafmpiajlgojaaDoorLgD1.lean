/- Part of a proof of the seat's statements: no statement by itself. -/
import Derived.Test.YtfafmpiajlgojaaDoorLgC6
import Derived.SizedLaws
import Derived.ChangeArms
import Derived.OpenShut
namespace Go.Proofs.YtfafmpiajlgojaaDoor.Lg
open Go

/-! What a row's arguments are. -/
def Sh.bytes : Sh → Nat
  | .int k => k.bits / 8
  | .bool => 1
  | .str => 16
  | .sl _ => 24
def bytesL (es : List Sh) : Nat := (es.map Sh.bytes).sum
def fieldsSh (P : Program) (f : TypeId → Option (List Sh)) : Nat → List Field → Option (List Sh)
  | _, [] => some []
  | o, x :: xs => match f x.type, fieldsSh P f (o + P.cellsOf x.type) xs with
    | some es, some fs => bif Nat.beq x.offset o && Nat.beq (P.cellsOf x.type) es.length then some (es ++ fs) else none
    | _, _ => none
def reps (es : List Sh) : Nat → List Sh
  | 0 => []
  | n + 1 => es ++ reps es n
def shOf (P : Program) : Nat → TypeId → Option (List Sh)
  | 0, _ => none
  | n + 1, t => match P.underlying t with
    | some .bool => some [.bool]
    | some (.int k) => some [.int k]
    | some .string => some [.str]
    | some (.slice e) => match shOf P n e with
      | some es => bif Nat.beq (P.cellsOf e) es.length && Nat.blt 0 es.length && Nat.ble (bytesL es) (P.bytesOf e) then some [.sl es] else none
      | none => none
    | some (.struct fs) => match fieldsSh P (shOf P n) 0 fs.toList with
      | some es => bif Nat.beq (P.cellsOf t) es.length then some es else none
      | none => none
    | some (.array k e) => match shOf P n e with
      | some es => bif Nat.beq (P.cellsOf e) es.length && Nat.beq (P.cellsOf t) (k * es.length) then some (reps es k) else none
      | none => none
    | _ => none

mutual
def CE.small : (e : Sh) → CE e → Prop
  | .int k, n => (Lit.int k n).wf = true
  | .bool, _ => True
  | .str, s => s.length ≤ reachBytes
  | .sl es, l => l.length * bytesL es ≤ reachBytes ∧ ∀ r ∈ l, RowE.small es r
def RowE.small : (es : List Sh) → RowE es → Prop
  | [], _ => True
  | e :: es, r => CE.small e r.1 ∧ RowE.small es r.2
end
/-! How many values and letters there are. -/
mutual
def CE.bulk : (e : Sh) → CE e → Nat
  | .int _, _ => 1
  | .bool, _ => 1
  | .str, s => s.length + 1
  | .sl es, l => (l.map (RowE.bulk es)).sum + 1
def RowE.bulk : (es : List Sh) → RowE es → Nat
  | [], _ => 0
  | e :: es, r => CE.bulk e r.1 + RowE.bulk es r.2
end
mutual
def blk {H : Type} : DataW H → Nat
  | .lit (.string bytes) => bytes.length + 1
  | .lit _ => 1
  | .nil => 1
  | .ptr d => blk d + 1
  | .slice elems spare => blkAll elems + blkAll spare + 1
  | .agg parts => blkAll parts + 1
  | .iface _ d => blk d + 1
  | .map entries => blkEntries entries + 1
  | .held _ => 1
def blkAll {H : Type} : List (DataW H) → Nat
  | [] => 0
  | d :: r => blk d + blkAll r
def blkEntries {H : Type} : List (Lit × DataW H) → Nat
  | [] => 0
  | (k, d) :: r => blk (.lit (H := H) k) + blk d + blkEntries r
end
theorem one_le_blk {H : Type} (d : DataW H) : 1 ≤ blk d := by
  cases d with
  | lit l => cases l <;> simp [blk]
  | nil => simp [blk]
  | ptr d => simp [blk]
  | slice elems spare => simp [blk]
  | agg parts => simp [blk]
  | iface t d => simp [blk]
  | map entries => simp [blk]
  | held h => simp [blk]
theorem blkAll_sum {H : Type} : ∀ l : List (DataW H), blkAll l = (l.map blk).sum
  | [] => by simp [blkAll]
  | d :: l => by simp [blkAll, blkAll_sum l]
theorem sum_le_sum {α β : Type} {f : α → Nat} {g : β → Nat} : ∀ (l : List α) (m : List β), l.length ≤ m.length → (∀ (i : Nat) (x : α) (y : β), l[i]? = some x → m[i]? = some y → f x ≤ g y) → (l.map f).sum ≤ (m.map g).sum
  | [], _, _, _ => by simp
  | x :: l, [], h, _ => by simp at h
  | x :: l, y :: m, h, k => by
    have := sum_le_sum l m (by simpa using h) fun i a b h1 h2 => k (i + 1) a b (by simpa using h1) (by simpa using h2)
    have := k 0 x y rfl rfl
    simp only [List.map_cons, List.sum_cons]; omega
def RowE.app : (a b : List Sh) → RowE a → RowE b → RowE (a ++ b)
  | [], _, _, s => s
  | _ :: a, b, r, s => (r.1, RowE.app a b r.2 s)
theorem RowVals.app {Pr : PM} : ∀ (a b : List Sh) (r : RowE a) (s : RowE b) (vs us : List Value), RowVals Pr a r vs → RowVals Pr b s us → RowVals Pr (a ++ b) (RowE.app a b r s) (vs ++ us)
  | [], b, r, s, [], us, _, k => k
  | e :: a, b, r, s, v :: vs, us, h, k => by simp only [RowVals] at h; exact ⟨h.1, RowVals.app a b r.2 s vs us h.2 k⟩
  | [], _, _, _, _ :: _, _, h, _ => by simp [RowVals] at h
  | _ :: _, _, _, _, [], _, h, _ => by simp [RowVals] at h
theorem RowE.small_app : ∀ (a b : List Sh) (r : RowE a) (s : RowE b), RowE.small a r → RowE.small b s → RowE.small (a ++ b) (RowE.app a b r s)
  | [], b, r, s, _, k => k
  | e :: a, b, r, s, h, k => by simp only [RowE.small] at h; simp only [List.cons_append, RowE.small]; exact ⟨h.1, RowE.small_app a b r.2 s h.2 k⟩
theorem RowE.bulk_app : ∀ (a b : List Sh) (r : RowE a) (s : RowE b), RowE.bulk (a ++ b) (RowE.app a b r s) = RowE.bulk a r + RowE.bulk b s
  | [], b, r, s => by simp only [RowE.bulk, Nat.zero_add]; rfl
  | e :: a, b, r, s => by
    have := RowE.bulk_app a b r.2 s
    simp only [List.cons_append, RowE.bulk]
    show CE.bulk e r.1 + RowE.bulk (a ++ b) (RowE.app a b r.2 s) = _
    rw [this]; omega
theorem RepC.toD {Pr : PM} : ∀ (e : Sh) (x : CE e) (v : Value), RepC Pr e x v → RepD Pr (Lg.toD e x) v
  | .int _, _, _, h => by simp only [RepC] at h; exact h
  | .bool, _, _, h => by simp only [RepC] at h; exact h
  | .str, _, _, h => by simp only [RepC] at h; exact h
  | .sl es, _, _, h => h
theorem RowVals.ds {Pr : PM} : ∀ (es : List Sh) (r : RowE es) (vs : List Value), RowVals Pr es r vs → RepDs Pr (rowD es r) vs
  | [], _, [], _ => trivial
  | e :: es, r, v :: vs, h => by simp only [RowVals] at h; exact ⟨RepC.toD e r.1 v h.1, RowVals.ds es r.2 vs h.2⟩
  | [], _, _ :: _, h => by simp [RowVals] at h
  | _ :: _, _, [], h => by simp [RowVals] at h

def allPr (w : World) : PM := fun b o => w.cell? ⟨b, o, none⟩
theorem allPr_ok (w : World) : PrOK (allPr w) w := fun _ _ _ h => h

section
variable {P : Program} {W : World} {H : Type} {enc : TypeId × Value → H}

theorem cells_spec {a : Addr} {n : Nat} {cs : List Value} (h : W.cells? 0 a n = some cs) : cs.length = n ∧ ∀ i v, cs[i]? = some v → W.cell? (a.add i) = some v := by
  unfold World.cells? at h
  rw [if_pos (Nat.zero_le _)] at h
  have hl := mapM_some_length h
  simp at hl
  refine ⟨hl.symm ▸ rfl, fun i v hi => ?_⟩
  have hlt : i < n := by have := (List.getElem?_eq_some_iff.1 hi).1; omega
  have := mapM_some_get h i i (by simp [hlt])
  rw [hi] at this
  exact this

/-- A reading of cells, of one type. -/
def Reads (P : Program) (W : World) (enc : TypeId × Value → H) (t : TypeId) (es : List Sh) : Prop :=
  ∀ (m : Nat) (cs : List Value) (d : DataW H) (ps : List MemPlace), DataW.trod enc P W 0 (fun _ => true) true m t cs = some (d, ps) → (∀ x ∈ d.weights P t, x ≤ reachBytes) →
    ∃ r : RowE es, RowVals (allPr W) es r cs ∧ RowE.small es r ∧ RowE.bulk es r ≤ blk d

theorem weightsEach_mem : ∀ (ts : List TypeId) (ds : List (DataW H)) (i : Nat) (t : TypeId) (d : DataW H), ts[i]? = some t → ds[i]? = some d → ∀ x ∈ d.weights P t, x ∈ DataW.weightsEach P ts ds
  | t' :: ts, d' :: ds, 0, t, d, h1, h2, x, hx => by simp at h1 h2; subst h1 h2; simp [DataW.weightsEach, hx]
  | t' :: ts, d' :: ds, i + 1, t, d, h1, h2, x, hx => by
    simp only [DataW.weightsEach, List.mem_append]
    exact .inr (weightsEach_mem ts ds i t d (by simpa using h1) (by simpa using h2) x hx)
  | [], _, _, _, _, h1, _, _, _ => by simp at h1
  | _ :: _, [], _, _, _, _, h2, _, _ => by simp at h2
theorem weightsAll_mem {e : TypeId} : ∀ (ds : List (DataW H)) (d : DataW H), d ∈ ds → ∀ x ∈ d.weights P e, x ∈ DataW.weightsAll P e ds
  | d' :: ds, d, hd, x, hx => by
    simp only [DataW.weightsAll, List.mem_append]
    rcases List.mem_cons.1 hd with rfl | hd
    · exact .inl hx
    · exact .inr (weightsAll_mem ds d hd x hx)
  | [], _, hd, _, _ => by simp at hd

theorem fields_reads {f : TypeId → Option (List Sh)} (hf : ∀ t es, f t = some es → Reads P W enc t es) (m : Nat) (all : List Value) : ∀ (fs : List Field) (o : Nat) (es : List Sh) (xs : List (DataW H × List MemPlace)),
    fieldsSh P f o fs = some es → all.length = o + es.length → xs.length = fs.length → (∀ (i : Nat) (x : Field), fs[i]? = some x → DataW.trod enc P W 0 (fun _ => true) true m x.type ((all.drop x.offset).take (P.cellsOf x.type)) = xs[i]?) →
    (∀ (i : Nat) (x : Field) (y : DataW H × List MemPlace), fs[i]? = some x → xs[i]? = some y → ∀ z ∈ y.1.weights P x.type, z ≤ reachBytes) → ∃ r : RowE es, RowVals (allPr W) es r (all.drop o) ∧ RowE.small es r ∧ RowE.bulk es r ≤ (xs.map fun y => blk y.1).sum
  | [], o, es, xs, h, hl, _, _, _ => by
    simp [fieldsSh] at h; subst h
    simp at hl
    exact ⟨(), by rw [List.drop_of_length_le (by omega)]; trivial, trivial, by simp [RowE.bulk]⟩
  | x :: fs, o, es, [], h, hl, hx, _, _ => by simp at hx
  | x :: fs, o, es, y :: xs, h, hl, hx, ht, hw => by
    simp only [fieldsSh] at h
    split at h
    · rename_i e1 e2 h1 h2
      cases hc : Nat.beq x.offset o && Nat.beq (P.cellsOf x.type) e1.length
      · rw [hc] at h; cases h
      · rw [hc, cond_true] at h
        simp at h; subst h
        simp only [Bool.and_eq_true] at hc
        have ho := Nat.eq_of_beq_eq_true hc.1
        have hn := Nat.eq_of_beq_eq_true hc.2
        have t0 := ht 0 x rfl
        simp only [List.getElem?_cons_zero] at t0
        obtain ⟨r1, q1, q2, b1⟩ := hf x.type e1 h1 m _ y.1 y.2 t0 (hw 0 x y rfl rfl)
        obtain ⟨r2, q3, q4, b2⟩ := fields_reads hf m all fs (o + P.cellsOf x.type) e2 xs h2 (by rw [hl, hn]; simp; omega) (by simpa using hx) (fun i z hz => by simpa using ht (i + 1) z (by simpa using hz)) (fun i z u h3 h4 => hw (i + 1) z u (by simpa using h3) (by simpa using h4))
        refine ⟨RowE.app e1 e2 r1 r2, ?_, RowE.small_app e1 e2 r1 r2 q2 q4, by rw [RowE.bulk_app]; simp only [List.map_cons, List.sum_cons]; omega⟩
        have e : all.drop o = (all.drop x.offset).take (P.cellsOf x.type) ++ all.drop (o + P.cellsOf x.type) := by
          rw [ho, ← List.drop_drop, List.take_append_drop]
        rw [e]
        exact RowVals.app e1 e2 r1 r2 _ _ q1 q3
    · cases h

theorem reps_reads {e : TypeId} {es : List Sh} (hf : Reads P W enc e es) (m : Nat) (all : List Value) (hn : P.cellsOf e = es.length) : ∀ (k o : Nat) (xs : List (DataW H × List MemPlace)),
    all.length = (o + k) * es.length → xs.length = k → (∀ i, i < k → DataW.trod enc P W 0 (fun _ => true) true m e ((all.drop ((o + i) * P.cellsOf e)).take (P.cellsOf e)) = xs[i]?) →
    (∀ y ∈ xs, ∀ z ∈ y.1.weights P e, z ≤ reachBytes) → ∃ r : RowE (reps es k), RowVals (allPr W) (reps es k) r (all.drop (o * es.length)) ∧ RowE.small (reps es k) r ∧ RowE.bulk (reps es k) r ≤ (xs.map fun y => blk y.1).sum
  | 0, o, xs, hl, _, _, _ => ⟨(), by rw [List.drop_of_length_le (by rw [hl]; simp)]; trivial, trivial, by simp [reps, RowE.bulk]⟩
  | k + 1, o, [], _, hx, _, _ => by simp at hx
  | k + 1, o, y :: xs, hl, hx, ht, hw => by
    have t0 := ht 0 (by omega)
    simp only [List.getElem?_cons_zero, Nat.add_zero] at t0
    obtain ⟨r1, q1, q2, b1⟩ := hf m _ y.1 y.2 t0 (hw y (by simp))
    obtain ⟨r2, q3, q4, b2⟩ := reps_reads hf m all hn k (o + 1) xs (by rw [hl]; congr 1; omega) (by simpa using hx) (fun i hi => by
      have := ht (i + 1) (by omega)
      rw [show o + 1 + i = o + (i + 1) by omega]
      simpa using this) (fun y hy => hw y (by simp [hy]))
    refine ⟨RowE.app es (reps es k) r1 r2, ?_, RowE.small_app es (reps es k) r1 r2 q2 q4, by
      have := RowE.bulk_app es (reps es k) r1 r2
      show RowE.bulk (es ++ reps es k) _ ≤ _
      rw [this]; simp only [List.map_cons, List.sum_cons]; omega⟩
    have e : all.drop (o * es.length) = (all.drop (o * P.cellsOf e)).take (P.cellsOf e) ++ all.drop ((o + 1) * es.length) := by
      rw [hn, Nat.succ_mul, ← List.drop_drop, List.take_append_drop]
    rw [e]
    exact RowVals.app es (reps es k) r1 r2 _ _ q1 q3

theorem choose_list {α : Type} {p : Nat → α → Prop} : ∀ (n : Nat), (∀ i, i < n → ∃ x, p i x) → ∃ l : List α, l.length = n ∧ ∀ i x, l[i]? = some x → p i x
  | 0, _ => ⟨[], rfl, by simp⟩
  | n + 1, h => by
    obtain ⟨l, h1, h2⟩ := choose_list n (fun i hi => h i (by omega))
    obtain ⟨x, hx⟩ := h n (by omega)
    refine ⟨l ++ [x], by simp [h1], fun i y hi => ?_⟩
    by_cases hlt : i < l.length
    · rw [List.getElem?_append_left hlt] at hi; exact h2 i y hi
    · rw [List.getElem?_append_right (by omega)] at hi
      by_cases e : i - l.length = 0
      · rw [e] at hi; simp at hi; subst hi
        have : i = n := by omega
        rw [this]; exact hx
      · have : i - l.length = (i - l.length - 1) + 1 := by omega
        rw [this] at hi; simp at hi

theorem shOf_reads : ∀ (n : Nat) (t : TypeId) (es : List Sh), shOf P n t = some es → Reads P W enc t es
  | 0, t, es, h => by simp [shOf] at h
  | n + 1, t, es, h => by
    intro m cs d ps ht hw
    simp only [shOf] at h
    split at h
    · rename_i hu
      simp at h; subst h
      obtain ⟨b, rfl, _⟩ := DataW.trod_bool hu ht
      exact ⟨(b, ()), ⟨by simp [RepC], trivial⟩, ⟨trivial, trivial⟩, by simp only [RowE.bulk, CE.bulk]; exact one_le_blk d⟩
    · rename_i k hu
      simp at h; subst h
      obtain ⟨x, rfl, _, hwf⟩ := DataW.trod_int hu ht
      exact ⟨(x, ()), ⟨by simp [RepC], trivial⟩, ⟨by simpa only [CE.small] using hwf, trivial⟩, by simp only [RowE.bulk, CE.bulk]; exact one_le_blk d⟩
    · rename_i hu
      simp at h; subst h
      obtain ⟨s, rfl, hd, _⟩ := DataW.trod_string hu ht
      simp only [Prod.mk.injEq] at hd
      refine ⟨(s.data.toList, ()), ⟨by simp [RepC], trivial⟩, ⟨?_, trivial⟩, by rw [hd.1]; simp [RowE.bulk, CE.bulk, blk]⟩
      simp only [CE.small]
      refine hw _ ?_
      rw [hd.1]; simp [DataW.weights]
    · rename_i e hu
      split at h
      · rename_i es' he
        cases hc : (Nat.beq (P.cellsOf e) es'.length && Nat.blt 0 es'.length && Nat.ble (bytesL es') (P.bytesOf e))
        · rw [hc] at h; cases h
        · rw [hc, cond_true] at h
          simp at h; subst h
          simp only [Bool.and_eq_true] at hc
          have hn := Nat.eq_of_beq_eq_true hc.1.1
          have hpos : 0 < es'.length := by have := hc.1.2; rwa [Nat.blt_eq] at this
          have hble := Nat.le_of_ble_eq_true hc.2
          have ih := shOf_reads n e es' he
          rcases DataW.trod_slice hu ht with ⟨rfl, _⟩ | ⟨a, len, cap, elems, rest, q, _, rfl, hd, _, hlc, hcm, hel, hat, hsp, _⟩
          · refine ⟨(([] : List (RowE es')), ()), ⟨?_, trivial⟩, ⟨?_, trivial⟩, by simp only [RowE.bulk, CE.bulk, List.map_nil, List.sum_nil]; exact one_le_blk d⟩
            · simp only [RepC]; exact ⟨none, 0, 0, rfl, rfl, Nat.le_refl _, by simp⟩
            · simp [CE.small]
          · simp only [Prod.mk.injEq] at hd
            have hwall : ∀ y ∈ elems, ∀ z ∈ y.1.weights P e, z ≤ reachBytes := by
              intro y hy z hz
              refine hw z ?_
              rw [hd.1]
              simp only [DataW.weights, hu, List.mem_cons, List.mem_append]
              exact .inr (.inl (weightsAll_mem _ y.1 (List.mem_map_of_mem hy) z hz))
            have heach : ∀ i, i < len → ∃ r : RowE es', RepRow (allPr W) es' r a.block (a.off + i * es'.length) ∧ RowE.small es' r ∧ ∀ y, elems[i]? = some y → RowE.bulk es' r ≤ blk y.1 := by
              intro i hi
              have h1 := hat i hi
              have hlt : i < elems.length := by omega
              have h2 : elems[i]? = some elems[i] := by simp [hlt]
              rw [h2] at h1
              cases hcs : W.cells? 0 (a.add (i * P.cellsOf e)) (P.cellsOf e) with
              | none => rw [hcs] at h1; simp at h1
              | some cs =>
                rw [hcs, Option.bind_some] at h1
                obtain ⟨r, q1, q2, b1⟩ := ih q cs elems[i].1 elems[i].2 h1 (hwall _ (List.getElem_mem hlt))
                obtain ⟨c1, c2⟩ := cells_spec hcs
                refine ⟨r, RowVals.row es' r cs a.block _ q1 fun j v hj => ?_, q2, fun y hy => by rw [h2] at hy; simp at hy; subst hy; exact b1⟩
                have := c2 j v hj
                unfold allPr
                rw [← hn]
                have e1 : W.cell? ((a.add (i * P.cellsOf e)).add j) = W.cell? ⟨a.block, a.off + i * P.cellsOf e + j, none⟩ := by
                  have hs : a.spot = none ∨ W.cell? ((a.add (i * P.cellsOf e)).add j) = none ∨ (i * P.cellsOf e ≠ 0 ∨ j ≠ 0) := by
                    by_cases z1 : i * P.cellsOf e = 0
                    · by_cases z2 : j = 0
                      · cases hsp : a.spot with
                        | none => exact .inl rfl
                        | some q =>
                          right; left
                          rw [z1, z2]
                          simp only [Addr.add, if_true, World.cell?, hsp]
                          split <;> simp
                      · exact .inr (.inr (.inr z2))
                    · exact .inr (.inr (.inl z1))
                  rcases hs with hs | hs | hs
                  · obtain ⟨ab, ao, as⟩ := a
                    simp at hs; subst hs
                    rw [Addr.add_lit, Addr.add_lit]
                  · rw [hs] at this; cases this
                  · obtain ⟨ab, ao, as⟩ := a
                    congr 1
                    simp only [Addr.add]
                    by_cases z1 : i * P.cellsOf e = 0 <;> by_cases z2 : j = 0
                    · rcases hs with hs | hs
                      · exact absurd z1 hs
                      · exact absurd z2 hs
                    all_goals simp [z1, z2]
                rw [← e1]; exact this
            obtain ⟨l, hl1, hl2⟩ := choose_list len heach
            have hspot : l ≠ [] → a.spot = none := by
              intro hne
              have hlen : 0 < len := by
                rcases Nat.eq_zero_or_pos len with z | z
                · rw [z] at hl1; exact absurd (List.length_eq_zero_iff.1 hl1) hne
                · exact z
              have h1 := hat 0 hlen
              have h2 : elems[0]? = some elems[0] := by simp
              rw [h2] at h1
              cases hcs : W.cells? 0 (a.add (0 * P.cellsOf e)) (P.cellsOf e) with
              | none => rw [hcs] at h1; simp at h1
              | some cs =>
                obtain ⟨c1, c2⟩ := cells_spec hcs
                have hcl : 0 < cs.length := by omega
                have := c2 0 cs[0] (by simp)
                simp only [Nat.zero_mul, Addr.add, if_true] at this
                cases hsp : a.spot with
                | none => rfl
                | some z =>
                  exfalso
                  unfold World.cell? at this
                  rw [hsp] at this
                  split at this <;> simp at this
            have hbulk : RowE.bulk [.sl es'] ((l : List (RowE es')), ()) ≤ blk d := by
              rw [hd.1]
              simp only [RowE.bulk, CE.bulk, blk, Nat.add_zero]
              have hsum : (l.map (RowE.bulk es')).sum ≤ (elems.map fun y => blk y.1).sum := sum_le_sum l elems (by omega) fun i x y h1 h2 => (hl2 i x h1).2.2 y h2
              have e1 : blkAll (elems.map fun y => y.1) = (elems.map fun y => blk y.1).sum := by rw [blkAll_sum, List.map_map]; rfl
              have e2 : blkAll (elems.map (·.1)) = (elems.map fun y => blk y.1).sum := e1
              rw [e2]; omega
            refine ⟨((l : List (RowE es')), ()), ⟨?_, trivial⟩, ⟨?_, trivial⟩, hbulk⟩
            · simp only [RepC]
              refine ⟨some a, len, cap, rfl, hl1.symm, hlc, ?_⟩
              by_cases hne : l = []
              · exact .inl hne
              · right
                have := hspot hne
                obtain ⟨ab, ao, as⟩ := a
                simp at this; subst this
                exact ⟨ab, ao, rfl, fun i x hi => (hl2 i x hi).1⟩
            · simp only [CE.small]
              refine ⟨?_, fun r hr => ?_⟩
              · have := hw ((elems.length + rest.length) * P.bytesOf e) (by rw [hd.1]; simp [DataW.weights, hu])
                refine Nat.le_trans (Nat.le_trans (Nat.mul_le_mul_left _ hble) (Nat.mul_le_mul_right _ ?_)) this
                omega
              · obtain ⟨i, hi⟩ := List.getElem?_of_mem hr
                exact (hl2 i r hi).2.1
      · cases h
    · rename_i fs hu
      split at h
      · rename_i es' he
        cases hc : Nat.beq (P.cellsOf t) es'.length
        · rw [hc] at h; cases h
        · rw [hc, cond_true] at h
          simp at h; subst h
          have hn := Nat.eq_of_beq_eq_true hc
          obtain ⟨xs, q, _, hd, hl, hlen, hf⟩ := DataW.trod_struct hu ht
          simp only [Prod.mk.injEq] at hd
          have := fields_reads (fun t es h => shOf_reads n t es h) q cs fs.toList 0 es' xs he (by rw [hl, hn]; simp) (by simpa using hlen) (fun i x hx => hf i x (by simpa using hx)) (fun i x y hx hy z hz => by
            refine hw z ?_
            rw [hd.1]
            simp only [DataW.weights, hu]
            exact weightsEach_mem _ _ i x.type y.1 (by simp at hx; simp [hx]) (by simp [hy]) z hz)
          obtain ⟨r, z1, z2, z3⟩ := this
          refine ⟨r, by simpa using z1, z2, ?_⟩
          rw [hd.1]
          simp only [blk, blkAll_sum, List.map_map]
          exact Nat.le_succ_of_le z3
      · cases h
    · rename_i k e hu
      split at h
      · rename_i es' he
        cases hc : (Nat.beq (P.cellsOf e) es'.length && Nat.beq (P.cellsOf t) (k * es'.length))
        · rw [hc] at h; cases h
        · rw [hc, cond_true] at h
          simp at h; subst h
          simp only [Bool.and_eq_true] at hc
          have hn := Nat.eq_of_beq_eq_true hc.1
          have hn2 := Nat.eq_of_beq_eq_true hc.2
          obtain ⟨xs, q, _, hd, hl, hlen, hf⟩ := DataW.trod_array hu ht
          simp only [Prod.mk.injEq] at hd
          have := reps_reads (shOf_reads n e es' he) q cs hn k 0 xs (by rw [hl, hn2]; simp) hlen (fun i hi => by simpa using hf i hi) (fun y hy z hz => by
            refine hw z ?_
            rw [hd.1]
            simp only [DataW.weights, hu]
            exact weightsAll_mem _ y.1 (List.mem_map_of_mem hy) z hz)
          obtain ⟨r, z1, z2, z3⟩ := this
          refine ⟨r, by simpa using z1, z2, ?_⟩
          rw [hd.1]
          simp only [blk, blkAll_sum, List.map_map]
          exact Nat.le_succ_of_le z3
      · cases h
    · cases h
end
end Go.Proofs.YtfafmpiajlgojaaDoor.Lg
