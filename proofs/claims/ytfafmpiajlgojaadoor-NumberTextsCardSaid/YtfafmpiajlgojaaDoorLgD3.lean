/- Part of a proof of the seat's statements: no statement by itself. -/
import Derived.Test.YtfafmpiajlgojaaDoorLgD2
import Derived.Laws.StructEq
import Derived.ChangeKeysEq
namespace Go.Proofs.YtfafmpiajlgojaaDoor.Lg
open Go

def eqAll : List D → List D → Bool
  | x :: xs, y :: ys => (eqD x y).getD false && eqAll xs ys
  | _, _ => true
theorem eqDs_all : ∀ (ds es : List D) (r : Bool), eqDs ds es = some r → eqAll ds es = r
  | [], [], r, h => by simp [eqDs] at h; simp [eqAll, h]
  | [x], [y], r, h => by simp only [eqDs] at h; simp [eqAll, h]
  | x :: x' :: xs, y :: ys, r, h => by
    simp only [eqDs] at h
    split at h
    · rename_i a b h1 h2
      have := eqDs_all (x' :: xs) ys b h2
      simp at h; subst h
      unfold eqAll
      rw [h1, this]; rfl
    · cases h
  | [x], y :: y' :: ys, r, h => by
    simp only [eqDs] at h
    split at h
    · rename_i a b h1 h2
      simp [eqDs] at h2
    · cases h
  | [], _ :: _, r, h => by simp [eqDs] at h
  | _ :: _, [], r, h => by simp [eqDs] at h
theorem eqAll_split : ∀ (n : Nat) (ds es : List D), ds.length = es.length → eqAll ds es = (eqAll (ds.take n) (es.take n) && eqAll (ds.drop n) (es.drop n))
  | 0, ds, es, _ => by simp [eqAll]
  | n + 1, [], [], _ => by simp [eqAll]
  | n + 1, x :: xs, y :: ys, h => by
    simp only [List.take_succ_cons, List.drop_succ_cons, eqAll]
    rw [eqAll_split n xs ys (by simpa using h), Bool.and_assoc]
  | _ + 1, [], _ :: _, h => by simp at h
  | _ + 1, _ :: _, [], h => by simp at h

theorem dsFit_length : ∀ (sh : List Sh) (ds : List D), dsFit sh ds = true → ds.length = sh.length
  | [], [], _ => rfl
  | .int k :: es, .int k' _ :: ds, h => by simp only [dsFit, Bool.and_eq_true] at h; simp [dsFit_length es ds h.2]
  | .bool :: es, .bool _ :: ds, h => by simp only [dsFit] at h; simp [dsFit_length es ds h]
  | .str :: es, .str _ :: ds, h => by simp only [dsFit] at h; simp [dsFit_length es ds h]
  | [], _ :: _, h => by simp [dsFit] at h
  | _ :: _, [], h => by simp [dsFit] at h
  | .int _ :: _, .bool _ :: _, h => by simp [dsFit] at h
  | .int _ :: _, .str _ :: _, h => by simp [dsFit] at h
  | .int _ :: _, .sl _ _ :: _, h => by simp [dsFit] at h
  | .bool :: _, .int _ _ :: _, h => by simp [dsFit] at h
  | .bool :: _, .str _ :: _, h => by simp [dsFit] at h
  | .bool :: _, .sl _ _ :: _, h => by simp [dsFit] at h
  | .str :: _, .int _ _ :: _, h => by simp [dsFit] at h
  | .str :: _, .bool _ :: _, h => by simp [dsFit] at h
  | .str :: _, .sl _ _ :: _, h => by simp [dsFit] at h
  | .sl _ :: _, _ :: _, h => by simp [dsFit] at h
theorem dsFit_cons {e : Sh} {es : List Sh} {d : D} {ds : List D} (h : dsFit (e :: es) (d :: ds) = true) : dsFit [e] [d] = true ∧ dsFit es ds = true := by
  cases e <;> cases d <;> simp [dsFit] at h ⊢ <;> exact h
theorem dsFit_take : ∀ (n : Nat) (sh : List Sh) (ds : List D), dsFit sh ds = true → dsFit (sh.take n) (ds.take n) = true ∧ dsFit (sh.drop n) (ds.drop n) = true
  | 0, sh, ds, h => by simp [dsFit]; exact h
  | n + 1, [], [], _ => by simp [dsFit]
  | n + 1, e :: es, d :: ds, h => by
    obtain ⟨h1, h2⟩ := dsFit_cons h
    obtain ⟨h3, h4⟩ := dsFit_take n es ds h2
    refine ⟨?_, by simpa using h4⟩
    simp only [List.take_succ_cons]
    cases e <;> cases d <;> simp [dsFit] at h1 ⊢ <;> first | exact h3 | exact ⟨h1, h3⟩
  | _ + 1, [], _ :: _, h => by simp [dsFit] at h
  | _ + 1, _ :: _, [], h => by simp [dsFit] at h

def eqFB (T : Tab) (f : Nat → Bool) : Nat → List Sh → List Field → Bool
  | _, sh, [] => sh.isEmpty
  | o, sh, x :: xs => match ti? x.type T with
    | some j => (x.name != "_") && (j.agg || Nat.beq j.sh.length 1) && Nat.beq x.offset o && (Sh.eqs? (sh.take j.sh.length) j.sh).isSome && f x.type && eqFB T f (o + j.sh.length) (sh.drop j.sh.length) xs
    | none => false
def eqIB (j : TI) : Nat → List Sh → Bool
  | 0, sh => sh.isEmpty
  | n + 1, sh => (Sh.eqs? (sh.take j.sh.length) j.sh).isSome && eqIB j n (sh.drop j.sh.length)
def eqB (P : Program) (T : Tab) : Nat → Nat → Bool
  | 0, _ => false
  | n + 1, t => match ti? t T, P.underlying t with
    | some i, some (.struct fs) => i.agg && !P.stoodInHeld t && eqFB T (eqB P T n) 0 i.sh fs.toList
    | some i, some (.array m e) => (match ti? e T with
      | some j => i.agg && (j.agg || Nat.beq j.sh.length 1) && eqIB j m i.sh && eqB P T n e
      | none => false)
    | some i, some (.int k) => (Sh.eqs? i.sh [.int k]).isSome && !i.agg
    | some i, some .bool => (Sh.eqs? i.sh [.bool]).isSome && !i.agg
    | some i, some .string => (Sh.eqs? i.sh [.str]).isSome && !i.agg
    | _, _ => false

/-- A value of cells. -/
def ofCells (agg : Bool) (vs : List Value) : Value := bif agg then .agg vs.toArray else vs.headD undef

def EqOK (P : Program) (T : Tab) (t : Nat) (n : Nat) : Prop :=
  ∀ i, ti? t T = some i → ∀ (Pr : PM) (ds es : List D) (xs ys : List Value) (w : World), dsFit i.sh ds = true → dsFit i.sh es = true → RepDs Pr ds xs → RepDs Pr es ys →
    ∀ d, n ≤ d → (Op.equalIn d t (ofCells i.agg xs) (ofCells i.agg ys)).run P w = .ok (eqAll ds es) w

theorem one_of {Pr : PM} {e : Sh} {ds : List D} {xs : List Value} (h : dsFit [e] ds = true) (hr : RepDs Pr ds xs) : ∃ d v, ds = [d] ∧ xs = [v] ∧ RepD Pr d v := by
  have := dsFit_length _ _ h
  match ds, xs, this, hr with
  | [d], [v], _, hr => exact ⟨d, v, rfl, rfl, hr.1⟩

section
variable {P : Program} {T : Tab}
theorem eqF_sound (hty : ∀ t i, ti? t T = some i → Nonempty (TyF P t i)) {f : Nat → Bool} {n : Nat} (hf : ∀ t, f t = true → EqOK P T t n) {Pr : PM} {xs ys : Array Value} {w : World} {d : Nat} (hd : n ≤ d) : ∀ (fs : List Field) (o : Nat) (sh : List Sh) (ds es : List D),
    eqFB T f o sh fs = true → dsFit sh ds = true → dsFit sh es = true → RepDs Pr ds (xs.toList.drop o) → RepDs Pr es (ys.toList.drop o) → (Op.eqFields d xs ys fs).run P w = .ok (eqAll ds es) w
  | [], o, sh, ds, es, h, h1, h2, _, _ => by
    simp [eqFB] at h; subst h
    have e1 := dsFit_length _ _ h1
    have e2 := dsFit_length _ _ h2
    simp at e1 e2
    subst e1 e2
    simp [Op.eqFields, eqAll]
  | x :: fs, o, sh, ds, es, h, h1, h2, h3, h4 => by
    simp only [eqFB] at h
    split at h
    · rename_i j hj
      simp only [Bool.and_eq_true, bne_iff_ne] at h
      obtain ⟨⟨⟨⟨⟨hn, hag⟩, ho⟩, hsh⟩, hfx⟩, hrest⟩ := h
      have ho := Nat.eq_of_beq_eq_true ho
      cases he : Sh.eqs? (sh.take j.sh.length) j.sh with
      | none => rw [he] at hsh; simp at hsh
      | some pl =>
        obtain ⟨e⟩ := pl
        obtain ⟨tf⟩ := hty _ _ hj
        obtain ⟨a1, a2⟩ := dsFit_take j.sh.length sh ds h1
        obtain ⟨b1, b2⟩ := dsFit_take j.sh.length sh es h2
        rw [e] at a1 b1
        have hl1 := dsFit_length _ _ h1
        have hl2 := dsFit_length _ _ h2
        have part : ∀ (zs : Array Value) (qs : List D), dsFit j.sh (qs.take j.sh.length) = true → RepDs Pr qs (zs.toList.drop o) → (Go.part x.type zs x.offset).run P w = .ok (ofCells j.agg ((zs.toList.drop o).take j.sh.length)) w := by
          intro zs qs hfit hr
          rw [ho]
          cases ha : j.agg
          · have hone : j.sh.length = 1 := by
              rw [ha] at hag; simpa using hag
            have hl := RepDs.length _ _ hr
            have hql := dsFit_length _ _ hfit
            rw [hone] at hql
            have hpos : 0 < qs.length := by
              cases qs with
              | nil => simp at hql
              | cons _ _ => simp
            have hz : o < zs.size := by simp at hl; omega
            rw [run_part_one tf ha (v := zs[o]) (by simp [hz])]
            have : (zs.toList.drop o) = zs[o] :: zs.toList.drop (o + 1) := by
              rw [List.drop_eq_getElem_cons (by simpa using hz)]; simp
            rw [this, hone]
            rfl
          · rw [run_part_agg tf ha]
            simp [ofCells]
            rw [← Array.toList_inj]
            simp
        have p1 := part xs ds a1 h3
        have p2 := part ys es b1 h4
        have q := hf x.type hfx j hj Pr (ds.take j.sh.length) (es.take j.sh.length) _ _ w a1 b1 (h3.take j.sh.length) (h4.take j.sh.length) d hd
        have ih := eqF_sound hty hf (w := w) hd fs (o + j.sh.length) (sh.drop j.sh.length) _ _ hrest a2 b2 (by rw [← List.drop_drop]; exact h3.drop j.sh.length) (by rw [← List.drop_drop]; exact h4.drop j.sh.length)
        rw [eqAll_split j.sh.length ds es (by omega)]
        simp only [Op.eqFields, if_pos hn, Sem.run_bind, p1, p2, q, Result.andThen_ok]
        cases eqAll (ds.take j.sh.length) (es.take j.sh.length)
        · simp
        · simp only [Bool.not_true, Bool.false_eq_true, if_false, Bool.true_and]
          exact ih
    · cases h

theorem part_cells {j : TI} {t : Nat} (tf : TyF P t j) (hag : j.agg = true ∨ j.sh.length = 1) {Pr : PM} {w : World} (zs : Array Value) (o : Nat) (qs : List D) (hfit : dsFit j.sh (qs.take j.sh.length) = true)
    (hr : RepDs Pr qs (zs.toList.drop o)) : (Go.part t zs o).run P w = .ok (ofCells j.agg ((zs.toList.drop o).take j.sh.length)) w := by
  cases ha : j.agg
  · have hone : j.sh.length = 1 := by
      rw [ha] at hag; simpa using hag
    have hl := RepDs.length _ _ hr
    have hql := dsFit_length _ _ hfit
    rw [hone] at hql
    have hpos : 0 < qs.length := by
      cases qs with
      | nil => simp at hql
      | cons _ _ => simp
    have hz : o < zs.size := by simp at hl; omega
    rw [run_part_one tf ha (v := zs[o]) (by simp [hz])]
    have : (zs.toList.drop o) = zs[o] :: zs.toList.drop (o + 1) := by
      rw [List.drop_eq_getElem_cons (by simpa using hz)]; simp
    rw [this, hone]
    rfl
  · rw [run_part_agg tf ha]
    simp [ofCells]
    rw [← Array.toList_inj]
    simp
theorem eqI_sound {j : TI} {e : Nat} (tf : TyF P e j) (hj : ti? e T = some j) (hag : j.agg = true ∨ j.sh.length = 1) {n : Nat} (hf : EqOK P T e n) {Pr : PM} {xs ys : Array Value} {w : World} {d : Nat} (hd : n ≤ d) : ∀ (m k : Nat) (sh : List Sh) (ds es : List D),
    eqIB j m sh = true → dsFit sh ds = true → dsFit sh es = true → RepDs Pr ds (xs.toList.drop (k * j.sh.length)) → RepDs Pr es (ys.toList.drop (k * j.sh.length)) →
    (Op.eqItems d e j.sh.length xs ys (List.range' k m)).run P w = .ok (eqAll ds es) w
  | 0, k, sh, ds, es, h, h1, h2, _, _ => by
    simp [eqIB] at h; subst h
    have e1 := dsFit_length _ _ h1
    have e2 := dsFit_length _ _ h2
    simp at e1 e2
    subst e1 e2
    simp [Op.eqItems, eqAll]
  | m + 1, k, sh, ds, es, h, h1, h2, h3, h4 => by
    simp only [eqIB, Bool.and_eq_true] at h
    obtain ⟨hsh, hrest⟩ := h
    cases he : Sh.eqs? (sh.take j.sh.length) j.sh with
    | none => rw [he] at hsh; simp at hsh
    | some pl =>
      obtain ⟨e⟩ := pl
      obtain ⟨a1, a2⟩ := dsFit_take j.sh.length sh ds h1
      obtain ⟨b1, b2⟩ := dsFit_take j.sh.length sh es h2
      rw [e] at a1 b1
      have hl1 := dsFit_length _ _ h1
      have hl2 := dsFit_length _ _ h2
      have p1 := part_cells tf hag (w := w) xs _ ds a1 h3
      have p2 := part_cells tf hag (w := w) ys _ es b1 h4
      have q := hf j hj Pr (ds.take j.sh.length) (es.take j.sh.length) _ _ w a1 b1 (h3.take j.sh.length) (h4.take j.sh.length) d hd
      have e3 : (k + 1) * j.sh.length = k * j.sh.length + j.sh.length := by rw [Nat.add_mul, Nat.one_mul]
      have ih := eqI_sound tf hj hag hf (w := w) hd m (k + 1) (sh.drop j.sh.length) _ _ hrest a2 b2 (by rw [e3, ← List.drop_drop]; exact h3.drop j.sh.length) (by rw [e3, ← List.drop_drop]; exact h4.drop j.sh.length)
      rw [eqAll_split j.sh.length ds es (by omega)]
      simp only [List.range'_succ, Op.eqItems, Sem.run_bind, p1, p2, q, Result.andThen_ok]
      cases eqAll (ds.take j.sh.length) (es.take j.sh.length)
      · simp
      · simp only [Bool.not_true, Bool.false_eq_true, if_false, Bool.true_and]
        exact ih

theorem eqs_of {a b : List Sh} (h : (Sh.eqs? a b).isSome = true) : a = b := by
  cases he : Sh.eqs? a b with
  | none => rw [he] at h; simp at h
  | some pl => exact pl.down

theorem eqB_sound (hty : ∀ t i, ti? t T = some i → Nonempty (TyF P t i)) : ∀ (n t : Nat), eqB P T n t = true → EqOK P T t n
  | 0, t, h => by simp [eqB] at h
  | n + 1, t, h => by
    intro i hi Pr ds es xs ys w h1 h2 h3 h4 d hd
    simp only [eqB, hi] at h
    obtain ⟨d, rfl⟩ : ∃ d', d = d' + 1 := ⟨d - 1, by omega⟩
    cases hu : P.underlying t with
    | none => rw [hu] at h; cases h
    | some u =>
      rw [hu] at h
      cases u with
      | struct fs =>
        simp only [Bool.and_eq_true, Bool.not_eq_true'] at h
        obtain ⟨⟨ha, hsi⟩, hf⟩ := h
        rw [ha]
        simp only [ofCells, cond_true]
        have e : P.fieldsOf t = fs := by simp [Program.fieldsOf, hu]
        rw [run_equalIn_struct w d t _ _ (by rw [e]; exact hu) hsi, e]
        exact eqF_sound hty (fun t h => eqB_sound hty n t h) (by omega) fs.toList 0 i.sh ds es hf h1 h2 (by simpa using h3) (by simpa using h4)
      | array m e =>
        simp only at h
        cases hj : ti? e T with
        | none => rw [hj] at h; cases h
        | some j =>
          rw [hj] at h
          simp only [Bool.and_eq_true] at h
          obtain ⟨⟨⟨ha, hag⟩, hI⟩, hE⟩ := h
          obtain ⟨tf⟩ := hty _ _ hj
          have hag : j.agg = true ∨ j.sh.length = 1 := by
            cases hh : j.agg
            · rw [hh] at hag; exact .inr (Nat.eq_of_beq_eq_true (by simpa using hag))
            · exact .inl rfl
          have hc : P.cellsOf e = j.sh.length := by rw [← tf.hs]; simp [Program.cellsOf, tf.hf]
          rw [ha]
          simp only [ofCells, cond_true]
          rw [run_equalIn_array w d _ _ hu tf.hf, hc, List.range_eq_range']
          exact eqI_sound tf hj hag (eqB_sound hty n e hE) (by omega) m 0 i.sh ds es hI h1 h2 (by simpa using h3) (by simpa using h4)
      | int k =>
        simp only [Bool.and_eq_true, Bool.not_eq_true'] at h
        obtain ⟨hs, ha⟩ := h
        rw [eqs_of hs] at h1 h2
        obtain ⟨x, v, rfl, rfl, hx⟩ := one_of h1 h3
        obtain ⟨y, u, rfl, rfl, hy⟩ := one_of h2 h4
        cases x <;> simp [dsFit] at h1
        cases y <;> simp [dsFit] at h2
        simp only [RepD] at hx hy
        subst hx hy h1 h2
        simp only [ofCells, ha, cond_false, List.headD_cons]
        rw [run_equalIn_int w d t _ k _ _ hu]
        simp [eqAll, eqD]
      | bool =>
        simp only [Bool.and_eq_true, Bool.not_eq_true'] at h
        obtain ⟨hs, ha⟩ := h
        rw [eqs_of hs] at h1 h2
        obtain ⟨x, v, rfl, rfl, hx⟩ := one_of h1 h3
        obtain ⟨y, u, rfl, rfl, hy⟩ := one_of h2 h4
        cases x <;> simp [dsFit] at h1
        cases y <;> simp [dsFit] at h2
        simp only [RepD] at hx hy
        subst hx hy
        simp only [ofCells, ha, cond_false, List.headD_cons]
        rw [run_equalIn_bool' w d t _ _ hu]
        simp [eqAll, eqD]
      | string =>
        simp only [Bool.and_eq_true, Bool.not_eq_true'] at h
        obtain ⟨hs, ha⟩ := h
        rw [eqs_of hs] at h1 h2
        obtain ⟨x, v, rfl, rfl, hx⟩ := one_of h1 h3
        obtain ⟨y, u, rfl, rfl, hy⟩ := one_of h2 h4
        cases x <;> simp [dsFit] at h1
        cases y <;> simp [dsFit] at h2
        simp only [RepD] at hx hy
        subst hx hy
        simp only [ofCells, ha, cond_false, List.headD_cons]
        rw [run_equalIn_string w d t _ _ hu]
        simp [eqAll, eqD, ByteArray.toList_mk]
      | _ => cases h

/-- A type table is what the program's own is. -/
def tabB (P : Program) (T : Tab) : Bool := T.all fun p => tyOKb P p.1 p.2
def tabEqB (P : Program) (T : Tab) : Bool := T.all fun p => !(p.2.eq && p.2.agg) || (!(P.eqGuardType P.depth p.1) && eqB P T 6 p.1)
theorem ti_mem {t : Nat} {i : TI} : ∀ {T : Tab}, ti? t T = some i → (t, i) ∈ T
  | [], h => by simp [ti?] at h
  | (x, j) :: T, h => by
    simp only [ti?] at h
    cases hb : Nat.beq x t
    · rw [hb, cond_false] at h; exact List.mem_cons_of_mem _ (ti_mem h)
    · rw [hb, cond_true] at h
      have := Nat.eq_of_beq_eq_true hb
      simp at h; subst this h; exact List.mem_cons_self
theorem tyF_of {t : Nat} {i : TI} (this : tyOKb P t i = true) : Nonempty (TyF P t i) := by
  unfold tyOKb at this
  cases hd : P.underlying t with
  | none => simp [hd] at this
  | some d =>
    cases hf : P.info? t with
    | none => simp [hd, hf] at this
    | some f =>
      simp only [hd, hf, Bool.and_eq_true, beq_iff_eq] at this
      obtain ⟨⟨h1, h2⟩, h3⟩ := this
      cases hz : f.zero with
      | none => simp [hz] at h2
      | some z => exact ⟨⟨d, f, z, hd, hf, h1, hz, by simpa [hz] using h2, h3⟩⟩
theorem Cx.mk' (h1 : tabB P T = true) (h2 : tabEqB P T = true) : Cx P T := by
  have hty : ∀ t i, ti? t T = some i → tyOKb P t i = true := fun t i hi => List.all_eq_true.1 h1 _ (ti_mem hi)
  have hf : ∀ t i, ti? t T = some i → Nonempty (TyF P t i) := fun t i hi => tyF_of (hty t i hi)
  refine ⟨hty, fun t i hi he ha => ?_⟩
  have q := List.all_eq_true.1 h2 _ (ti_mem hi)
  simp only [he, ha, Bool.and_true, Bool.not_true, Bool.false_or, Bool.and_eq_true, Bool.not_eq_true'] at q
  refine ⟨q.1, fun Pr ds es r xs ys w h3 h4 h5 h6 h7 => ?_⟩
  have := eqB_sound hf 6 t q.2 i hi Pr ds es xs.toList ys.toList w h3 h4 h5 h6 Op.maxDepth (by decide)
  rw [ha] at this
  simp only [ofCells, cond_true, Array.toArray_toList] at this
  unfold Op.equal
  rw [this, eqDs_all ds es r h7]
end
end Go.Proofs.YtfafmpiajlgojaaDoor.Lg
