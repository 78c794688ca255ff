/- Part of a proof of the seat's statements: no statement by itself. -/
import Derived.Test.YtfafmpiajlgojaaDoorLgB3
import Derived.Laws.StructEq
import Derived.ChangeKeysEq
namespace Go.Proofs.YtfafmpiajlgojaaDoor.Lg
open Go

/-! ### What the table of types says, held against the program -/
def zeroB : Sh → Value → Bool
  | .int k, .int k' n => (if k = k' then true else false) && n == 0
  | .bool, .bool b => !b
  | .str, .string s => s.size == 0
  | .sl _, .slice none 0 0 => true
  | _, _ => false
def zerosB : List Sh → List Value → Bool
  | [], [] => true
  | e :: es, v :: vs => zeroB e v && zerosB es vs
  | _, _ => false
def shB (a b : List Sh) : Bool := (Sh.eqs? a b).isSome
theorem shB_eq {a b : List Sh} (h : shB a b = true) : a = b := by
  unfold shB at h
  cases hq : Sh.eqs? a b with
  | none => simp [hq] at h
  | some p => exact p.down
mutual
theorem Sh.eq?_refl : ∀ a : Sh, Sh.eq? a a = some ⟨rfl⟩
  | .int k => by simp [Sh.eq?]
  | .bool => rfl
  | .str => rfl
  | .sl es => by simp [Sh.eq?, Sh.eqs?_refl es]
theorem Sh.eqs?_refl : ∀ a : List Sh, Sh.eqs? a a = some ⟨rfl⟩
  | [] => rfl
  | x :: xs => by simp [Sh.eqs?, Sh.eq?_refl x, Sh.eqs?_refl xs]
end
theorem shB_iff {a b : List Sh} : shB a b = true ↔ a = b := ⟨shB_eq, fun h => by subst h; simp [shB, Sh.eqs?_refl]⟩
def fldsB (P : Program) : List Field → List (Nat × Nat) → List Nat → Bool
  | [], [], [] => true
  | f :: fs, (o, n) :: l, t :: ts => f.offset == o && f.type == t && ((P.info? f.type).map (·.size)) == some n && !(n == 0) && fldsB P fs l ts
  | _, _, _ => false
def elB : List Sh → Option TypeDesc → Bool
  | [.int k], some (.int k') => if k = k' then true else false
  | [.int _], _ => false
  | _, _ => true
def descB (P : Program) (d : TypeDesc) (i : TI) : Bool :=
  match d with
  | .int k => !i.agg && shB i.sh [.int k] && i.flds.isEmpty && i.arr.isNone && i.es.isEmpty
  | .bool => !i.agg && shB i.sh [.bool] && i.flds.isEmpty && i.arr.isNone && i.es.isEmpty
  | .string => !i.agg && shB i.sh [.str] && i.flds.isEmpty && i.arr.isNone && i.es.isEmpty
  | .slice e => !i.agg && shB i.sh [.sl i.es] && i.flds.isEmpty && i.arr.isNone && !i.es.isEmpty &&
      (match P.info? e with
       | some f => f.size == i.es.length && f.bytes == i.eb && !(f.bytes == 0) && (match f.zero with | some z => zerosB i.es z.cells.toList | none => false) && elB i.es (P.underlying e)
       | none => false)
  | .struct fs => i.agg && i.arr.isNone && fldsB P fs.toList i.flds i.ftys
  | .array n e => i.agg && i.flds.isEmpty && (match P.info? e, i.arr with | some f, some (m, k) => n == m && f.size == k && !(k == 0) && (match i.ftys with | [t] => e == t | _ => false) | _, _ => false)
  | _ => false
def tyOKb (P : Program) (t : Nat) (i : TI) : Bool :=
  match P.underlying t, P.info? t with
  | some d, some f => f.size == i.sh.length && (match f.zero with | some z => zerosB i.sh z.cells.toList | none => false) && descB P d i
  | _, _ => false

structure Cx (P : Program) (T : Tab) : Prop where
  ty : ∀ t i, ti? t T = some i → tyOKb P t i = true
  eq : ∀ t i, ti? t T = some i → i.eq = true → i.agg = true → P.eqGuardType P.depth t = false ∧ ∀ (Pr : PM) (ds es : List D) (r : Bool) (xs ys : Array Value) (w : World),
    dsFit i.sh ds = true → dsFit i.sh es = true → RepDs Pr ds xs.toList → RepDs Pr es ys.toList → eqDs ds es = some r → (Op.equal t (.agg xs) (.agg ys)).run P w = .ok r w

theorem withT_some {R : Type} {t : Nat} {T : Tab} {k : TI → Option R} {r : R} (h : withT t T k = some r) : ∃ i, ti? t T = some i ∧ k i = some r := by
  unfold withT at h
  cases hi : ti? t T with
  | none => simp [hi] at h
  | some i => exact ⟨i, rfl, by simpa [hi] using h⟩

structure TyF (P : Program) (t : Nat) (i : TI) where
  d : TypeDesc
  f : TypeInfo
  z : Value
  hd : P.underlying t = some d
  hf : P.info? t = some f
  hs : f.size = i.sh.length
  hz : f.zero = some z
  hzb : zerosB i.sh z.cells.toList = true
  desc : descB P d i = true
theorem Cx.facts {P : Program} {T : Tab} (h : Cx P T) {t : Nat} {i : TI} (hi : ti? t T = some i) : Nonempty (TyF P t i) := by
  have := h.ty t i hi
  unfold tyOKb at this
  cases hd : P.underlying t with
  | none => simp [hd] at this
  | some d =>
    cases hf : P.info? t with
    | none => simp [hd, hf] at this
    | some f =>
      simp only [hd, hf, Bool.and_eq_true, beq_iff_eq] at this
      obtain ⟨⟨h1, h2⟩, h3⟩ := this
      cases hz : f.zero with
      | none => simp [hz] at h2
      | some z => exact ⟨⟨d, f, z, hd, hf, h1, hz, by simpa [hz] using h2, h3⟩⟩

section
variable {P : Program} {t : Nat} {i : TI}
theorem TyF.agg (h : TyF P t i) : i.agg = (match h.d with | .struct _ | .array _ _ => true | _ => false) := by
  obtain ⟨d, f, z, hd, hf, hs, hz, hzb, desc⟩ := h
  cases d <;> simp only [descB, Bool.and_eq_true, Bool.not_eq_true'] at desc <;> first | (simp at desc; done) | (simp [desc]; done)
theorem TyF.run_isAgg (h : TyF P t i) (w : World) : (isAgg t).run P w = .ok i.agg w := by
  rw [h.agg]
  unfold Go.isAgg
  simp only [Sem.run_bind, run_underlying h.hd, Result.andThen_ok]
  cases h.d <;> rfl
theorem TyF.run_sizeOf (h : TyF P t i) (w : World) : (Go.sizeOf t).run P w = .ok i.sh.length w := by
  unfold Go.sizeOf
  simp [run_typeInfo w h.hf, h.hs]
theorem TyF.run_zero (h : TyF P t i) (w : World) : (zeroValue t).run P w = .ok h.z w := by
  unfold Go.zeroValue
  simp [run_typeInfo w h.hf, h.hz]
theorem TyF.str (h : TyF P t i) (ha : i.agg = false) (hs : i.sh = [.str]) : P.underlying t = some .string := by
  obtain ⟨d, f, z, hd, hf, hs', hz, hzb, desc⟩ := h
  rw [hd]
  cases d <;> simp only [descB, ha, shB_iff, hs, Bool.and_eq_true] at desc <;> first | rfl | (simp at desc; done)
theorem TyF.int (h : TyF P t i) (ha : i.agg = false) {k : IntKind} (hs : i.sh = [.int k]) : P.underlying t = some (.int k) := by
  obtain ⟨d, f, z, hd, hf, hs', hz, hzb, desc⟩ := h
  rw [hd]
  cases d <;> simp only [descB, ha, shB_iff, hs, Bool.and_eq_true] at desc <;> try (simp at desc; done)
  simp at desc
  rw [desc.1.1.1]
theorem TyF.bool (h : TyF P t i) (ha : i.agg = false) (hs : i.sh = [.bool]) : P.underlying t = some .bool := by
  obtain ⟨d, f, z, hd, hf, hs', hz, hzb, desc⟩ := h
  rw [hd]
  cases d <;> simp only [descB, ha, shB_iff, hs, Bool.and_eq_true] at desc <;> first | rfl | (simp at desc; done)

structure ElF (P : Program) (t : Nat) (i : TI) where
  e : TypeId
  f : TypeInfo
  z : Value
  hd : P.underlying t = some (.slice e)
  hf : P.info? e = some f
  hs : f.size = i.es.length
  hb : f.bytes = i.eb
  hb0 : f.bytes ≠ 0
  hz : f.zero = some z
  hzb : zerosB i.es z.cells.toList = true
  ne : i.es ≠ []
  el : elB i.es (P.underlying e) = true
theorem TyF.slice (h : TyF P t i) (ha : i.agg = false) (hn : i.es ≠ [] ∨ ∃ es, i.sh = [.sl es]) : Nonempty (ElF P t i) := by
  have := h.desc
  have hu := h.hd
  cases hd : h.d <;> simp only [hd, descB, Bool.and_eq_true, Bool.not_eq_true', List.isEmpty_iff] at this <;> try (simp [ha] at this; done)
  case slice e =>
    obtain ⟨⟨⟨⟨⟨_, hsh⟩, _⟩, _⟩, hne⟩, hx⟩ := this
    cases hf : P.info? e with
    | none => simp [hf] at hx
    | some f =>
      simp only [hf, Bool.and_eq_true, beq_iff_eq, Bool.not_eq_true', beq_eq_false_iff_ne] at hx
      obtain ⟨⟨⟨⟨h1, h2⟩, h3⟩, h4⟩, h5⟩ := hx
      cases hz : f.zero with
      | none => simp [hz] at h4
      | some z => exact ⟨⟨e, f, z, by rw [hu, hd], hf, h1, h2, h3, hz, by simpa [hz] using h4, fun q => by simp [q] at hne, h5⟩⟩
  all_goals
    rcases hn with hn | ⟨es, hn⟩
    · exact absurd this.2 (by simpa using hn)
    · rw [hn] at this; simp [shB_iff] at this
theorem ElF.run_size (h : ElF P t i) (w : World) : (Go.sizeOf h.e).run P w = .ok i.es.length w := by
  unfold Go.sizeOf
  simp [run_typeInfo w h.hf, h.hs]
theorem ElF.run_zero (h : ElF P t i) (w : World) : (zeroValue h.e).run P w = .ok h.z w := by
  unfold Go.zeroValue
  simp [run_typeInfo w h.hf, h.hz]

theorem fldsB_get : ∀ (fs : List Field) (l : List (Nat × Nat)) (ts : List Nat) (j o n : Nat), fldsB P fs l ts = true → l[j]? = some (o, n) → ∃ f, fs[j]? = some f ∧ f.offset = o ∧ ts[j]? = some f.type ∧ (P.info? f.type).map (·.size) = some n ∧ n ≠ 0
  | [], [], [], j, o, n, _, h => by simp at h
  | f :: fs, (o', n') :: l, t :: ts, j, o, n, h, hj => by
    simp only [fldsB, Bool.and_eq_true, beq_iff_eq, Bool.not_eq_true', beq_eq_false_iff_ne] at h
    obtain ⟨⟨⟨⟨h1, h2⟩, h3⟩, h4⟩, h5⟩ := h
    cases j with
    | zero => simp at hj; obtain ⟨rfl, rfl⟩ := hj; exact ⟨f, rfl, h1, by simp [h2], h3, h4⟩
    | succ j =>
      obtain ⟨g, k1, k2, k3, k4, k5⟩ := fldsB_get fs l ts j o n h5 (by simpa using hj)
      exact ⟨g, by simpa using k1, k2, by simpa using k3, k4, k5⟩
  | [], (_, _) :: _, _, _, _, _, h, _ => by simp [fldsB] at h
  | [], [], _ :: _, _, _, _, h, _ => by simp [fldsB] at h
  | _ :: _, [], _, _, _, _, h, _ => by simp [fldsB] at h
  | _ :: _, (_, _) :: _, [], _, _, _, h, _ => by simp [fldsB] at h
theorem TyF.field (h : TyF P t i) {j o n : Nat} (hj : i.flds[j]? = some (o, n)) : ∃ fs f, P.underlying t = some (.struct fs) ∧ fs[j]? = some f ∧ f.offset = o ∧ i.ftys[j]? = some f.type ∧ P.cellsOf f.type = n ∧ (∃ g, P.info? f.type = some g ∧ g.size = n) ∧ n ≠ 0 := by
  have := h.desc
  have hu := h.hd
  have hne : i.flds ≠ [] := fun q => by simp [q] at hj
  cases hd : h.d <;> simp only [hd, descB, Bool.and_eq_true, List.isEmpty_iff] at this
  case struct fs =>
    obtain ⟨f, k1, k2, k3, k4, k5⟩ := fldsB_get _ _ _ j o n this.2 hj
    refine ⟨fs, f, by rw [hu, hd], by simpa using k1, k2, k3, by simp [Program.cellsOf, k4], ?_, k5⟩
    simpa using k4
  all_goals first | (exact absurd this.1.1.2 hne) | (exact absurd this.1.1.1.2 hne) | (exact absurd this.1.2 hne) | (simp at this; done)
theorem TyF.array (h : TyF P t i) {m k : Nat} (ha : i.arr = some (m, k)) : ∃ e g, P.underlying t = some (.array m e) ∧ P.info? e = some g ∧ g.size = k ∧ k ≠ 0 ∧ i.ftys = [e] := by
  have := h.desc
  have hu := h.hd
  cases hd : h.d <;> simp only [hd, descB, Bool.and_eq_true, ha, Option.isNone_some, Bool.false_eq_true, and_false, false_and] at this
  case array n e =>
    obtain ⟨⟨_, _⟩, hx⟩ := this
    cases hf : P.info? e with
    | none => simp [hf] at hx
    | some f =>
      simp only [hf, Bool.and_eq_true, beq_iff_eq, Bool.not_eq_true', beq_eq_false_iff_ne] at hx
      obtain ⟨⟨⟨h1, h2⟩, h3⟩, h4⟩ := hx
      subst h1
      refine ⟨e, f, by rw [hu, hd], hf, h2, h3, ?_⟩
      split at h4
      · rename_i q; rw [q]; simp at h4; rw [h4]
      · cases h4
end
end Go.Proofs.YtfafmpiajlgojaaDoor.Lg
