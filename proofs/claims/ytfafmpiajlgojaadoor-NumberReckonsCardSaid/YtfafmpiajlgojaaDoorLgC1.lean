/- Part of a proof of the seat's statements: no statement by itself. -/
import Derived.Test.YtfafmpiajlgojaaDoorLgB14
import Derived.Tactics
import Derived.Lib.LaidTab
import Derived.Lib.ItoaNum
namespace Go.Proofs.YtfafmpiajlgojaaDoor.Lg
open Go

/-! ### Calls -/
def Tr.Out {α : Type} : Tr α → α → Prop
  | .none, _ => False
  | .leaf a, x => a = x
  | .br b x y, z => (b = true ∧ x.Out z) ∨ (b = false ∧ y.Out z)
  | .chk p x, z => p ∧ x.Out z
  | .brP p x y, z => (p ∧ x.Out z) ∨ (¬ p ∧ y.Out z)
theorem Tr.run_some {α R : Type} {K : α → Option R} {r : R} : ∀ {t : Tr α}, t.run K = some r → ∃ x, t.Out x ∧ K x = some r
  | .none, h => by simp [Tr.run] at h
  | .leaf a, h => ⟨a, rfl, h⟩
  | .br b x y, h => by
    simp only [Tr.run] at h
    rcases br_some h with ⟨hb, h⟩ | ⟨hb, h⟩
    · obtain ⟨z, h1, h2⟩ := Tr.run_some h; exact ⟨z, .inl ⟨hb, h1⟩, h2⟩
    · obtain ⟨z, h1, h2⟩ := Tr.run_some h; exact ⟨z, .inr ⟨hb, h1⟩, h2⟩
  | .chk p x, h => by
    simp only [Tr.run] at h
    obtain ⟨hp, h⟩ := chk_some h
    obtain ⟨z, h1, h2⟩ := Tr.run_some h
    exact ⟨z, ⟨hp, h1⟩, h2⟩
  | .brP p x y, h => by
    simp only [Tr.run] at h
    rcases brP_some h with ⟨hp, h⟩ | ⟨hp, h⟩
    · obtain ⟨z, h1, h2⟩ := Tr.run_some h; exact ⟨z, .inl ⟨hp, h1⟩, h2⟩
    · obtain ⟨z, h1, h2⟩ := Tr.run_some h; exact ⟨z, .inr ⟨hp, h1⟩, h2⟩

def SV.free : SV → Bool
  | .val _ | .app _ _ => true
  | _ => false

/-- The laid table of powers of ten, where the program has it, stands; no slot owns its block. -/
def JW (P : Program) (w : World) : Prop := ∀ i, P.globalNamed "internal/strconv.uint64pow10" = some i → i < w.heap.size ∧ Lib.TabIs P w "internal/strconv.uint64pow10" .u64 Lib.pow10Tab
theorem JW.none {P : Program} (h : P.globalNamed "internal/strconv.uint64pow10" = none) (w : World) : JW P w := fun i hi => by rw [h] at hi; cases hi
def JT (P : Program) (w : World) (F : Nat → List Nat) : Prop := JW P w ∧ ∀ i, P.globalNamed "internal/strconv.uint64pow10" = some i → ∀ t, i ∉ F t
theorem JT.sub {P : Program} {w : World} {F F' : Nat → List Nat} (h : JT P w F) (k : ∀ t b, b ∈ F' t → ∃ t', b ∈ F t') : JT P w F' :=
  ⟨h.1, fun i hi t hb => let ⟨t', q⟩ := k t i hb; h.2 i hi t' q⟩
theorem JW.ext {P : Program} {A : Nat → Prop} {Pr Pr' : PM} {w w' : World} (h : JW P w) (x : Ext A Pr w Pr' w') (k : ∀ i, P.globalNamed "internal/strconv.uint64pow10" = some i → ¬ A i) : JW P w' := by
  intro i hi
  obtain ⟨h1, h2⟩ := h i hi
  refine ⟨Nat.lt_of_lt_of_le h1 x.size, ?_⟩
  have e := (x.block i h1 (k i hi)).1
  unfold Lib.TabIs World.var? at h2 ⊢
  rw [hi] at h2 ⊢
  simp only [Option.bind_some] at h2 ⊢
  rw [e]; exact h2
theorem JT.ext {P : Program} {Pr Pr' : PM} {w w' : World} {F F' : Nat → List Nat} (h : JT P w F) (x : Ext (fun b => ∃ t, b ∈ F t) Pr w Pr' w') (k : ∀ t b, b ∈ F' t → (∃ t', b ∈ F t') ∨ w.heap.size ≤ b) : JT P w' F' :=
  ⟨h.1.ext x fun i hi ⟨t, hb⟩ => h.2 i hi t hb, fun i hi t hb => (k t i hb).elim (fun ⟨t', q⟩ => h.2 i hi t' q) (fun q => Nat.lt_irrefl _ (Nat.lt_of_lt_of_le (h.1 i hi).1 q))⟩

/-- What a function is proved to do: for these arguments it returns that. -/
structure Sat (P : Program) (g : Nat) (S : List AV → Tr SV) : Prop where
  fn : ∃ fn, P.funcs[g]? = some fn ∧ (fn.name == "runtime.NumGoroutine") = false ∧ fn.body.isNone = false
  calls : ∀ vs sv, (S vs).Out sv → ∀ (Pr : PM) (w : World) (vals : List Value), JW P w → RepAs Pr vs vals → PrOK Pr w →
    Calls P g vals.toArray w fun e w' => ∃ v Pr' B, e = .returned v ∧ sv.free = true ∧ RepS Pr' w' sv v B ∧ PrOK Pr' w' ∧ Ext (fun _ => False) Pr w Pr' w' ∧ B.Nodup ∧ ∀ b ∈ B, w.heap.size ≤ b
/-- What a function without a body is proved to hand back. -/
structure SatX (P : Program) (g : Nat) (S : List AV → Tr SV) : Prop where
  calls : ∀ vs sv, (S vs).Out sv → ∃ x, sv = .val x ∧ ∀ (Pr : PM) (w : World) (vals : List Value), RepAs Pr vs vals → ∃ v, (callFunc g vals.toArray).run P w = .ok (.value v) w ∧ RepA Pr x v
def SatE (P : Program) (E : CallE) : Prop := ∀ g, (∀ vs, E g vs = .none) ∨ Sat P g (E g) ∨ SatX P g (E g)

section
variable {R : Type} {P : Program} {T : Tab} {E : CallE} {o : Oper} {fr : Fr} {K : Fr → Option R} {r : R} {Pr : PM} {w : World} {a : Act} {F : Nat → List Nat}
  {next : Act → World → Prop} {Q : Exit → Act → World → Prop}

theorem argVs_sound (hF : RepF Pr w fr a.tmps F) : ∀ (l : List Operand) (vs : List AV), argVs fr l = some vs → RepAs Pr vs (l.map a.eval)
  | [], vs, h => by simp [argVs] at h; subst h; simp [RepAs]
  | x :: xs, vs, h => by
    simp only [argVs] at h
    split at h
    · rename_i v l h1 h2
      simp at h; subst h
      simp only [List.map_cons, RepAs]
      exact ⟨rdO_sound hF h1, argVs_sound hF xs l h2⟩
    · cases h

theorem RepAs.app {Pr : PM} : ∀ (xs : List AV) (vs : List Value) (ys : List AV) (us : List Value), RepAs Pr xs vs → RepAs Pr ys us → RepAs Pr (xs ++ ys) (vs ++ us)
  | [], [], ys, us, _, k => k
  | x :: xs, v :: vs, ys, us, h, k => by simp only [RepAs] at h; simp only [List.cons_append, RepAs]; exact ⟨h.1, RepAs.app xs vs ys us h.2 k⟩
  | [], _ :: _, _, _, h, _ => by simp [RepAs] at h
  | _ :: _, [], _, _, h, _ => by simp [RepAs] at h
theorem op_callv {c : Call} {f : Operand} {g : Nat} {cv : Array Value} {caps vs : List AV} {put : SV → Option R} (hE : SatE P E) (ho : o.op = .call c) (hc : c.callee = .value f) (hfv : a.eval f = .func (.func g) #[] cv) (hcap : RepAs Pr caps cv.toList) (hargs : argVs fr c.args.toList = some vs)
    (hput : put = fun sv => K (dset o.dst sv fr)) (hev : (E g (vs ++ caps)).run put = some r) (hJ : JT P w F) (hF : RepF Pr w fr a.tmps F) (hP : PrOK Pr w) (hd : DOK o a) (hn : Nx K r o.dst Pr w a F next) : o.wp P a w next Q := by
  · subst hput
    obtain ⟨sv, hout, hK⟩ := Tr.run_some hev
    have hrep0 := RepAs.app vs (c.args.toList.map a.eval) caps cv.toList (argVs_sound hF c.args.toList vs hargs) hcap
    have e0 : ((c.args.toList.map a.eval) ++ cv.toList).toArray = c.args.map a.eval ++ cv := by simp [← Array.toList_map]
    rcases hE g with hnone | hS | hX
    · rw [hnone] at hout; exact hout.elim
    case inr.inr =>
      obtain ⟨x, rfl, hcall⟩ := hX.calls _ sv hout
      obtain ⟨v, hrun, hrep⟩ := hcall Pr w _ hrep0
      rw [e0] at hrun
      refine wp_value (v := v) (w' := w) ?_ (finV hF hP hd hn hrep hK)
      simp [execOp, ho, resolve, hc, hfv, Deferred.ofValue, invoke, hrun]
    obtain ⟨fn, hf1, hf2, hf3⟩ := hS.fn
    have hcalls := hS.calls _ sv hout
    have hcall := hcalls Pr w _ hJ.1 hrep0 hP
    have hf2' : ¬ fn.name = "runtime.NumGoroutine" := by simpa using hf2
    have hf3' : ¬ fn.body = none := by intro q; simp [q] at hf3
    have hrun : (execOp a.eval o).run P w = .ok (.enter g (c.args.map a.eval ++ cv)) w := by
      simp [execOp, ho, resolve, hc, hfv, Deferred.ofValue, invoke, callFunc, hf1, hf2', hf3']
    unfold Oper.wp
    rw [hrun, Oper.upon_enter]
    rw [e0] at hcall
    refine Calls.mono hcall fun en w' h => ?_
    obtain ⟨v, Pr', B, rfl, hfree, hr, hP', hx, hnd, hB⟩ := h
    have hk : ∀ t, Keeps (F t) Pr w Pr' w' := fun t => hx.keeps fun b hb => ⟨hF.lt t b hb, fun h => h⟩
    refine fin hd hn (hF.mono hx.le hk) hP' (hx.weaken fun b h => h.elim) sub_self hr hnd ?_ (fun b hb => .inr (hB b hb)) ?_ ?_ ?_ ?_ hK
    · intro t b hb q
      have := hF.lt t b q
      have := hB b hb
      omega
    · cases sv <;> simp [SV.free] at hfree <;> rfl
    · intro d' h; subst h; simp [SV.free] at hfree
    · intro d' o' h; subst h; simp [SV.free] at hfree
    · intro d' o' h; subst h; simp [SV.free] at hfree

theorem op_call {c : Call} {g : Nat} (hE : SatE P E) (ho : o.op = .call c) (hc : c.callee = .value (.func g)) (hev : evOp T E o fr K = some r) (hJ : JT P w F) (hF : RepF Pr w fr a.tmps F) (hP : PrOK Pr w) (hd : DOK o a) (hn : Nx K r o.dst Pr w a F next) : o.wp P a w next Q := by
  simp only [evOp, ho, hc] at hev
  split at hev
  · rename_i vs hargs
    refine op_callv (caps := []) (cv := #[]) hE ho hc rfl (by simp [RepAs]) hargs rfl ?_ hJ hF hP hd hn
    rw [List.append_nil]; exact hev
  · cases hev
theorem op_callt {c : Call} {t : Nat} (hE : SatE P E) (ho : o.op = .call c) (hc : c.callee = .value (.tmp t)) (hev : evOp T E o fr K = some r) (hJ : JT P w F) (hF : RepF Pr w fr a.tmps F) (hP : PrOK Pr w) (hd : DOK o a) (hn : Nx K r o.dst Pr w a F next) : o.wp P a w next Q := by
  simp only [evOp, ho, hc] at hev
  split at hev
  · rename_i g caps vs hf hargs
    have := rd_sound hF hf
    simp only [RepA] at this
    obtain ⟨cv, hv, hcap⟩ := this
    exact op_callv hE ho hc hv hcap hargs rfl hev hJ hF hP hd hn
  · cases hev

theorem op_max {c : Call} (ho : o.op = .call c) (hc : c.callee = .builtin .max) (hev : evOp T E o fr K = some r) (hF : RepF Pr w fr a.tmps F) (hP : PrOK Pr w) (hd : DOK o a) (hn : Nx K r o.dst Pr w a F next) : o.wp P a w next Q := by
  simp only [evOp, ho, hc] at hev
  split at hev
  · rename_i k x k' y hargs
    split at hev
    · have h := argVs_sound hF c.args.toList _ hargs
      have e0 : c.args.toList.map a.eval = (c.args.map a.eval).toList := by simp [← Array.toList_map]
      rw [e0] at h
      refine wp_value (v := .int k (max2I x y)) (w' := w) ?_ (finV hF hP hd hn (x := .d (.int k (max2I x y))) (by simp [RepA, RepD]) hev)
      have hl : ∃ v0 v1, (c.args.map a.eval).toList = [v0, v1] ∧ v0 = .int k x ∧ v1 = .int k' y := by
        match hm : (c.args.map a.eval).toList, h with
        | [v0, v1], h => exact ⟨v0, v1, rfl, h.1, h.2.1⟩
        | [], h => exact h.elim
        | [_], h => exact h.2.elim
        | _ :: _ :: _ :: _, h => exact h.2.2.elim
      obtain ⟨v0, v1, hl, rfl, rfl⟩ := hl
      rw [← e0] at hl
      simp [execOp, ho, resolve, hc, invoke, builtin, Builtin.max_, hl, List.foldlM, Builtin.max2, max2I]
    · cases hev
  · cases hev
theorem op_min {c : Call} (ho : o.op = .call c) (hc : c.callee = .builtin .min) (hev : evOp T E o fr K = some r) (hF : RepF Pr w fr a.tmps F) (hP : PrOK Pr w) (hd : DOK o a) (hn : Nx K r o.dst Pr w a F next) : o.wp P a w next Q := by
  simp only [evOp, ho, hc] at hev
  split at hev
  · rename_i k x k' y hargs
    split at hev
    · have h := argVs_sound hF c.args.toList _ hargs
      have e0 : c.args.toList.map a.eval = (c.args.map a.eval).toList := by simp [← Array.toList_map]
      rw [e0] at h
      refine wp_value (v := .int k (min2I x y)) (w' := w) ?_ (finV hF hP hd hn (x := .d (.int k (min2I x y))) (by simp [RepA, RepD]) hev)
      have hl : ∃ v0 v1, (c.args.map a.eval).toList = [v0, v1] ∧ v0 = .int k x ∧ v1 = .int k' y := by
        match hm : (c.args.map a.eval).toList, h with
        | [v0, v1], h => exact ⟨v0, v1, rfl, h.1, h.2.1⟩
        | [], h => exact h.elim
        | [_], h => exact h.2.elim
        | _ :: _ :: _ :: _, h => exact h.2.2.elim
      obtain ⟨v0, v1, hl, rfl, rfl⟩ := hl
      rw [← e0] at hl
      simp [execOp, ho, resolve, hc, invoke, builtin, Builtin.min_, hl, List.foldlM, Builtin.min2, min2I]
    · cases hev
  · cases hev
theorem evOp_sound (hC : Cx P T) (hE : SatE P E) (hev : evOp T E o fr K = some r) (hJ : JT P w F) (hF : RepF Pr w fr a.tmps F) (hP : PrOK Pr w) (hd : DOK o a) (hn : Nx K r o.dst Pr w a F next) : o.wp P a w next Q := by
  cases ho : o.op with
  | move x => exact op_move hC ho hev hF hP hd hn
  | assign x => exact op_assign hC ho hev hF hP hd hn
  | pick c x y => exact op_pick ho hev hF hP hd hn
  | alloc t => exact op_alloc hC ho hev hF hP hd hn
  | box t x => exact op_box ho hev hF hP hd hn
  | build t ps => exact op_build hC ho hev hF hP hd hn
  | buildSlice t n ps => exact op_buildSlice hC ho hev hF hP hd hn
  | load t x => exact op_load hC ho hev hF hP hd hn
  | store t x y => exact op_store hC ho hev hF hP hd hn
  | nilCheck x => exact op_nilCheck ho hev hF hP hd hn
  | binOp u t x y t' => exact op_binOp hC ho hev hF hP hd hn
  | unOp u t x => exact op_unOp ho hev hF hP hd hn
  | convert u t x => exact op_convert hC ho hev hF hP hd hn
  | slice t x lo hi mx =>
    cases mx with
    | none => exact op_slice hC ho hev hF hP hd hn
    | some m => simp [evOp, ho] at hev
  | fieldAddr t x f => exact op_fieldAddr hC ho hev hF hP hd hn
  | field t x f => exact op_field hC ho hev hF hP hd hn
  | indexAddr t x y => exact op_indexAddr hC ho hev hF hP hd hn
  | index t x y => exact op_index hC ho hev hF hP hd hn
  | extract x n => exact op_extract ho hev hF hP hd hn
  | range t x => exact op_range hC ho hev hF hP hd hn
  | next x b =>
    cases b with
    | true => exact op_next ho hev hF hP hd hn
    | false => simp [evOp, ho] at hev
  | call c =>
    cases hc : c.callee with
    | builtin b =>
      cases b with
      | len => exact op_len hC ho hc hev hF hP hd hn
      | append => exact op_append hC ho hc hev hF hP hd hn
      | max => exact op_max ho hc hev hF hP hd hn
      | min => exact op_min ho hc hev hF hP hd hn
      | _ => simp [evOp, ho, hc] at hev
    | value f =>
      cases f with
      | func g => exact op_call hE ho hc hev hJ hF hP hd hn
      | tmp t => exact op_callt hE ho hc hev hJ hF hP hd hn
      | _ => simp [evOp, ho, hc] at hev
    | invoke x y => simp [evOp, ho, hc] at hev
  | _ => simp [evOp, ho] at hev
end
end Go.Proofs.YtfafmpiajlgojaaDoor.Lg
