/- Part of a proof of the seat's statements: no statement by itself. -/
import Derived.Test.YtgcjhcefpkbheaaLgB13
import Derived.Tactics
import Derived.Lib.LaidTab
import Derived.Lib.ItoaNum
import Derived.LoopN
import Derived.Scope
section
namespace Go.Proofs.Ytgcjhcefpkbheaa.Lg
open Go
variable {Lz : PM}

/-! ### Calls -/
def Tr.Out {α : Type} : Tr α → α → Prop
  | .none, _ => False
  | .leaf a, x => a = x
  | .br b x y, z => (b = true ∧ x.Out z) ∨ (b = false ∧ y.Out z)
  | .chk p x, z => p ∧ x.Out z
  | .brP p x y, z => (p ∧ x.Out z) ∨ (¬ p ∧ y.Out z)
theorem Tr.run_some {α R : Type} {K : α → Option R} {r : R} : ∀ {t : Tr α}, t.run K = some r → ∃ x, t.Out x ∧ K x = some r
  | .none, h => by simp [Tr.run] at h
  | .leaf a, h => ⟨a, rfl, h⟩
  | .br b x y, h => by
    simp only [Tr.run] at h
    rcases br_some h with ⟨hb, h⟩ | ⟨hb, h⟩
    · obtain ⟨z, h1, h2⟩ := Tr.run_some h; exact ⟨z, .inl ⟨hb, h1⟩, h2⟩
    · obtain ⟨z, h1, h2⟩ := Tr.run_some h; exact ⟨z, .inr ⟨hb, h1⟩, h2⟩
  | .chk p x, h => by
    simp only [Tr.run] at h
    obtain ⟨hp, h⟩ := chk_some h
    obtain ⟨z, h1, h2⟩ := Tr.run_some h
    exact ⟨z, ⟨hp, h1⟩, h2⟩
  | .brP p x y, h => by
    simp only [Tr.run] at h
    rcases brP_some h with ⟨hp, h⟩ | ⟨hp, h⟩
    · obtain ⟨z, h1, h2⟩ := Tr.run_some h; exact ⟨z, .inl ⟨hp, h1⟩, h2⟩
    · obtain ⟨z, h1, h2⟩ := Tr.run_some h; exact ⟨z, .inr ⟨hp, h1⟩, h2⟩

def SV.free : SV → Bool
  | .val _ | .app _ _ => true
  | _ => false

/-- The laid table of powers of ten, where the program has it, stands; no slot owns its block. -/
def JW (P : Program) (w : World) : Prop := ∀ i, P.globalNamed "internal/strconv.uint64pow10" = some i → i < w.heap.size ∧ Lib.TabIs P w "internal/strconv.uint64pow10" .u64 Lib.pow10Tab
theorem JW.none {P : Program} (h : P.globalNamed "internal/strconv.uint64pow10" = none) (w : World) : JW P w := fun i hi => by rw [h] at hi; cases hi
/-- The table stands; what was lent stands; no slot owns either. -/
structure JT (Lz : PM) (P : Program) (w : World) (F : Nat → List Nat) : Prop where
  jw : JW P w
  jt : ∀ i, P.globalNamed "internal/strconv.uint64pow10" = some i → ∀ t, i ∉ F t
  lk : PrOK Lz w
  la : ∀ t, ∀ b ∈ F t, ∀ o, Lz b o = none
theorem JT.sub {P : Program} {w : World} {F F' : Nat → List Nat} (h : JT Lz P w F) (k : ∀ t b, b ∈ F' t → ∃ t', b ∈ F t') : JT Lz P w F' :=
  ⟨h.jw, fun i hi t hb => let ⟨t', q⟩ := k t i hb; h.jt i hi t' q, h.lk, fun t b hb o => let ⟨t', q⟩ := k t b hb; h.la t' b q o⟩
theorem JW.ext {P : Program} {A : Nat → Prop} {Pr Pr' : PM} {w w' : World} (h : JW P w) (x : Ext A Pr w Pr' w') (k : ∀ i, P.globalNamed "internal/strconv.uint64pow10" = some i → ¬ A i) : JW P w' := by
  intro i hi
  obtain ⟨h1, h2⟩ := h i hi
  refine ⟨Nat.lt_of_lt_of_le h1 x.size, ?_⟩
  have e := (x.block i h1 (k i hi)).1
  unfold Lib.TabIs World.var? at h2 ⊢
  rw [hi] at h2 ⊢
  simp only [Option.bind_some] at h2 ⊢
  rw [e]; exact h2
theorem PrOK.lt {Pr : PM} {w : World} (h : PrOK Pr w) {b o : Nat} {v : Value} (hv : Pr b o = some v) : b < w.heap.size := by
  rcases Nat.lt_or_ge b w.heap.size with q | q
  · exact q
  · have := h b o v hv
    simp [cellX, World.cell?, Array.getElem?_eq_none q] at this
theorem JT.ext {P : Program} {Pr Pr' : PM} {w w' : World} {F F' : Nat → List Nat} (h : JT Lz P w F) (x : Ext (fun b => ∃ t, b ∈ F t) Pr w Pr' w') (k : ∀ t b, b ∈ F' t → (∃ t', b ∈ F t') ∨ w.heap.size ≤ b) : JT Lz P w' F' :=
  ⟨h.jw.ext x fun i hi ⟨t, hb⟩ => h.jt i hi t hb, fun i hi t hb => (k t i hb).elim (fun ⟨t', q⟩ => h.jt i hi t' q) (fun q => Nat.lt_irrefl _ (Nat.lt_of_lt_of_le (h.jw i hi).1 q)),
    fun b o v hv => by
      have h1 := h.lk b o v hv
      have hb := h.lk.lt hv
      have e := (x.block b hb (fun ⟨t, q⟩ => by rw [h.la t b q o] at hv; cases hv)).1
      simp only [cellX, World.cell?, e] at h1 ⊢; exact h1,
    fun t b hb o => (k t b hb).elim (fun ⟨t', q⟩ => h.la t' b q o) (fun q => by
      cases hv : Lz b o with
      | none => rfl
      | some v => have := h.lk.lt hv; omega)⟩
/-- Nothing is lent. -/
def noL : PM := fun _ _ => none
theorem noL_ok (w : World) : PrOK noL w := fun _ _ _ h => by cases h

/-- What a function is proved to do: for these arguments it returns that. -/
structure Sat (P : Program) (g : Nat) (S : List AV → Tr SV) : Prop where
  fn : ∃ fn, P.funcs[g]? = some fn ∧ (fn.name == "runtime.NumGoroutine") = false ∧ fn.body.isNone = false
  calls : ∀ vs sv, (S vs).Out sv → ∀ (Pr : PM) (w : World) (vals : List Value), JW P w → RepAs Pr vs vals → PrOK Pr w →
    Calls P g vals.toArray w fun e w' => ∃ v Pr' B, e = .returned v ∧ sv.free = true ∧ RepS noL Pr' w' sv v B ∧ PrOK Pr' w' ∧ Ext (fun _ => False) Pr w Pr' w' ∧ B.Nodup ∧ ∀ b ∈ B, w.heap.size ≤ b
theorem RepS.any {L L' Pr : PM} {w : World} {sv : SV} {v : Value} {B : List Nat} (hf : sv.free = true) (h : RepS L Pr w sv v B) : RepS L' Pr w sv v B := by
  cases sv <;> simp [SV.free] at hf <;> simpa only [RepS] using h
/-- What a function without a body is proved to hand back. -/
structure SatX (P : Program) (g : Nat) (S : List AV → Tr SV) : Prop where
  calls : ∀ vs sv, (S vs).Out sv → ∃ x, sv = .val x ∧ ∀ (Pr : PM) (w : World) (vals : List Value), RepAs Pr vs vals → ∃ v, (callFunc g vals.toArray).run P w = .ok (.value v) w ∧ RepA Pr x v
/-- The values of the variables among some arguments. -/
def boxVals : List SV → List Value → List Value
  | .box _ _ :: l, v :: vs => v :: boxVals l vs
  | .own _ _ :: l, v :: vs => v :: boxVals l vs
  | _ :: l, _ :: vs => boxVals l vs
  | _, _ => []
def SV.isRefl : SV → Bool
  | .al _ _ | .ref _ _ | .ow _ _ => true
  | _ => false
/-- What a function is proved to do that is handed variables, or slices of its own. -/
structure SatO (P : Program) (g : Nat) (sp : OSpec) : Prop where
  fn : ∃ fn, P.funcs[g]? = some fn ∧ (fn.name == "runtime.NumGoroutine") = false ∧ fn.body.isNone = false
  calls : ∀ args sv outs, (sp.f args).Out (sv, outs) → ∀ (Lz Pr : PM) (w : World) (vals : List Value) (Bs : List (List Nat)), JT Lz P w (fun _ => Bs.flatten) → RepSs Lz Pr w args vals Bs → Bs.flatten.Nodup → (∀ x ∈ args, x.isRefl = false) → PrOK Pr w →
    Calls P g vals.toArray w fun e w' => ∃ v Pr' B Bs', e = .returned v ∧ sv.free = true ∧ RepS Lz Pr' w' sv v B ∧ RepSs Lz Pr' w' outs (boxVals args vals) Bs' ∧ PrOK Pr' w' ∧ Ext (fun b => b ∈ Bs.flatten) Pr w Pr' w' ∧ (B ++ Bs'.flatten).Nodup ∧ ∀ b ∈ B ++ Bs'.flatten, b ∈ Bs.flatten ∨ w.heap.size ≤ b
def SatE (P : Program) (E : CallS) : Prop := (∀ g, (∀ vs, E.p g vs = .none) ∨ Sat P g (E.p g) ∨ SatX P g (E.p g)) ∧ ∀ g sp, E.o g = some sp → SatO P g sp

section
variable {R : Type} {P : Program} {T : Tab} {E : CallS} {o : Oper} {fr : Fr} {K : Fr → Option R} {r : R} {Pr : PM} {w : World} {a : Act} {F : Nat → List Nat}
  {next : Act → World → Prop} {Q : Exit → Act → World → Prop}

theorem argVs_sound (hF : RepF Lz Pr w fr a.tmps F) : ∀ (l : List Operand) (vs : List AV), argVs fr l = some vs → RepAs Pr vs (l.map a.eval)
  | [], vs, h => by simp [argVs] at h; subst h; simp [RepAs]
  | x :: xs, vs, h => by
    simp only [argVs] at h
    split at h
    · rename_i v l h1 h2
      simp at h; subst h
      simp only [List.map_cons, RepAs]
      exact ⟨rdO_sound hF h1, argVs_sound hF xs l h2⟩
    · cases h

theorem RepAs.app {Pr : PM} : ∀ (xs : List AV) (vs : List Value) (ys : List AV) (us : List Value), RepAs Pr xs vs → RepAs Pr ys us → RepAs Pr (xs ++ ys) (vs ++ us)
  | [], [], ys, us, _, k => k
  | x :: xs, v :: vs, ys, us, h, k => by simp only [RepAs] at h; simp only [List.cons_append, RepAs]; exact ⟨h.1, RepAs.app xs vs ys us h.2 k⟩
  | [], _ :: _, _, _, h, _ => by simp [RepAs] at h
  | _ :: _, [], _, _, h, _ => by simp [RepAs] at h
theorem op_callv {c : Call} {f : Operand} {g : Nat} {cv : Array Value} {caps vs : List AV} {put : SV → Option R} (hE : SatE P E) (ho : o.op = .call c) (hc : c.callee = .value f) (hfv : a.eval f = .func (.func g) #[] cv) (hcap : RepAs Pr caps cv.toList) (hargs : argVs fr c.args.toList = some vs)
    (hput : put = fun sv => K (dset o.dst sv fr)) (hev : (E.p g (vs ++ caps)).run put = some r) (hJ : JT Lz P w F) (hF : RepF Lz Pr w fr a.tmps F) (hP : PrOK Pr w) (hd : DOK o a) (hn : Nx Lz K r o.dst Pr w a F next) : o.wp P a w next Q := by
  · subst hput
    obtain ⟨sv, hout, hK⟩ := Tr.run_some hev
    have hrep0 := RepAs.app vs (c.args.toList.map a.eval) caps cv.toList (argVs_sound hF c.args.toList vs hargs) hcap
    have e0 : ((c.args.toList.map a.eval) ++ cv.toList).toArray = c.args.map a.eval ++ cv := by simp [← Array.toList_map]
    rcases hE.1 g with hnone | hS | hX
    · rw [hnone] at hout; exact hout.elim
    case inr.inr =>
      obtain ⟨x, rfl, hcall⟩ := hX.calls _ sv hout
      obtain ⟨v, hrun, hrep⟩ := hcall Pr w _ hrep0
      rw [e0] at hrun
      refine wp_value (v := v) (w' := w) ?_ (finV hF hP hd hn hrep hK)
      simp [execOp, ho, resolve, hc, hfv, Deferred.ofValue, invoke, hrun]
    obtain ⟨fn, hf1, hf2, hf3⟩ := hS.fn
    have hcalls := hS.calls _ sv hout
    have hcall := hcalls Pr w _ hJ.jw hrep0 hP
    have hf2' : ¬ fn.name = "runtime.NumGoroutine" := by simpa using hf2
    have hf3' : ¬ fn.body = none := by intro q; simp [q] at hf3
    have hrun : (execOp a.eval o).run P w = .ok (.enter g (c.args.map a.eval ++ cv)) w := by
      simp [execOp, ho, resolve, hc, hfv, Deferred.ofValue, invoke, callFunc, hf1, hf2', hf3']
    unfold Oper.wp
    rw [hrun, Oper.upon_enter]
    rw [e0] at hcall
    refine Calls.mono hcall fun en w' h => ?_
    obtain ⟨v, Pr', B, rfl, hfree, hr, hP', hx, hnd, hB⟩ := h
    replace hr := hr.any (L' := Lz) hfree
    have hk : ∀ t, Keeps (F t) Pr w Pr' w' := fun t => hx.keeps fun b hb => ⟨hF.lt t b hb, fun h => h⟩
    refine fin hd hn (hF.mono hx.le hk) hP' (hx.weaken fun b h => h.elim) sub_self hr hnd ?_ (fun b hb => .inr (hB b hb)) ?_ ?_ ?_ ?_ hK (fun d' k h => by subst h; simp [SV.free] at hfree)
    · intro t b hb q
      have := hF.lt t b q
      have := hB b hb
      omega
    · cases sv <;> simp [SV.free] at hfree <;> rfl
    · intro d' h; subst h; simp [SV.free] at hfree
    · intro d' o' h; subst h; simp [SV.free] at hfree
    · intro d' o' h; subst h; simp [SV.free] at hfree

/-! ### Slices that are owned whole, lent to a function that hands back flat values -/
def frz (w : World) : PM := fun b o => cellX w b o
theorem frz_le (hP : PrOK Pr w) : PrLe Pr (frz w) := fun b o v h => hP b o v h
theorem frz_ok : PrOK (frz w) w := fun _ _ _ h => h
theorem view_rep (hF : RepF Lz Pr w fr a.tmps F) (hP : PrOK Pr w) {s d lo hi : Nat} {es : List Sh} {l : List (RowE es)} (hv : view s fr = some (d, lo, hi, ⟨es, l⟩)) : RepA (frz w) (.d (.sl es ((l.take hi).drop lo))) (a.tmps.getD s undef) := by
  obtain ⟨hl, ⟨p, len, cap, q1, q2, q3, q4⟩, hbl, p', cap', r1, r2, r3⟩ := view_sound hF hv
  rw [q1] at r1
  simp only [Value.slice.injEq] at r1
  obtain ⟨rfl, rfl, rfl⟩ := r1
  rw [q4]
  refine cut_rep q2 hbl r2 ?_
  have h2 := hF.rep d
  rw [hl, q1] at h2
  simp only [RepS] at h2
  rcases h2 with ⟨_, hl0, _⟩ | ⟨b, off, cap', cc, T', vss, hv, hB1, hblk, hcap, hfit, hspare, hrows, hcells⟩
  · exact .inl hl0
  · simp only [Value.slice.injEq] at hv
    obtain ⟨rfl, _, rfl⟩ := hv
    exact .inr ⟨b, off, rfl, vals_rows l vss off (RowsVals.mono (frz_le hP) l vss hrows) fun j v hj => by
      refine cellX_of ?_ (one_tup (RowsVals.one _ _ (RowsVals.mono (frz_le hP) l vss hrows) v (List.mem_of_getElem? hj)))
      rw [cell_cells hblk]; exact hcells j v hj⟩
theorem argVsW_sound (hF : RepF Lz Pr w fr a.tmps F) (hP : PrOK Pr w) : ∀ (l : List Operand) (vs : List AV), argVsW fr l = some vs → RepAs (frz w) vs (l.map a.eval)
  | [], vs, h => by simp [argVsW] at h; subst h; simp [RepAs]
  | x :: xs, vs, h => by
    simp only [argVsW] at h
    split at h
    · rename_i v l h1 h2
      simp at h; subst h
      simp only [List.map_cons, RepAs]
      exact ⟨RepA.mono (frz_le hP) _ _ (rdO_sound hF h1), argVsW_sound hF hP xs l h2⟩
    · rename_i l h1 h2
      split at h
      · rename_i d lo hi es r hv
        simp at h; subst h
        simp only [List.map_cons, RepAs]
        obtain ⟨s, rfl, hv⟩ := viewO_tmp hv
        exact ⟨view_rep hF hP hv, argVsW_sound hF hP xs l h2⟩
      · cases h
    · cases h
theorem flatD {Pr Pr' : PM} {x : D} {v : Value} (hf : x.flat = true) (h : RepD Pr x v) : RepD Pr' x v := by
  cases x <;> first | exact h | simp [D.flat] at hf
theorem flatDs {Pr Pr' : PM} : ∀ {cs : List D} {vs : List Value}, cs.all D.flat = true → RepDs Pr cs vs → RepDs Pr' cs vs
  | [], [], _, _ => trivial
  | c :: cs, v :: vs, hf, h => by
    simp only [List.all_cons, Bool.and_eq_true] at hf
    exact ⟨flatD hf.1 h.1, flatDs hf.2 h.2⟩
  | [], _ :: _, _, h => by simp [RepDs] at h
  | _ :: _, [], _, h => by simp [RepDs] at h
theorem flatA1 {Pr Pr' : PM} {x : AV} {v : Value} (hf : x.flat1 = true) (h : RepA Pr x v) : RepA Pr' x v := by
  cases x with
  | d x => simp only [RepA] at h ⊢; exact flatD hf h
  | agg cs => simp only [RepA] at h ⊢; obtain ⟨vs, hv, h⟩ := h; exact ⟨vs, hv, flatDs hf h⟩
  | _ => simp [AV.flat1] at hf
theorem flatAs {Pr Pr' : PM} : ∀ {l : List AV} {vs : List Value}, l.all AV.flat1 = true → RepAs Pr l vs → RepAs Pr' l vs
  | [], [], _, _ => by simp [RepAs]
  | c :: cs, v :: vs, hf, h => by
    simp only [List.all_cons, Bool.and_eq_true] at hf
    simp only [RepAs] at h ⊢
    exact ⟨flatA1 hf.1 h.1, flatAs hf.2 h.2⟩
  | [], _ :: _, _, h => by simp [RepAs] at h
  | _ :: _, [], _, h => by simp [RepAs] at h
theorem flatS {Pr Pr' : PM} {w w' : World} {sv : SV} {v : Value} {B : List Nat} (hf : sv.flat = true) (h : RepS Lz Pr w sv v B) : ∃ x, sv = .val x ∧ RepA Pr' x v := by
  cases sv with
  | val x =>
    refine ⟨x, rfl, ?_⟩
    simp only [RepS] at h
    cases x with
    | tup l => simp only [RepA] at h ⊢; obtain ⟨⟨vs, hv, h⟩, _⟩ := h; exact ⟨vs, hv, flatAs (by simpa [SV.flat] using hf) h⟩
    | d x => exact flatA1 (x := .d x) hf h.1
    | agg cs => exact flatA1 (x := .agg cs) hf h.1
    | fn _ _ => simp [SV.flat, AV.flat1] at hf
    | pt _ => simp [SV.flat, AV.flat1] at hf
  | _ => simp [SV.flat] at hf
theorem op_callw {c : Call} {g : Nat} {vs : List AV} (hE : SatE P E) (ho : o.op = .call c) (hc : c.callee = .value (.func g)) (hargs : argVsW fr c.args.toList = some vs)
    (hev : ((E.p g vs).run fun sv => bif sv.flat then K (dset o.dst sv fr) else none) = some r) (hJ : JT Lz P w F) (hF : RepF Lz Pr w fr a.tmps F) (hP : PrOK Pr w) (hd : DOK o a) (hn : Nx Lz K r o.dst Pr w a F next) : o.wp P a w next Q := by
  obtain ⟨sv, hout, hK⟩ := Tr.run_some hev
  replace hK := bif_some hK; obtain ⟨hflat, hK⟩ := hK
  have hrep0 := argVsW_sound hF hP c.args.toList vs hargs
  have e0 : (c.args.toList.map a.eval).toArray = c.args.map a.eval := by simp [← Array.toList_map]
  rcases hE.1 g with hnone | hS | hX
  · rw [hnone] at hout; exact hout.elim
  case inr.inr =>
    obtain ⟨x, rfl, hcall⟩ := hX.calls _ sv hout
    obtain ⟨v, hrun, hrep⟩ := hcall (frz w) w _ hrep0
    rw [e0] at hrun
    obtain ⟨x', hx', hrep⟩ := flatS (Lz := Lz) (Pr := frz w) (Pr' := Pr) (w := w) (w' := w) (B := []) hflat (by simp only [RepS]; exact ⟨hrep, trivial⟩)
    cases hx'
    refine wp_value (v := v) (w' := w) ?_ (finV hF hP hd hn hrep hK)
    simp [execOp, ho, resolve, hc, Act.eval, Deferred.ofValue, invoke, hrun]
  obtain ⟨fn, hf1, hf2, hf3⟩ := hS.fn
  have hcall := hS.calls _ sv hout (frz w) w _ hJ.jw hrep0 frz_ok
  have hf2' : ¬ fn.name = "runtime.NumGoroutine" := by simpa using hf2
  have hf3' : ¬ fn.body = none := by intro q; simp [q] at hf3
  have hrun : (execOp a.eval o).run P w = .ok (.enter g (c.args.map a.eval)) w := by
    simp [execOp, ho, resolve, hc, Act.eval, Deferred.ofValue, invoke, callFunc, hf1, hf2', hf3']
  unfold Oper.wp
  rw [hrun, Oper.upon_enter]
  rw [e0] at hcall
  refine Calls.mono hcall fun en w' h => ?_
  obtain ⟨v, Pr', B, rfl, hfree, hr, hP', hx, hnd, hB⟩ := h
  obtain ⟨x, hx0, hrA⟩ := flatS (Pr' := Pr) (w' := w) hflat hr
  subst hx0
  have hheap : ∀ b, b < w.heap.size → w'.heap[b]? = w.heap[b]? := fun b hb => (hx.block b hb (fun q => q)).1
  have hP2 : PrOK Pr w' := fun b o v hv => by
    have h1 := hP b o v hv
    have hb : b < w.heap.size := by
      simp only [cellX, World.cell?] at h1
      rcases Nat.lt_or_ge b w.heap.size with q | q
      · exact q
      · rw [Array.getElem?_eq_none q] at h1; simp at h1
    simp only [cellX, World.cell?, hheap b hb] at h1 ⊢
    exact h1
  have hx2 : Ext (fun b => ∃ t, b ∈ F t) Pr w Pr w' := ⟨hx.os, hx.tape, hx.output, hx.size, PrLe.refl _, fun b hb _ => ⟨hheap b hb, fun _ => rfl⟩, hx.dr⟩
  have hk : ∀ t, Keeps (F t) Pr w Pr w' := fun t b hb => ⟨hheap b (hF.lt t b hb), fun _ => rfl⟩
  exact fin hd hn (hF.mono (PrLe.refl _) hk) hP2 hx2 sub_self (B := []) (by simp only [RepS]; exact ⟨hrA, trivial⟩) List.nodup_nil (by simp) (by simp) rfl (by simp) (by simp) (by simp) hK
theorem argsO_sound {a : Act} : ∀ (ows : List Bool) (xs : List Operand) (fr : Fr) (F : Nat → List Nat) (vs : List SV) (ds : List Nat) (fr' : Fr), RepF Lz Pr w fr a.tmps F → argsO ows xs fr = some (vs, ds, fr') →
    ∃ Bs F', RepF Lz Pr w fr' a.tmps F' ∧ RepSs Lz Pr w vs (xs.map a.eval) Bs ∧ Bs.flatten.Nodup ∧ (∀ b ∈ Bs.flatten, (∃ t, b ∈ F t) ∧ ∀ t, b ∉ F' t) ∧ (∀ t b, b ∈ F' t → b ∈ F t) ∧
      boxVals vs (xs.map a.eval) = ds.map (fun d => a.tmps.getD d undef) ∧ (∀ x ∈ vs, x.isRefl = false)
  | [], [], fr, F, vs, ds, fr', h, he => by
    simp only [argsO, Option.some.injEq, Prod.mk.injEq] at he
    obtain ⟨rfl, rfl, rfl⟩ := he
    exact ⟨[], F, h, by simp [RepSs], List.nodup_nil, by simp, fun _ _ h => h, rfl, by simp⟩
  | [], _ :: _, _, _, _, _, _, _, he => by simp [argsO] at he
  | _ :: _, [], _, _, _, _, _, _, he => by simp [argsO] at he
  | ow :: ows, x :: xs, fr, F, vs, ds, fr', h, he => by
    simp only [argsO] at he
    cases ow
    · rw [cond_false] at he
      split at he
      · rename_i v hv
        split at he
        · rename_i r1 hr1
          obtain ⟨vs1, ds1, fr1⟩ := r1
          simp only [Option.some.injEq, Prod.mk.injEq] at he
          obtain ⟨rfl, rfl, rfl⟩ := he
          obtain ⟨Bs, F', q1, q2, q3, q4, q5, q6, q7⟩ := argsO_sound ows xs fr F vs1 _ _ h hr1
          have hr := rdO_sound h hv
          have hs : RepS Lz Pr w (pSV v) (a.eval x) [] := by
            cases v with
            | pt cs => simp only [pSV, RepS]; simp only [RepA] at hr; exact ⟨hr, trivial⟩
            | _ => simp only [pSV, RepS]; exact ⟨hr, trivial⟩
          refine ⟨[] :: Bs, F', q1, by simp only [List.map_cons, RepSs]; exact ⟨hs, q2⟩, by simpa using q3, by simpa using q4, q5, ?_, ?_⟩
          · rw [← q6]; cases v <;> simp [pSV, boxVals]
          · intro y hy
            rcases List.mem_cons.1 hy with rfl | hy
            · cases v <;> simp [pSV, SV.isRefl]
            · exact q7 y hy
        · cases he
      · cases he
    · rw [cond_true] at he
      split at he
      · rename_i s
        split at he
        · rename_i d hroot
          split at he
          · rename_i cs hbx
            split at he
            · rename_i r1 hr1
              obtain ⟨vs1, ds1, fr1⟩ := r1
              simp only [Option.some.injEq, Prod.mk.injEq] at he
              obtain ⟨rfl, rfl, rfl⟩ := he
              obtain ⟨b, c, T', nw, Bs0, hv, hv0, hl, hbl, hpr, hB, hss⟩ := root_sound h hroot hbx
              have h1 : RepF Lz Pr w ((d, .msk) :: fr) a.tmps (fun t => if t = d then [] else F t) := h.bind (fun _ _ => rfl) (by simp [RepS]) List.nodup_nil (by simp) (fun _ => rfl) (by simp) (by simp) (by simp)
              obtain ⟨Bs, F', q1, q2, q3, q4, q5, q6, q7⟩ := argsO_sound ows xs _ _ vs1 _ _ h1 hr1
              have hs : RepS Lz Pr w (.box true cs) (a.eval (.tmp s)) (F d) := by
                simp only [RepS]
                exact ⟨b, c, T', Bs0, hv, hbl, hpr, hB, hss⟩
              have hsub : ∀ t b, b ∈ (if t = d then [] else F t) → t ≠ d ∧ b ∈ F t := by
                intro t b hb
                by_cases e : t = d
                · simp [e] at hb
                · rw [if_neg e] at hb; exact ⟨e, hb⟩
              refine ⟨F d :: Bs, F', q1, by simp only [List.map_cons, RepSs]; exact ⟨hs, q2⟩, ?_, ?_, fun t b hb => (hsub t b (q5 t b hb)).2, ?_, ?_⟩
              · rw [List.flatten_cons, List.nodup_append]
                refine ⟨h.nodup d, q3, fun x hx y hy e => ?_⟩
                subst e
                obtain ⟨⟨t, ht⟩, _⟩ := q4 x hy
                obtain ⟨hne, ht⟩ := hsub t x ht
                exact h.apart t d hne x ht hx
              · intro y hy
                rw [List.flatten_cons, List.mem_append] at hy
                rcases hy with hy | hy
                · refine ⟨⟨d, hy⟩, fun t ht => ?_⟩
                  obtain ⟨hne, ht⟩ := hsub t y (q5 t y ht)
                  exact h.apart t d hne y ht hy
                · obtain ⟨⟨t, ht⟩, q⟩ := q4 y hy
                  exact ⟨⟨t, (hsub t y ht).2⟩, q⟩
              · simp only [List.map_cons, boxVals, q6]
                congr 1
                show a.tmps.getD s undef = a.tmps.getD d undef
                rw [hv, hv0]
              · intro y hy
                rcases List.mem_cons.1 hy with rfl | hy
                · rfl
                · exact q7 y hy
            · cases he
          · cases he
        · cases he
        · split at he
          · rename_i es l fr1 hg
            split at he
            · rename_i r1 hr1
              obtain ⟨vs1, ds1, fr2⟩ := r1
              simp only [Option.some.injEq, Prod.mk.injEq] at he
              obtain ⟨rfl, rfl, rfl⟩ := he
              obtain ⟨B, F1, h1, h2, h3, h4, h5, h6⟩ := grow_sound h hg
              obtain ⟨Bs, F', q1, q2, q3, q4, q5, q6, q7⟩ := argsO_sound ows xs _ _ vs1 _ _ h1 hr1
              refine ⟨B :: Bs, F', q1, by simp only [List.map_cons, RepSs]; exact ⟨h2, q2⟩, ?_, ?_, fun t b hb => h3 t b (q5 t b hb), ?_, ?_⟩
              · rw [List.flatten_cons, List.nodup_append]
                refine ⟨h6, q3, fun x hx y hy e => ?_⟩
                subst e
                obtain ⟨⟨t, ht⟩, _⟩ := q4 x hy
                exact h5 t x hx ht
              · intro y hy
                rw [List.flatten_cons, List.mem_append] at hy
                rcases hy with hy | hy
                · exact ⟨h4 y hy, fun t ht => h5 t y hy (q5 t y ht)⟩
                · obtain ⟨⟨t, ht⟩, q⟩ := q4 y hy
                  exact ⟨⟨t, h3 t y ht⟩, q⟩
              · simpa only [List.map_cons, boxVals] using q6
              · intro y hy
                rcases List.mem_cons.1 hy with rfl | hy
                · rfl
                · exact q7 y hy
            · cases he
          · split at he
            · rename_i d es l hq
              split at he
              · rename_i r1 hr1
                obtain ⟨vs1, ds1, fr1⟩ := r1
                simp only [Option.some.injEq, Prod.mk.injEq] at he
                obtain ⟨rfl, rfl, rfl⟩ := he
                obtain ⟨hl, hv0⟩ := ownOf_sound h hq
                have h1 : RepF Lz Pr w ((d, .msk) :: fr) a.tmps (fun t => if t = d then [] else F t) := h.bind (fun _ _ => rfl) (by simp [RepS]) List.nodup_nil (by simp) (fun _ => rfl) (by simp) (by simp) (by simp)
                obtain ⟨Bs, F', q1, q2, q3, q4, q5, q6, q7⟩ := argsO_sound ows xs _ _ vs1 _ _ h1 hr1
                have hs : RepS Lz Pr w (.own es l) (a.eval (.tmp s)) (F d) := by
                  have := h.rep d
                  rw [hl] at this
                  show RepS Lz Pr w (.own es l) (a.tmps.getD s undef) (F d)
                  rw [hv0]; exact this
                have hsub : ∀ t b, b ∈ (if t = d then [] else F t) → t ≠ d ∧ b ∈ F t := by
                  intro t b hb
                  by_cases e : t = d
                  · simp [e] at hb
                  · rw [if_neg e] at hb; exact ⟨e, hb⟩
                refine ⟨F d :: Bs, F', q1, by simp only [List.map_cons, RepSs]; exact ⟨hs, q2⟩, ?_, ?_, fun t b hb => (hsub t b (q5 t b hb)).2, ?_, ?_⟩
                · rw [List.flatten_cons, List.nodup_append]
                  refine ⟨h.nodup d, q3, fun x hx y hy e => ?_⟩
                  subst e
                  obtain ⟨⟨t, ht⟩, _⟩ := q4 x hy
                  obtain ⟨hne, ht⟩ := hsub t x ht
                  exact h.apart t d hne x ht hx
                · intro y hy
                  rw [List.flatten_cons, List.mem_append] at hy
                  rcases hy with hy | hy
                  · refine ⟨⟨d, hy⟩, fun t ht => ?_⟩
                    obtain ⟨hne, ht⟩ := hsub t y (q5 t y ht)
                    exact h.apart t d hne y ht hy
                  · obtain ⟨⟨t, ht⟩, q⟩ := q4 y hy
                    exact ⟨⟨t, (hsub t y ht).2⟩, q⟩
                · simp only [List.map_cons, boxVals, q6]
                  congr 1
                · intro y hy
                  rcases List.mem_cons.1 hy with rfl | hy
                  · rfl
                  · exact q7 y hy
              · cases he
            · cases he
      · cases he

theorem outsO_sound {ts : Array Value} : ∀ (ds : List Nat) (os : List SV) (fr : Fr) (F : Nat → List Nat) (Bs : List (List Nat)) (fr2 : Fr), outsO ds os fr = some fr2 → RepF Lz Pr w fr ts F → RepSs Lz Pr w os (ds.map fun d => ts.getD d undef) Bs → Bs.flatten.Nodup → (∀ b ∈ Bs.flatten, ∀ t, b ∉ F t) →
    ∃ F', RepF Lz Pr w fr2 ts F' ∧ ∀ t b, b ∈ F' t → b ∈ F t ∨ b ∈ Bs.flatten
  | [], [], fr, F, Bs, fr2, he, h, _, _, _ => by
    simp only [outsO, Option.some.injEq] at he
    subst he
    exact ⟨F, h, fun _ _ h => .inl h⟩
  | d :: ds, .box nw cs :: os, fr, F, Bs, fr2, he, h, hr, hn, ha => by
    simp only [outsO] at he
    cases Bs with
    | nil => simp [RepSs] at hr
    | cons B Bs =>
      simp only [List.map_cons, RepSs] at hr
      rw [List.flatten_cons, List.nodup_append] at hn
      have h1 : RepF Lz Pr w ((d, .box false cs) :: fr) ts (fun t => if t = d then B else F t) := by
        refine h.bind (fun _ _ => rfl) ?_ hn.1 (fun t _ b hb => ha b (by simp [hb]) t) (fun _ => rfl) (by simp) (by simp) (by simp)
        have := hr.1
        simp only [RepS] at this ⊢
        exact this
      obtain ⟨F', q1, q2⟩ := outsO_sound ds os _ _ Bs fr2 he h1 hr.2 hn.2.1 (fun b hb t q => by
        by_cases e : t = d
        · rw [if_pos e] at q; exact hn.2.2 b q b hb rfl
        · rw [if_neg e] at q; exact ha b (by simp [hb]) t q)
      refine ⟨F', q1, fun t b hb => ?_⟩
      rcases q2 t b hb with q | q
      · by_cases e : t = d
        · rw [if_pos e] at q; exact .inr (by simp [q])
        · rw [if_neg e] at q; exact .inl q
      · exact .inr (by rw [List.flatten_cons, List.mem_append]; exact .inr q)
  | d :: ds, .own es l :: os, fr, F, Bs, fr2, he, h, hr, hn, ha => by
    simp only [outsO] at he
    cases Bs with
    | nil => simp [RepSs] at hr
    | cons B Bs =>
      simp only [List.map_cons, RepSs] at hr
      rw [List.flatten_cons, List.nodup_append] at hn
      have h1 : RepF Lz Pr w ((d, .own es l) :: fr) ts (fun t => if t = d then B else F t) :=
        h.bind (fun _ _ => rfl) hr.1 hn.1 (fun t _ b hb => ha b (by simp [hb]) t) (fun _ => rfl) (by simp) (by simp) (by simp)
      obtain ⟨F', q1, q2⟩ := outsO_sound ds os _ _ Bs fr2 he h1 hr.2 hn.2.1 (fun b hb t q => by
        by_cases e : t = d
        · rw [if_pos e] at q; exact hn.2.2 b q b hb rfl
        · rw [if_neg e] at q; exact ha b (by simp [hb]) t q)
      refine ⟨F', q1, fun t b hb => ?_⟩
      rcases q2 t b hb with q | q
      · by_cases e : t = d
        · rw [if_pos e] at q; exact .inr (by simp [q])
        · rw [if_neg e] at q; exact .inl q
      · exact .inr (by rw [List.flatten_cons, List.mem_append]; exact .inr q)
  | [], _ :: _, _, _, _, _, he, _, _, _, _ => by simp [outsO] at he
  | _ :: _, [], _, _, _, _, he, _, _, _, _ => by simp [outsO] at he
  | _ :: _, .unk :: _, _, _, _, _, he, _, _, _, _ => by simp [outsO] at he
  | _ :: _, .und :: _, _, _, _, _, he, _, _, _, _ => by simp [outsO] at he
  | _ :: _, .msk :: _, _, _, _, _, he, _, _, _, _ => by simp [outsO] at he
  | _ :: _, .val _ :: _, _, _, _, _, he, _, _, _, _ => by simp [outsO] at he
  | _ :: _, .app _ _ :: _, _, _, _, _, he, _, _, _, _ => by simp [outsO] at he
  | _ :: _, .al _ _ :: _, _, _, _, _, he, _, _, _, _ => by simp [outsO] at he
  | _ :: _, .ref _ _ :: _, _, _, _, _, he, _, _, _, _ => by simp [outsO] at he
  | _ :: _, .at _ :: _, _, _, _, _, he, _, _, _, _ => by simp [outsO] at he
  | _ :: _, .sit _ _ :: _, _, _, _, _, he, _, _, _, _ => by simp [outsO] at he

theorem op_callO {c : Call} {g : Nat} {sp : OSpec} (hE : SatE P E) (ho : o.op = .call c) (hc : c.callee = .value (.func g)) (hg : E.o g = some sp) (hev : evCallO sp c.args.toList o.dst fr K = some r)
    (hJ : JT Lz P w F) (hF : RepF Lz Pr w fr a.tmps F) (hP : PrOK Pr w) (hd : DOK o a) (hn : Nx Lz K r o.dst Pr w a F next) : o.wp P a w next Q := by
  unfold evCallO at hev
  split at hev
  · rename_i vs ds fr1 hargs
    obtain ⟨⟨sv, outs⟩, hout, hK⟩ := Tr.run_some hev
    split at hK
    · rename_i fr2 ho2
      obtain ⟨Bs, F1, h1, h2, h3, h4, h5, h6, h7⟩ := argsO_sound sp.own c.args.toList fr F vs ds fr1 hF hargs
      have hS := hE.2 g sp hg
      obtain ⟨fn, hf1, hf2, hf3⟩ := hS.fn
      have hcall := hS.calls vs sv outs hout Lz Pr w (c.args.toList.map a.eval) Bs (hJ.sub fun _ b q => (h4 b q).1) h2 h3 h7 hP
      have hf2' : ¬ fn.name = "runtime.NumGoroutine" := by simpa using hf2
      have hf3' : ¬ fn.body = none := by intro q; simp [q] at hf3
      have e0 : (c.args.toList.map a.eval).toArray = c.args.map a.eval := by simp [← Array.toList_map]
      have hfv : a.eval (.func g) = .func (.func g) #[] #[] := rfl
      have hrun : (execOp a.eval o).run P w = .ok (.enter g (c.args.map a.eval)) w := by
        simp [execOp, ho, resolve, hc, hfv, Deferred.ofValue, invoke, callFunc, hf1, hf2', hf3']
      unfold Oper.wp
      rw [hrun, Oper.upon_enter]
      rw [e0] at hcall
      refine Calls.mono hcall fun en w' h => ?_
      obtain ⟨v, Pr', B, Bs', rfl, hfree, hr, hrs, hP', hx, hnd, hB⟩ := h
      have hk : ∀ t, Keeps (F1 t) Pr w Pr' w' := fun t => hx.keeps fun b hb => ⟨h1.lt t b hb, fun q => (h4 b q).2 t hb⟩
      have hF1 := h1.mono hx.le hk
      rw [h6] at hrs
      rw [List.nodup_append] at hnd
      have hap : ∀ b ∈ B ++ Bs'.flatten, ∀ t, b ∉ F1 t := by
        intro b hb t ht
        rcases hB b hb with q | q
        · exact (h4 b q).2 t ht
        · have := h1.lt t b ht; omega
      obtain ⟨F2, hF2, hs2⟩ := outsO_sound ds outs fr1 F1 Bs' fr2 ho2 hF1 hrs hnd.2.1 (fun b hb => hap b (List.mem_append_right _ hb))
      have hBF : ∀ b ∈ B ++ Bs'.flatten, (∃ t, b ∈ F t) ∨ w.heap.size ≤ b := fun b hb => (hB b hb).imp (fun q => (h4 b q).1) id
      refine fin hd hn hF2 hP' (hx.weaken fun b h => (h4 b h).1) (fun t b hb => ?_) hr hnd.1 ?_ (fun b hb => hBF b (List.mem_append_left _ hb)) ?_ ?_ ?_ ?_ hK (fun d' k h => by subst h; simp [SV.free] at hfree)
      · rcases hs2 t b hb with q | q
        · exact .inl ⟨t, h5 t b q⟩
        · exact hBF b (List.mem_append_right _ q)
      · intro t b hb q
        rcases hs2 t b q with q | q
        · exact hap b (List.mem_append_left _ hb) t q
        · exact hnd.2.2 b hb b q rfl
      · cases sv <;> simp [SV.free] at hfree <;> rfl
      · intro d' h; subst h; simp [SV.free] at hfree
      · intro d' o' h; subst h; simp [SV.free] at hfree
      · intro d' o' h; subst h; simp [SV.free] at hfree
    · cases hK
  · cases hev

theorem op_call {c : Call} {g : Nat} (hE : SatE P E) (ho : o.op = .call c) (hc : c.callee = .value (.func g)) (hev : evOp0 T E o fr K = some r) (hJ : JT Lz P w F) (hF : RepF Lz Pr w fr a.tmps F) (hP : PrOK Pr w) (hd : DOK o a) (hn : Nx Lz K r o.dst Pr w a F next) : o.wp P a w next Q := by
  simp only [evOp0, ho, hc] at hev
  split at hev
  · rename_i sp hg
    exact op_callO hE ho hc hg hev hJ hF hP hd hn
  split at hev
  · rename_i vs hargs
    refine op_callv (caps := []) (cv := #[]) hE ho hc rfl (by simp [RepAs]) hargs rfl ?_ hJ hF hP hd hn
    rw [List.append_nil]; exact hev
  · split at hev
    · rename_i vs hargs
      exact op_callw hE ho hc hargs hev hJ hF hP hd hn
    · cases hev
theorem pSV_rep {v : AV} {x : Value} (h : RepA Pr v x) : RepS Lz Pr w (pSV v) x [] := by
  cases v with
  | pt cs => simp only [pSV, RepS]; simp only [RepA] at h; exact ⟨h, trivial⟩
  | _ => simp only [pSV, RepS]; exact ⟨h, trivial⟩
theorem pSVs_rep : ∀ {vs : List AV} {xs : List Value}, RepAs Pr vs xs → RepSs Lz Pr w (vs.map pSV) xs (vs.map fun _ => []) ∧ (∀ x ∈ vs.map pSV, x.isRefl = false) ∧ boxVals (vs.map pSV) xs = []
  | [], [], _ => by simp [RepSs, boxVals]
  | v :: vs, x :: xs, h => by
    simp only [RepAs] at h
    obtain ⟨h1, h2, h3⟩ := pSVs_rep (vs := vs) (xs := xs) h.2
    refine ⟨by simp only [List.map_cons, RepSs]; exact ⟨pSV_rep h.1, h1⟩, fun y hy => ?_, ?_⟩
    · rw [List.map_cons, List.mem_cons] at hy
      rcases hy with rfl | hy
      · cases v <;> simp [pSV, SV.isRefl]
      · exact h2 y hy
    · cases v <;> simp [pSV, boxVals, h3]
  | [], _ :: _, h => by simp [RepAs] at h
  | _ :: _, [], h => by simp [RepAs] at h
/-- A call of a function, by its value, that is proved as one that is handed variables. -/
theorem op_callvO {c : Call} {f : Operand} {g : Nat} {cv : Array Value} {caps vs : List AV} {sp : OSpec} (hE : SatE P E) (ho : o.op = .call c) (hc : c.callee = .value f) (hfv : a.eval f = .func (.func g) #[] cv) (hcap : RepAs Pr caps cv.toList) (hargs : argVs fr c.args.toList = some vs) (hg : E.o g = some sp)
    (hev : ((sp.f ((vs ++ caps).map pSV)).run fun r => match r.2 with | [] => K (dset o.dst r.1 fr) | _ => none) = some r) (hJ : JT Lz P w F) (hF : RepF Lz Pr w fr a.tmps F) (hP : PrOK Pr w) (hd : DOK o a) (hn : Nx Lz K r o.dst Pr w a F next) : o.wp P a w next Q := by
  obtain ⟨⟨sv, outs⟩, hout, hK⟩ := Tr.run_some hev
  split at hK
  · rename_i hnil
    have hnil : outs = [] := hnil
    subst hnil
    have hrep0 := RepAs.app vs (c.args.toList.map a.eval) caps cv.toList (argVs_sound hF c.args.toList vs hargs) hcap
    obtain ⟨h1, h2, h3⟩ := pSVs_rep (Lz := Lz) (w := w) hrep0
    have hfl : ((vs ++ caps).map fun _ => ([] : List Nat)).flatten = [] := flatten_nils _
    have e0 : ((c.args.toList.map a.eval) ++ cv.toList).toArray = c.args.map a.eval ++ cv := by simp [← Array.toList_map]
    have hS := hE.2 g sp hg
    obtain ⟨fn, hf1, hf2, hf3⟩ := hS.fn
    have hcall := hS.calls _ sv [] hout Lz Pr w _ _ (hJ.sub fun t b hb => by rw [hfl] at hb; simp at hb) h1 (by rw [hfl]; exact List.nodup_nil) h2 hP
    have hf2' : ¬ fn.name = "runtime.NumGoroutine" := by simpa using hf2
    have hf3' : ¬ fn.body = none := by intro q; simp [q] at hf3
    have hrun : (execOp a.eval o).run P w = .ok (.enter g (c.args.map a.eval ++ cv)) w := by
      simp [execOp, ho, resolve, hc, hfv, Deferred.ofValue, invoke, callFunc, hf1, hf2', hf3']
    unfold Oper.wp
    rw [hrun, Oper.upon_enter]
    rw [e0] at hcall
    refine Calls.mono hcall fun en w' h => ?_
    obtain ⟨v, Pr', B, Bs', rfl, hfree, hr, hrs, hP', hx, hnd, hB⟩ := h
    rw [h3] at hrs
    have hBs : Bs' = [] := by cases Bs' with | nil => rfl | cons _ _ => simp [RepSs] at hrs
    subst hBs
    rw [hfl] at hx hB
    simp only [List.flatten_nil, List.append_nil] at hnd hB
    have hB : ∀ b ∈ B, w.heap.size ≤ b := fun b hb => (hB b hb).resolve_left (by simp)
    have hk : ∀ t, Keeps (F t) Pr w Pr' w' := fun t => hx.keeps fun b hb => ⟨hF.lt t b hb, by simp⟩
    refine fin hd hn (hF.mono hx.le hk) hP' (hx.weaken fun b h => by simp at h) sub_self hr hnd ?_ (fun b hb => .inr (hB b hb)) ?_ ?_ ?_ ?_ hK (fun d' k h => by subst h; simp [SV.free] at hfree)
    · intro t b hb q
      have := hF.lt t b q
      have := hB b hb
      omega
    · cases sv <;> simp [SV.free] at hfree <;> rfl
    · intro d' h; subst h; simp [SV.free] at hfree
    · intro d' o' h; subst h; simp [SV.free] at hfree
    · intro d' o' h; subst h; simp [SV.free] at hfree
  · cases hK
theorem op_callt {c : Call} {t : Nat} (hE : SatE P E) (ho : o.op = .call c) (hc : c.callee = .value (.tmp t)) (hev : evOp0 T E o fr K = some r) (hJ : JT Lz P w F) (hF : RepF Lz Pr w fr a.tmps F) (hP : PrOK Pr w) (hd : DOK o a) (hn : Nx Lz K r o.dst Pr w a F next) : o.wp P a w next Q := by
  simp only [evOp0, ho, hc] at hev
  split at hev
  · rename_i g caps vs hf hargs
    have := rd_sound hF hf
    simp only [RepA] at this
    obtain ⟨cv, hv, hcap⟩ := this
    split at hev
    · rename_i sp hg
      exact op_callvO hE ho hc hv hcap hargs hg hev hJ hF hP hd hn
    · exact op_callv hE ho hc hv hcap hargs rfl hev hJ hF hP hd hn
  · cases hev
theorem op_max {c : Call} (ho : o.op = .call c) (hc : c.callee = .builtin .max) (hev : evOp0 T E o fr K = some r) (hF : RepF Lz Pr w fr a.tmps F) (hP : PrOK Pr w) (hd : DOK o a) (hn : Nx Lz K r o.dst Pr w a F next) : o.wp P a w next Q := by
  simp only [evOp0, ho, hc] at hev
  split at hev
  · rename_i k x k' y hargs
    split at hev
    · have h := argVs_sound hF c.args.toList _ hargs
      have e0 : c.args.toList.map a.eval = (c.args.map a.eval).toList := by simp [← Array.toList_map]
      rw [e0] at h
      refine wp_value (v := .int k (max2I x y)) (w' := w) ?_ (finV hF hP hd hn (x := .d (.int k (max2I x y))) (by simp [RepA, RepD]) hev)
      have hl : ∃ v0 v1, (c.args.map a.eval).toList = [v0, v1] ∧ v0 = .int k x ∧ v1 = .int k' y := by
        match hm : (c.args.map a.eval).toList, h with
        | [v0, v1], h => exact ⟨v0, v1, rfl, h.1, h.2.1⟩
        | [], h => exact h.elim
        | [_], h => exact h.2.elim
        | _ :: _ :: _ :: _, h => exact h.2.2.elim
      obtain ⟨v0, v1, hl, rfl, rfl⟩ := hl
      rw [← e0] at hl
      simp [execOp, ho, resolve, hc, invoke, builtin, Builtin.max_, hl, List.foldlM, Builtin.max2, max2I]
    · cases hev
  · cases hev
theorem op_min {c : Call} (ho : o.op = .call c) (hc : c.callee = .builtin .min) (hev : evOp0 T E o fr K = some r) (hF : RepF Lz Pr w fr a.tmps F) (hP : PrOK Pr w) (hd : DOK o a) (hn : Nx Lz K r o.dst Pr w a F next) : o.wp P a w next Q := by
  simp only [evOp0, ho, hc] at hev
  split at hev
  · rename_i k x k' y hargs
    split at hev
    · have h := argVs_sound hF c.args.toList _ hargs
      have e0 : c.args.toList.map a.eval = (c.args.map a.eval).toList := by simp [← Array.toList_map]
      rw [e0] at h
      refine wp_value (v := .int k (min2I x y)) (w' := w) ?_ (finV hF hP hd hn (x := .d (.int k (min2I x y))) (by simp [RepA, RepD]) hev)
      have hl : ∃ v0 v1, (c.args.map a.eval).toList = [v0, v1] ∧ v0 = .int k x ∧ v1 = .int k' y := by
        match hm : (c.args.map a.eval).toList, h with
        | [v0, v1], h => exact ⟨v0, v1, rfl, h.1, h.2.1⟩
        | [], h => exact h.elim
        | [_], h => exact h.2.elim
        | _ :: _ :: _ :: _, h => exact h.2.2.elim
      obtain ⟨v0, v1, hl, rfl, rfl⟩ := hl
      rw [← e0] at hl
      simp [execOp, ho, resolve, hc, invoke, builtin, Builtin.min_, hl, List.foldlM, Builtin.min2, min2I]
    · cases hev
  · cases hev
theorem evOp0_sound (hC : Cx P T) (hE : SatE P E) (hev : evOp0 T E o fr K = some r) (hJ : JT Lz P w F) (hF : RepF Lz Pr w fr a.tmps F) (hP : PrOK Pr w) (hd : DOK o a) (hn : Nx Lz K r o.dst Pr w a F next) : o.wp P a w next Q := by
  cases ho : o.op with
  | move x => exact op_move hC ho hev hF hP hd hn
  | assign x => exact op_assign hC ho hev hF hP hd hn
  | pick c x y => exact op_pick ho hev hF hP hd hn
  | alloc t => exact op_alloc hC ho hev hF hP hd hn
  | box t x => exact op_box ho hev hF hP hd hn
  | build t ps => exact op_build hC ho hev hF hP hd hn
  | buildSlice t n ps => exact op_buildSlice hC ho hev hF hP hd hn
  | load t x => exact op_load hC ho hev hF hP hd hn
  | store t x y => exact op_store hC ho hev hF hP hd hn fun i s q hx tf hdst hev => own_store tf (by rw [ho, hx]) hdst hev hF hP hn
  | makeSlice t x y => exact op_makeSlice hC ho hev hF hP hd hn
  | makeFunc f x y => exact op_makeFunc ho hev hF hP hd hn (argVs_sound hF)
  | nilCheck x => exact op_nilCheck ho hev hF hP hd hn
  | binOp u t x y t' =>
    cases hy : isNilC y with
    | false => exact op_binOp hC ho hev hF hP hd hn hy
    | true => exact op_nilEq hC ho hev hF hP hd hn hy
  | unOp u t x => exact op_unOp ho hev hF hP hd hn
  | convert u t x => exact op_convert hC ho hev hF hP hd hn
  | slice t x lo hi mx =>
    cases mx with
    | none => exact op_slice hC ho hev hF hP hd hn
    | some m => exact op_slice3 hC ho hev hF hP hd hn
  | fieldAddr t x f => exact op_fieldAddr hC ho hev hF hP hd hn
  | field t x f => exact op_field hC ho hev hF hP hd hn
  | indexAddr t x y => exact op_indexAddr hC ho hev hF hP hd hn
  | index t x y => exact op_index hC ho hev hF hP hd hn
  | extract x n => exact op_extract ho hev hF hP hd hn
  | range t x => exact op_range hC ho hev hF hP hd hn
  | next x b =>
    cases b with
    | true => exact op_next ho hev hF hP hd hn
    | false => exact op_nextMap ho hev hF hP hd hn
  | entry x => exact op_entry ho hev hF hP hd hn
  | makeMap t z => exact op_makeMap hC ho hev hF hP hd hn
  | lookup t x y ok => exact op_lookup hC ho hev hF hP hd hn
  | mapUpdate t x y z => exact op_mapUpdate hC ho hev hF hP hn
  | call c =>
    cases hc : c.callee with
    | builtin b =>
      cases b with
      | len => exact op_len hC ho hc hev hF hP hd hn
      | append => exact op_append hC ho hc hev hF hP hd hn
      | max => exact op_max ho hc hev hF hP hd hn
      | min => exact op_min ho hc hev hF hP hd hn
      | _ => simp [evOp0, ho, hc] at hev
    | value f =>
      cases f with
      | func g => exact op_call hE ho hc hev hJ hF hP hd hn
      | tmp t => exact op_callt hE ho hc hev hJ hF hP hd hn
      | _ => simp [evOp0, ho, hc] at hev
    | invoke x y => simp [evOp0, ho, hc] at hev
  | _ => simp [evOp0, ho] at hev
theorem evOp_sound (hC : Cx P T) (hE : SatE P E) (hev : evOp T E o fr K = some r) (hJ : JT Lz P w F) (hF : RepF Lz Pr w fr a.tmps F) (hP : PrOK Pr w) (hd : DOK o a) (hn : Nx Lz K r o.dst Pr w a F next) : o.wp P a w next Q := by
  obtain ⟨Pr', F', h1, h2, h3, h4, h5⟩ := preF_sound (o := o) (fz := E.fz) hF hP
  exact evOp0_sound hC hE hev (hJ.sub fun t b hb => ⟨t, h5 t b hb⟩) h1 h2 hd (hn.pre h3 h4 fun t b hb => ⟨t, h5 t b hb⟩)
end
end Go.Proofs.Ytgcjhcefpkbheaa.Lg
end

section
namespace Go.Proofs.Ytgcjhcefpkbheaa.Lg
open Go
variable {Lz : PM}

/-- From a state to one behind: slots outside D are as they were. -/
structure Step (F : Nat → List Nat) (Pr : PM) (w : World) (a : Act) (F' : Nat → List Nat) (Pr' : PM) (w' : World) (a' : Act) (D : Nat → Prop) : Prop where
  ext : Ext (fun b => ∃ t, b ∈ F t) Pr w Pr' w'
  sub : ∀ t b, b ∈ F' t → (∃ t', b ∈ F t') ∨ w.heap.size ≤ b
  defers : a'.defers = a.defers
  size : a'.tmps.size = a.tmps.size
  same : ∀ t, ¬ D t → a'.tmps.getD t undef = a.tmps.getD t undef

theorem Step.refl {F F' : Nat → List Nat} {Pr : PM} {w : World} {a : Act} {D : Nat → Prop} (h : ∀ t b, b ∈ F' t → ∃ t', b ∈ F t') : Step F Pr w a F' Pr w a D :=
  ⟨Ext.refl _ _ _, fun t b hb => .inl (h t b hb), rfl, rfl, fun _ _ => rfl⟩
theorem Step.trans {F F' F'' : Nat → List Nat} {Pr Pr' Pr'' : PM} {w w' w'' : World} {a a' a'' : Act} {D : Nat → Prop} (h : Step F Pr w a F' Pr' w' a' D) (k : Step F' Pr' w' a' F'' Pr'' w'' a'' D) : Step F Pr w a F'' Pr'' w'' a'' D :=
  ⟨h.ext.trans k.ext (fun b ⟨t, hb⟩ => h.sub t b hb), fun t b hb => by
    rcases k.sub t b hb with ⟨t', hb⟩ | hb
    · exact h.sub t' b hb
    · exact .inr (Nat.le_trans h.ext.size hb), k.defers.trans h.defers, k.size.trans h.size, fun t ht => (k.same t ht).trans (h.same t ht)⟩
theorem Step.weaken {F F' : Nat → List Nat} {Pr Pr' : PM} {w w' : World} {a a' : Act} {D D' : Nat → Prop} (h : Step F Pr w a F' Pr' w' a' D) (hd : ∀ t, D t → D' t) : Step F Pr w a F' Pr' w' a' D' :=
  ⟨h.ext, h.sub, h.defers, h.size, fun t ht => h.same t (fun q => ht (hd t q))⟩

theorem JT.step {P : Program} {F F' : Nat → List Nat} {Pr Pr' : PM} {w w' : World} {a a' : Act} {D : Nat → Prop} (h : JT Lz P w F) (k : Step F Pr w a F' Pr' w' a' D) : JT Lz P w' F' := h.ext k.ext k.sub

theorem put_size (a : Act) (d : Option Tmp) (v : Value) : (a.put d v).tmps.size = a.tmps.size := by cases d <;> simp [Act.put]
theorem put_defers (a : Act) (d : Option Tmp) (v : Value) : (a.put d v).defers = a.defers := by cases d <;> rfl
theorem put_same (a : Act) (d : Option Tmp) (v : Value) (t : Nat) (h : d ≠ some t) : (a.put d v).tmps.getD t undef = a.tmps.getD t undef := by
  cases d with
  | none => rfl
  | some d =>
    have : d ≠ t := fun e => h (by rw [e])
    simp only [Act.put, Array.getD_eq_getD_getElem?, Array.getElem?_setIfInBounds]
    rw [if_neg this]

section
variable {P : Program} {T : Tab} {E : CallS} {LT : Nat → Option LoopS}

theorem yielded_bool {ops : Array Oper} {ts : Array Value} {j d : Nat} {b : Bool} (hd : (ops[j]?).bind (·.dst) = some d) (hv : ts.getD d undef = .bool b) : yielded ops ts j = some b := by
  have : ts[d]? = some (.bool b) := by
    rw [Array.getD_eq_getD_getElem?] at hv
    cases h : ts[d]? with
    | none => rw [h] at hv; simp [undef] at hv
    | some v => rw [h] at hv; simp at hv; rw [hv]
  simp [yielded, hd, this]
theorem yielded_und {ops : Array Oper} {ts : Array Value} {j d : Nat} (hd : (ops[j]?).bind (·.dst) = some d) (hv : ts.getD d undef = undef) : yielded ops ts j = none := by
  unfold yielded
  rw [hd]
  simp only [Option.bind_some]
  rw [Array.getD_eq_getD_getElem?] at hv
  cases h : ts[d]? with
  | none => rfl
  | some v => rw [h] at hv; simp at hv; rw [hv]; rfl

theorem evOps_sound {R : Type} {K : Fr → Option R} {r : R} {Q : Exit → Act → World → Prop} (hC : Cx P T) (hE : SatE P E) {ops : Array Oper} {D : Nat → Prop} : ∀ (rest : List Oper) (fr : Fr) (Pr : PM) (w : World) (a : Act) (F : Nat → List Nat),
    evOps T E ops.toList rest fr K = some r → JT Lz P w F → RepF Lz Pr w fr a.tmps F → PrOK Pr w → (∀ o ∈ rest, ∀ d, o.dst = some d → d < a.tmps.size ∧ D d) →
    (∀ fr' Pr' w' a' F', K fr' = some r → RepF Lz Pr' w' fr' a'.tmps F' → PrOK Pr' w' → Step F Pr w a F' Pr' w' a' D → Q .normal a' w') → wpList P ops Q rest a w
  | [], fr, Pr, w, a, F, hev, hJ, hF, hP, _, hk => hk fr Pr w a F hev hF hP (Step.refl fun t b hb => ⟨t, hb⟩)
  | o :: rest, fr, Pr, w, a, F, hev, hJ, hF, hP, hd, hk => by
    have hdo : DOK o a := fun d h => (hd o List.mem_cons_self d h).1
    have hDo : ∀ d, o.dst = some d → D d := fun d h => (hd o List.mem_cons_self d h).2
    -- the operation is carried out, from a frame that says no more
    have run : ∀ (fr1 : Fr) (F1 : Nat → List Nat), RepF Lz Pr w fr1 a.tmps F1 → (∀ t b, b ∈ F1 t → b ∈ F t) → evOp T E o fr1 (fun fr' => evOps T E ops.toList rest fr' K) = some r → o.wp P a w (wpList P ops Q rest) Q := by
      intro fr1 F1 hF1 hsub hev1
      refine evOp_sound hC hE hev1 (hJ.sub fun t b hb => ⟨t, hsub t b hb⟩) hF1 hP hdo fun v fr' Pr' w' F' hK hF' hP' hx hs => ?_
      have hst : Step F Pr w a F' Pr' w' (a.put o.dst v) D :=
        ⟨hx.weaken fun b ⟨t, hb⟩ => ⟨t, hsub t b hb⟩, fun t b hb => (hs t b hb).imp (fun ⟨t', q⟩ => ⟨t', hsub t' b q⟩) id, put_defers _ _ _, put_size _ _ _, fun t ht => put_same a o.dst v t fun q => ht (hDo t q)⟩
      exact evOps_sound hC hE rest fr' Pr' w' _ F' hK (hJ.step hst) hF' hP' (fun o' ho' d hd' => by rw [put_size]; exact hd o' (List.mem_cons_of_mem _ ho') d hd')
        fun fr2 Pr2 w2 a2 F2 q1 q2 q3 q4 => hk fr2 Pr2 w2 a2 F2 q1 q2 q3 (hst.trans q4)
    -- it is skipped
    have skip : ∀ (fr1 : Fr) (F1 : Nat → List Nat), RepF Lz Pr w fr1 a.tmps F1 → (∀ t b, b ∈ F1 t → b ∈ F t) → evOps T E ops.toList rest (dset o.dst .und fr1) K = some r → wpList P ops Q rest (a.put o.dst undef) w := by
      intro fr1 F1 hF1 hsub hev1
      have hF2 : ∃ F2, RepF Lz Pr w (dset o.dst .und fr1) (a.put o.dst undef).tmps F2 ∧ ∀ t b, b ∈ F2 t → b ∈ F1 t := by
        cases hdst : o.dst with
        | none => exact ⟨F1, hF1, fun _ _ h => h⟩
        | some d =>
          have hlt := hdo d hdst
          refine ⟨_, hF1.plain (d := d) (ts' := a.tmps.setIfInBounds d undef) (sv := .und) (fun t hne => by rw [getD_set _ _ _ _ hlt, if_neg hne]) (by rw [getD_set _ _ _ _ hlt, if_pos rfl]; simp [RepS]) rfl (by simp) (by simp), ?_⟩
          intro t b hb
          by_cases e : t = d
          · simp [e] at hb
          · simpa [e] using hb
      obtain ⟨F2, hF2, hsub2⟩ := hF2
      have hst : Step F Pr w a F2 Pr w (a.put o.dst undef) D :=
        ⟨Ext.refl _ _ _, fun t b hb => .inl ⟨t, hsub t b (hsub2 t b hb)⟩, put_defers _ _ _, put_size _ _ _, fun t ht => put_same a o.dst undef t fun q => ht (hDo t q)⟩
      exact evOps_sound hC hE rest _ Pr w _ F2 hev1 (hJ.step hst) hF2 hP (fun o' ho' d hd' => by rw [put_size]; exact hd o' (List.mem_cons_of_mem _ ho') d hd')
        fun fr3 Pr3 w3 a3 F3 q1 q2 q3 q4 => hk fr3 Pr3 w3 a3 F3 q1 q2 q3 (hst.trans q4)
    simp only [evOps] at hev
    simp only [wpList]
    split at hev
    · rename_i hg
      rw [if_pos (by simp [Region.wanted, hg])]
      exact .inl (run fr F hF (fun _ _ h => h) hev)
    · rename_i j want hg
      split at hev
      · rename_i d hdst
        have hdst' : (ops[j]?).bind (·.dst) = some d := by simpa using hdst
        have hd1 := rdSV_sound hF d
        obtain ⟨B, _, hrep⟩ := hd1
        split at hev
        · rename_i hu
          rw [hu] at hrep
          simp only [RepS] at hrep
          rw [if_neg (by simp [Region.wanted, hg, yielded_und hdst' hrep.1])]
          exact skip fr F hF (fun _ _ h => h) hev
        · rename_i b hb
          rw [hb] at hrep
          simp only [RepS, RepA, RepD] at hrep
          have hy := yielded_bool hdst' hrep.1
          have hsh : ∀ b', b = b' → RepF Lz Pr w ((d, .val (.d (.bool b'))) :: fr) a.tmps (fun t => if t = d then [] else F t) := fun b' e => hF.shadow (by subst e; simp only [RepA, RepD]; exact hrep.1)
          have hss : ∀ t b, b ∈ (if t = d then [] else F t) → b ∈ F t := by
            intro t b hb
            by_cases e : t = d
            · simp [e] at hb
            · simpa [e] using hb
          rcases br_some hev with ⟨hbt, h⟩ | ⟨hbt, h⟩
          · cases want
            · simp only [cond_false] at h
              rw [if_neg (by simp [Region.wanted, hg, hy, hbt])]
              exact skip _ _ (hsh true hbt) hss h
            · simp only [cond_true] at h
              rw [if_pos (by simp [Region.wanted, hg, hy, hbt])]
              exact .inl (run _ _ (hsh true hbt) hss h)
          · cases want
            · simp only [cond_false] at h
              rw [if_pos (by simp [Region.wanted, hg, hy, hbt])]
              exact .inl (run _ _ (hsh false hbt) hss h)
            · simp only [cond_true] at h
              rw [if_neg (by simp [Region.wanted, hg, hy, hbt])]
              exact skip _ _ (hsh false hbt) hss h
        · cases hev
      · cases hev

/-! ### Loops -/
noncomputable def iter (T : Tab) (E : CallS) (LT : Nat → Option LoopS) (c : Code) (ls : LoopS) : Nat → List SV → Option (Ex × List SV)
  | 0, _ => none
  | n + 1, vs => match evRound T E LT c ls vs with
    | some (.again vs') => iter T E LT c ls n vs'
    | some (.out e vs') => some (e, vs')
    | none => none
/-- Rounds of a loop over a map, with what they are for. -/
noncomputable def iterK {R : Type} (T : Tab) (E : CallS) (LT : Nat → Option LoopS) (c : Code) (ls : LoopS) : Nat → List SV → (Ex → List SV → Option R) → Option R
  | 0, _, _ => none
  | n + 1, vs, K => evRoundK T E LT c ls vs K fun vs' => iterK T E LT c ls n vs' K
noncomputable def runM {R : Type} (fm : List SV → Tr MR) (vs : List SV) (K : Ex → List SV → Option R) : Option R :=
  (fm vs).run fun p => p.run fun x => K x.1 x.2
def LoopOK (T : Tab) (E : CallS) (LT : Nat → Option LoopS) (c : Code) : Prop :=
  ∀ ls, LT (key c) = some ls → (∀ vs x, (ls.f vs).Out x → ∃ n, iter T E LT c ls n vs = some x) ∧
    ∀ fm, ls.fm = some fm → ∀ (R : Type) (vs : List SV) (K : Ex → List SV → Option R) (r : R), runM fm vs K = some r → ∃ n, iterK T E LT c ls n vs K = some r
/-- All loops of a code are what is told of them. -/
def LoopsOK (T : Tab) (E : CallS) (LT : Nat → Option LoopS) : Code → Prop
  | .seq a b => LoopsOK T E LT a ∧ LoopsOK T E LT b
  | .cond _ a b => LoopsOK T E LT a ∧ LoopsOK T E LT b
  | .block _ c => LoopsOK T E LT c
  | .loop c => LoopsOK T E LT c ∧ LoopOK T E LT c
  | .scope c => LoopsOK T E LT c
  | _ => True

def exOf : Ex → Exit
  | .normal => .normal
  | .exit id => .exit id
  | .ret => .ret

theorem look_binds_nil (t : Nat) : ∀ (vs : List SV), look1 t (binds [] vs) = .unk := by intro vs; cases vs <;> rfl
theorem look_looks (fr : Fr) (t : Nat) : ∀ (l : List Nat), look1 t (binds l (looks fr l)) = if t ∈ l then lookL t fr else .unk
  | [] => by simp [binds, look1]
  | s :: l => by
    simp only [looks, binds, look1]
    by_cases e : s = t
    · subst e; simp
    · rw [beq_false e, cond_false, look_looks fr t l]
      simp [Ne.symm e]
theorem lookO_al {t : Nat} {fr : Fr} {x : Nat × OA} (h : lookO t fr = some x) : (∃ d o, look1 t fr = .al d o) ∨ ∃ d k, look1 t fr = .ow d k := by
  unfold lookO at h
  split at h
  · rename_i pre d k rest hf; exact .inr ⟨d, k, find_look t fr [] _ _ _ hf⟩
  · rename_i pre d rest hf; exact .inl ⟨d, none, find_look t fr [] _ _ _ hf⟩
  · cases h
theorem lookL_noal (t : Nat) (fr : Fr) : (∀ d o, lookL t fr ≠ .al d o) ∧ (∀ d o, lookL t fr ≠ .ref d o) := by
  unfold lookL
  split
  · split
    · simp
    · split <;> simp
  · simp
  · split <;> simp
  · simp
  · simp
  · simp
  · rename_i h1 h2 h3 h4 h5 h6
    exact ⟨h1, h2⟩
theorem lookL_ow {t : Nat} {fr : Fr} {d : Nat} {k : OA} (h : lookL t fr = .ow d k) : lookO t fr = some (d, k) := by
  unfold lookL at h
  split at h
  · split at h
    · rename_i x y hx; cases h; exact hx
    · split at h <;> cases h
  · cases h
  · split at h
    · rename_i x y hx; cases h; exact hx
    · cases h
  · cases h
  · cases h
  · cases h
  · rename_i h1 h2 h3 h4 h5 h6
    exact absurd h (h3 d k)
theorem lookL_own {Pr : PM} {w : World} {fr : Fr} {ts : Array Value} {F : Nat → List Nat} (hF : RepF Lz Pr w fr ts F) {t d : Nat} {k : OA} (h : lookL t fr = .ow d k) : OWv k (ts.getD d undef) (ts.getD t undef) := by
  have h := lookL_ow h
  unfold lookO at h
  split at h
  · rename_i pre d' k' rest hf
    cases hb : bound d' pre
    · rw [hb, cond_false] at h
      cases h
      exact hF.own t pre d k rest hf hb
    · rw [hb, cond_true] at h; cases h
  · rename_i pre d' rest hf
    cases hb : bound d' pre
    · rw [hb, cond_false] at h
      have hl0 := find_rest t d' fr pre _ rest hf hb
      split at h
      · rename_i es l hl
        cases h
        rw [hF.alias0 t pre d rest hf hb]
        have hr := hF.rep d
        rw [hl0, hl] at hr
        simp only [RepS] at hr
        rcases hr with ⟨hv, rfl, _⟩ | ⟨b, off, cap, c, T, vss, hv, _, _, hcap, _⟩
        · rw [hv]; exact ⟨none, 0, 0, rfl, Nat.le_refl _, by simp, by simp⟩
        · rw [hv]
          refine ⟨some ⟨b, off, none⟩, l.length, cap, rfl, Nat.zero_le _, Nat.le_refl _, ?_⟩
          split
          · simp
          · simp [Addr.add_lit]
      · cases h
    · rw [hb, cond_true] at h; cases h
  · cases h
theorem find_mem : ∀ (fr : Fr) (t : Nat) (acc : List (Nat × Bool)) pre sv rest, find t fr acc = some (pre, sv, rest) → ∃ x ∈ fr, x.2 = sv
  | [], t, acc, pre, sv, rest, h => by simp [find] at h
  | (x, s) :: fr, t, acc, pre, sv, rest, h => by
    simp only [find] at h
    cases hx : Nat.beq x t
    · rw [hx, cond_false] at h
      obtain ⟨y, h1, h2⟩ := find_mem fr t _ pre sv rest h
      exact ⟨y, List.mem_cons_of_mem _ h1, h2⟩
    · rw [hx, cond_true] at h
      simp at h
      exact ⟨(x, s), List.mem_cons_self, h.2.1⟩
theorem lookL_rep {Pr : PM} {w : World} {fr : Fr} {ts : Array Value} {F : Nat → List Nat} (h : RepF Lz Pr w fr ts F) (t : Nat) : RepS Lz Pr w (lookL t fr) (ts.getD t undef) (F t) := by
  have hr := h.rep t
  unfold lookL
  split
  · rename_i d o hl
    rw [hl] at hr
    simp only [RepS] at hr
    rw [hr]
    split
    · simp [RepS]
    · split
      · rename_i v hv
        simp only [RepS]; exact ⟨rd_sound h hv, trivial⟩
      · simp [RepS]
  · rename_i d o hl
    rw [hl] at hr
    simp only [RepS] at hr ⊢
    exact hr
  · rename_i d k hl
    rw [hl] at hr
    simp only [RepS] at hr
    rw [hr]
    split <;> simp [RepS]
  · rename_i nw cs hl
    rw [hl] at hr
    simp only [RepS] at hr ⊢
    exact hr
  · rename_i k b es rem cur hl
    rw [hl] at hr
    simp only [RepS] at hr ⊢
    obtain ⟨bl, h1, h2, h3, h4⟩ := hr
    refine ⟨bl, h1, h2, h3, h4.imp (fun ⟨s, n, g1, g2, _⟩ => ⟨s, n, g1, g2, trivial⟩) ?_⟩
    rintro ⟨mb, es', ck, seen, g1, g2, g3, g4, g5, _⟩
    exact ⟨mb, es', ck, seen, g1, g2, g3, g4, g5, by simp⟩
  · rename_i nw k es h0 m hl
    rw [hl] at hr
    simp only [RepS] at hr ⊢
    exact hr
  · exact hr
theorem noal_find {fr : Fr} (h : ∀ x ∈ fr, (∀ d o, x.2 ≠ .al d o) ∧ (∀ d o, x.2 ≠ .ref d o)) : ∀ (t : Nat) (acc : List (Nat × Bool)) pre sv rest, find t fr acc = some (pre, sv, rest) → (∀ d o, sv ≠ .al d o) ∧ (∀ d o, sv ≠ .ref d o) := by
  induction fr with
  | nil => intro t acc pre sv rest hf; simp [find] at hf
  | cons p fr ih =>
    obtain ⟨x, s⟩ := p
    intro t acc pre sv rest hf
    simp only [find] at hf
    cases hx : Nat.beq x t
    · rw [hx, cond_false] at hf
      exact ih (fun y hy => h y (List.mem_cons_of_mem _ hy)) t _ pre sv rest hf
    · rw [hx, cond_true] at hf
      simp at hf
      rw [← hf.2.1]
      exact h (x, s) List.mem_cons_self
theorem binds_looks_mem (fr : Fr) : ∀ (l : List Nat) x, x ∈ binds l (looks fr l) → x.2 = lookL x.1 fr
  | [], x, h => by simp [binds] at h
  | s :: l, x, h => by
    simp only [looks, binds, List.mem_cons] at h
    rcases h with rfl | h
    · rfl
    · exact binds_looks_mem fr l x h
theorem RepF_looks {Pr : PM} {w : World} {fr : Fr} {ts : Array Value} {F : Nat → List Nat} (h : RepF Lz Pr w fr ts F) (l : List Nat) : RepF Lz Pr w (binds l (looks fr l)) ts (fun t => if t ∈ l then F t else []) := by
  have hno : ∀ x ∈ binds l (looks fr l), (∀ d o, x.2 ≠ .al d o) ∧ (∀ d o, x.2 ≠ .ref d o) := fun x hx => by
    rw [binds_looks_mem fr l x hx]; exact lookL_noal _ _
  refine ⟨fun t => ?_, fun t => ?_, fun t t' hne b hb q => ?_, fun t pre d rest hf => ?_, fun t pre d o rest hf => ?_, fun t pre d k rest hf => ?_, fun t pre d o rest hf => ?_⟩
  · rw [look_looks]
    by_cases e : t ∈ l
    · rw [if_pos e, if_pos e]; exact lookL_rep h t
    · rw [if_neg e, if_neg e]; simp [RepS]
  · by_cases e : t ∈ l
    · rw [if_pos e]; exact h.nodup t
    · rw [if_neg e]; exact List.nodup_nil
  · by_cases e : t ∈ l
    · rw [if_pos e] at hb
      by_cases e' : t' ∈ l
      · rw [if_pos e'] at q; exact h.apart t t' hne b hb q
      · rw [if_neg e'] at q; simp at q
    · rw [if_neg e] at hb; simp at hb
  · exact absurd rfl ((noal_find hno t [] pre _ rest hf).1 d none)
  · exact absurd rfl ((noal_find hno t [] pre _ rest hf).1 d (some o))
  · obtain ⟨x, hx, hx2⟩ := find_mem _ t [] pre _ rest hf
    have := find_look t _ [] _ _ _ hf
    rw [look_looks] at this
    split at this
    · exact fun _ => lookL_own h this
    · cases this
  · exact absurd rfl ((noal_find hno t [] pre _ rest hf).2 d o)

theorem RepF_unks {Pr : PM} {w : World} {fr : Fr} : ∀ (l : List Nat) (ts ts' : Array Value) (F : Nat → List Nat), RepF Lz Pr w fr ts F → ts'.size = ts.size → (∀ t, t ∉ l → ts'.getD t undef = ts.getD t undef) →
    RepF Lz Pr w (unks l fr) ts' (fun t => if t ∈ l then [] else F t)
  | [], ts, ts', F, h, _, hs => by
    simp only [unks, List.not_mem_nil, if_false]
    have hs' : ∀ t, ts'.getD t undef = ts.getD t undef := fun t => hs t (by simp)
    exact ⟨fun t => by rw [hs']; exact h.rep t, h.nodup, h.apart, fun t pre d rest hf hb => by rw [hs', hs']; exact h.al0 t pre d rest hf hb, fun t pre d o rest hf hb => by
      obtain ⟨b, c, T', q1, q2, q3, q4⟩ := h.alias1 t pre d o rest hf hb
      exact ⟨b, c, T', by rw [hs']; exact q1, q2, q3, by rw [hs']; exact q4⟩, fun t pre d k rest hf hb => by rw [hs', hs']; exact h.own t pre d k rest hf hb, fun t pre d o rest hf hb => by
      obtain ⟨b, q1, q2⟩ := h.ref t pre d o rest hf hb
      exact ⟨b, by rw [hs']; exact q1, by rw [hs']; exact q2⟩⟩
  | s :: l, ts, ts', F, h, hz, hs => by
    have hmid : ∀ t, t ∉ l → (ts'.setIfInBounds s (ts.getD s undef)).getD t undef = ts.getD t undef := by
      intro t ht
      by_cases hlt : s < ts'.size
      · rw [getD_set _ _ _ _ hlt]
        by_cases e : t = s
        · rw [if_pos e, e]
        · rw [if_neg e]; exact hs t (by simp [e, ht])
      · have e1 : ts'.setIfInBounds s (ts.getD s undef) = ts' := by simp [Array.setIfInBounds, hlt]
        rw [e1]
        by_cases e : t = s
        · subst e
          have h1 : ts'[t]? = none := by simp; omega
          have h2 : ts[t]? = none := by simp; omega
          simp [Array.getD_eq_getD_getElem?, h1, h2]
        · exact hs t (by simp [e, ht])
    have ih := RepF_unks l ts (ts'.setIfInBounds s (ts.getD s undef)) F h (by simp [hz]) hmid
    have := ih.plain (d := s) (ts' := ts') (sv := .unk) (fun t hne => by
      by_cases hlt : s < ts'.size
      · rw [getD_set _ _ _ _ hlt, if_neg hne]
      · simp [Array.setIfInBounds, hlt]) (by simp [RepS]) rfl (by simp) (by simp)
    have e : (fun t => if t = s then [] else (fun t => if t ∈ l then [] else F t) t) = fun t => if t ∈ s :: l then [] else F t := by
      funext t
      by_cases e1 : t = s <;> by_cases e2 : t ∈ l <;> simp [e1, e2]
    rw [e] at this
    exact this

theorem RepF_binds {Pr : PM} {w : World} {fr : Fr} {ts : Array Value} {G : Nat → List Nat} (hn : ∀ t, (G t).Nodup) (ha : ∀ t t', t ≠ t' → ∀ b ∈ G t, b ∉ G t') : ∀ (l : List Nat) (vs : List SV) (F : Nat → List Nat), RepF Lz Pr w fr ts F →
    (∀ x ∈ binds l vs, RepS Lz Pr w x.2 (ts.getD x.1 undef) (G x.1) ∧ (∀ d o, x.2 ≠ .al d o) ∧ (∀ d o, x.2 ≠ .ref d o) ∧ ∀ d k, x.2 = .ow d k → OWv k (ts.getD d undef) (ts.getD x.1 undef)) → (∀ t t', ∀ b ∈ G t, b ∉ F t') →
    ∃ F', RepF Lz Pr w (binds l vs ++ fr) ts F' ∧ ∀ t b, b ∈ F' t → b ∈ F t ∨ b ∈ G t
  | [], vs, F, h, _, _ => ⟨F, by cases vs <;> exact h, fun t b hb => .inl hb⟩
  | s :: l, [], F, h, _, _ => ⟨F, h, fun t b hb => .inl hb⟩
  | s :: l, v :: vs, F, h, hx, hd => by
    obtain ⟨F1, h1, hs1⟩ := RepF_binds hn ha l vs F h (fun x hx' => hx x (List.mem_cons_of_mem _ hx')) hd
    obtain ⟨q1, q2, q3, q4⟩ := hx (s, v) List.mem_cons_self
    -- an update's mark says nothing here
    have hmk : RepF Lz Pr w ((s, v) :: (binds l vs ++ fr)) ts (fun t => if t = s then G s else F1 t) :=
      h1.bind (fun _ _ => rfl) q1 (hn s) (fun t hne b hb q => by
        rcases hs1 t b q with q | q
        · exact hd s t b hb q
        · exact ha s t (Ne.symm hne) b hb q) (fun _ => rfl) (fun d' e => absurd e (q2 d' none)) (fun d' o e => absurd e (q2 d' (some o))) (fun d' o e => absurd e (q3 d' o)) (fun d' k e _ => q4 d' k e)
    refine ⟨_, hmk, fun t b hb => ?_⟩
    by_cases e : t = s
    · rw [if_pos e] at hb; rw [e]; exact .inr hb
    · rw [if_neg e] at hb; exact hs1 t b hb
end
end Go.Proofs.Ytgcjhcefpkbheaa.Lg
end

section
namespace Go.Proofs.Ytgcjhcefpkbheaa.Lg
open Go
variable {Lz : PM}
/-- What a region with an open order comes to (shown in LgC4). -/
def DrawSound (P : Program) (T : Tab) (E : CallS) : Prop :=
  ∀ {Lz : PM} {R : Type} {K : Fr → Option R} {r : R} {Q : Exit → Act → World → Prop} {id : Nat} {ops : Array Oper} {fr : Fr} {Pr : PM} {w : World} {a : Act} {F : Nat → List Nat},
    drawOK ops.toList = true → owOK (regW ops.toList) fr = true → evDraw T E ops.toList (ops.toList.filterMap (dstO ops.toList)) (ops.toList.filterMap (·.dst)) fr ops.toList [] (fun env => K (env ++ clean fr)) = some r → JT Lz P w F → RepF Lz Pr w fr a.tmps F → PrOK Pr w → (∀ o ∈ ops.toList, ∀ d, o.dst = some d → d < a.tmps.size) →
    (∀ fr' Pr' w' a' F', K fr' = some r → RepF Lz Pr' w' fr' a'.tmps F' → PrOK Pr' w' → Step F Pr w a F' Pr' w' a' (fun d => d ∈ ops.toList.filterMap (·.dst)) → Q .normal a' w') → (Code.region id ops true).wp P Q a w
/-- What a region with an open order that writes comes to (shown in LgT2). -/
def RegSound (P : Program) (T : Tab) (E : CallS) : Prop :=
  ∀ {Lz : PM} {R : Type} {K : Fr → Option R} {r : R} {Q : Exit → Act → World → Prop} {id : Nat} {ops : Array Oper} {fr : Fr} {Pr : PM} {w : World} {a : Act} {F : Nat → List Nat},
    evReg T E ops fr K = some r → JT Lz P w F → RepF Lz Pr w fr a.tmps F → PrOK Pr w → (∀ o ∈ ops.toList, ∀ d, o.dst = some d → d < a.tmps.size) →
    (∀ fr' Pr' w' a' F', K fr' = some r → RepF Lz Pr' w' fr' a'.tmps F' → PrOK Pr' w' → Step F Pr w a F' Pr' w' a' (fun d => d ∈ ops.toList.filterMap (·.dst)) → Q .normal a' w') → (Code.region id ops true).wp P Q a w

section
variable {P : Program} {T : Tab} {E : CallS} {LT : Nat → Option LoopS}

theorem truth_sound {Pr : PM} {w : World} {fr : Fr} {a : Act} {F : Nat → List Nat} (hF : RepF Lz Pr w fr a.tmps F) (pr : Bool) {c : Operand} {b : Bool} (h : a.eval c = .bool b) : RepF Lz Pr w (bif pr then truth fr c b else fr) a.tmps F := by
  cases pr
  · exact hF
  · rw [cond_true]
    unfold truth
    split
    · rename_i t
      split
      · rename_i v hl
        have hr := hF.rep t
        rw [hl] at hr
        simp only [RepS] at hr
        have h1 := hF.shadow (d := t) (x := .d (.bool b)) (by simp only [RepA, RepD]; exact h)
        have e : (fun t' => if t' = t then [] else F t') = F := by
          funext t'
          by_cases e : t' = t
          · rw [if_pos e, e, hr.2]
          · rw [if_neg e]
        rw [e] at h1
        exact h1
      · exact hF
    · exact hF
theorem evC_sound (hC : Cx P T) (hE : SatE P E) (hDr : DrawSound P T E) (hRg : RegSound P T E) : ∀ (c : Code), LoopsOK T E LT c → ∀ {R : Type} {K : Ex → Fr → Option R} {r : R} {fr : Fr} {Pr : PM} {w : World} {a : Act} {F : Nat → List Nat} {Q : Exit → Act → World → Prop},
    evC T E LT c fr K = some r → JT Lz P w F → RepF Lz Pr w fr a.tmps F → PrOK Pr w → (∀ d ∈ wr c, d < a.tmps.size) →
    (∀ e fr' Pr' w' a' F', K e fr' = some r → RepF Lz Pr' w' fr' a'.tmps F' → PrOK Pr' w' → Step F Pr w a F' Pr' w' a' (fun d => d ∈ wr c) → Q (exOf e) a' w') → c.wp P Q a w
  | .skip, _, R, K, r, fr, Pr, w, a, F, Q, hev, hJ, hF, hP, hd, hk => wp_skip (hk .normal fr Pr w a F hev hF hP (Step.refl fun t b hb => ⟨t, hb⟩))
  | .exit id, _, R, K, r, fr, Pr, w, a, F, Q, hev, hJ, hF, hP, hd, hk => wp_exit (hk (.exit id) fr Pr w a F hev hF hP (Step.refl fun t b hb => ⟨t, hb⟩))
  | .ret, _, R, K, r, fr, Pr, w, a, F, Q, hev, hJ, hF, hP, hd, hk => wp_ret (hk .ret fr Pr w a F hev hF hP (Step.refl fun t b hb => ⟨t, hb⟩))
  | .region id ops draw, _, R, K, r, fr, Pr, w, a, F, Q, hev, hJ, hF, hP, hd, hk => by
    have hdst : ∀ o ∈ ops.toList, ∀ d, o.dst = some d → d ∈ wr (.region id ops draw) := fun o ho d h => by
      simp only [wr, List.mem_filterMap]; exact ⟨o, ho, h⟩
    cases draw
    · simp only [evC, cond_false] at hev
      refine wp_region_list (evOps_sound hC hE (D := fun d => d ∈ wr (.region id ops false)) ops.toList fr Pr w a F hev hJ hF hP (fun o ho d h => ⟨hd d (hdst o ho d h), hdst o ho d h⟩) fun fr' Pr' w' a' F' h1 h2 h3 h4 => hk .normal fr' Pr' w' a' F' h1 h2 h3 h4)
    · simp only [evC, cond_true] at hev
      cases hok : (drawOK ops.toList && hasNoO E ops.toList && owOK (regW ops.toList) fr)
      · rw [hok, cond_false] at hev
        exact hRg (K := K .normal) hev hJ hF hP (fun o ho d h => hd d (hdst o ho d h)) fun fr' Pr' w' a' F' h1 h2 h3 h4 => hk .normal fr' Pr' w' a' F' h1 h2 h3 (h4.weaken fun t ht => by simpa [wr] using ht)
      · rw [hok, cond_true] at hev
        exact hDr (K := K .normal) (by rw [Bool.and_eq_true, Bool.and_eq_true] at hok; exact hok.1.1) (by rw [Bool.and_eq_true] at hok; exact hok.2) hev hJ hF hP (fun o ho d h => hd d (hdst o ho d h)) fun fr' Pr' w' a' F' h1 h2 h3 h4 => hk .normal fr' Pr' w' a' F' h1 h2 h3 (h4.weaken fun t ht => by simpa [wr] using ht)
  | .seq x y, hl, R, K, r, fr, Pr, w, a, F, Q, hev, hJ, hF, hP, hd, hk => by
    simp only [evC] at hev
    simp only [LoopsOK] at hl
    refine wp_seq (evC_sound hC hE hDr hRg x hl.1 hev hJ hF hP (fun d h => hd d (by simp [wr, h])) fun e fr' Pr' w' a' F' h1 h2 h3 h4 => ?_)
    have h4' : Step F Pr w a F' Pr' w' a' (fun d => d ∈ wr (.seq x y)) := h4.weaken fun t ht => by simp [wr, ht]
    cases e with
    | normal =>
      show y.wp P Q a' w'
      exact evC_sound hC hE hDr hRg y hl.2 h1 (hJ.step h4) h2 h3 (fun d h => by rw [h4.size]; exact hd d (by simp [wr, h])) fun e2 fr2 Pr2 w2 a2 F2 q1 q2 q3 q4 => hk e2 fr2 Pr2 w2 a2 F2 q1 q2 q3 (h4'.trans (q4.weaken fun t ht => by simp [wr, ht]))
    | exit id => exact hk (.exit id) fr' Pr' w' a' F' h1 h2 h3 h4'
    | ret => exact hk .ret fr' Pr' w' a' F' h1 h2 h3 h4'
  | .cond c x y, hl, R, K, r, fr, Pr, w, a, F, Q, hev, hJ, hF, hP, hd, hk => by
    simp only [evC] at hev
    simp only [LoopsOK] at hl
    split at hev
    · rename_i t hc
      have hb := rdO_sound hF hc
      simp only [RepA, RepD] at hb
      refine wp_cond hb ?_
      rcases br_some hev with ⟨ht, h⟩ | ⟨ht, h⟩
      · rw [ht]
        have hF := truth_sound hF (E.pr) (c := c) (b := true) (by rw [← ht]; exact hb)
        exact evC_sound hC hE hDr hRg x hl.1 h hJ hF hP (fun d h => hd d (by simp [wr, h])) fun e fr' Pr' w' a' F' h1 h2 h3 h4 => hk e fr' Pr' w' a' F' h1 h2 h3 (h4.weaken fun t ht => by simp [wr, ht])
      · rw [ht]
        have hF := truth_sound hF (E.pr) (c := c) (b := false) (by rw [← ht]; exact hb)
        exact evC_sound hC hE hDr hRg y hl.2 h hJ hF hP (fun d h => hd d (by simp [wr, h])) fun e fr' Pr' w' a' F' h1 h2 h3 h4 => hk e fr' Pr' w' a' F' h1 h2 h3 (h4.weaken fun t ht => by simp [wr, ht])
    · cases hev
  | .block id c, hl, R, K, r, fr, Pr, w, a, F, Q, hev, hJ, hF, hP, hd, hk => by
    simp only [evC] at hev
    simp only [LoopsOK] at hl
    refine wp_block (evC_sound hC hE hDr hRg c hl hev hJ hF hP hd fun e fr' Pr' w' a' F' h1 h2 h3 h4 => ?_)
    cases e with
    | normal => exact hk .normal fr' Pr' w' a' F' h1 h2 h3 h4
    | ret => exact hk .ret fr' Pr' w' a' F' h1 h2 h3 h4
    | exit j =>
      simp only [exOf, Exit.inBlock]
      by_cases e : j = id
      · rw [if_pos e]
        simp only [e, Nat.beq_refl, cond_true] at h1
        exact hk .normal fr' Pr' w' a' F' h1 h2 h3 h4
      · rw [if_neg e]
        simp only [beq_false e, cond_false] at h1
        exact hk (.exit j) fr' Pr' w' a' F' h1 h2 h3 h4
  | .loop c, hl, R, K, r, fr, Pr, w, a, F, Q, hev, hJ, hF, hP, hd, hk => by
    simp only [evC] at hev
    simp only [LoopsOK] at hl
    split at hev
    · rename_i ls hls
      split at hev
      · have leave : ∀ (e : Ex) (fr' : Fr) (Pr' : PM) (w' : World) (a' : Act) (F' : Nat → List Nat), K e (binds (ls.oe e) (looks fr' (ls.oe e)) ++ unks (wr c) (unks ls.live fr)) = some r → RepF Lz Pr' w' fr' a'.tmps F' → PrOK Pr' w' →
            Step (fun t => if t ∈ ls.live then F t else []) Pr w a F' Pr' w' a' (fun d => d ∈ wr c) → Q (exOf e) a' w' := by
          intro e fr' Pr' w' a' F' hK' h2 h3 hst'
          -- the frame behind the loop
          have hkeep : ∀ t, t ∉ ls.live → Keeps (F t) Pr w Pr' w' := fun t ht => hst'.ext.keeps fun b hb => ⟨hF.lt t b hb, fun ⟨t', hb'⟩ => by
            by_cases q : t' ∈ ls.live
            · rw [if_pos q] at hb'
              exact hF.apart t t' (fun e => ht (e ▸ q)) b hb hb'
            · rw [if_neg q] at hb'; simp at hb'⟩
          have g1 := RepF_unks ls.live a.tmps a.tmps F hF rfl (fun _ _ => rfl)
          have g2 : RepF Lz Pr' w' (unks ls.live fr) a.tmps (fun t => if t ∈ ls.live then [] else F t) := g1.mono hst'.ext.le fun t => by
            by_cases q : t ∈ ls.live
            · simp only [if_pos q]; intro b hb; simp at hb
            · simp only [if_neg q]; exact hkeep t q
          have g3 := RepF_unks (wr c) a.tmps a'.tmps _ g2 hst'.size (fun t ht => hst'.same t ht)
          obtain ⟨F3, g4, g5⟩ := RepF_binds (G := fun t => if t ∈ (ls.oe e) then F' t else []) (fun t => by
            by_cases q : t ∈ (ls.oe e)
            · simp only [if_pos q]; exact h2.nodup t
            · simp only [if_neg q]; exact List.nodup_nil) (fun t t' hne b hb q => by
              by_cases q1 : t ∈ (ls.oe e)
              · simp only [if_pos q1] at hb
                by_cases q2 : t' ∈ (ls.oe e)
                · simp only [if_pos q2] at q; exact h2.apart t t' hne b hb q
                · simp only [if_neg q2] at q; simp at q
              · simp only [if_neg q1] at hb; simp at hb) (ls.oe e) (looks fr' (ls.oe e)) _ g3 (fun y hy => by
                have e1 := binds_looks_mem fr' (ls.oe e) y hy
                have e2 : y.1 ∈ (ls.oe e) := by
                  have : ∀ (l : List Nat) y, y ∈ binds l (looks fr' l) → y.1 ∈ l := by
                    intro l
                    induction l with
                    | nil => intro y h; simp [binds] at h
                    | cons s l ih =>
                      intro y h
                      simp only [looks, binds, List.mem_cons] at h
                      rcases h with rfl | h
                      · exact List.mem_cons_self
                      · exact List.mem_cons_of_mem _ (ih y h)
                  exact this _ y hy
                rw [e1]
                refine ⟨?_, (lookL_noal _ _).1, (lookL_noal _ _).2, fun d k e => lookL_own h2 e⟩
                simp only [if_pos e2]
                exact lookL_rep h2 y.1) (fun t t' b hb q => by
              by_cases q1 : t ∈ (ls.oe e)
              · simp only [if_pos q1] at hb
                by_cases q2 : t' ∈ wr c
                · simp only [if_pos q2] at q; simp at q
                · simp only [if_neg q2] at q
                  by_cases q3 : t' ∈ ls.live
                  · simp only [if_pos q3] at q; simp at q
                  · simp only [if_neg q3] at q
                    rcases hst'.sub t b hb with ⟨t2, h⟩ | h
                    · by_cases q4 : t2 ∈ ls.live
                      · simp only [if_pos q4] at h
                        exact hF.apart t2 t' (fun e => q3 (e ▸ q4)) b h q
                      · simp only [if_neg q4] at h; simp at h
                    · have := hF.lt t' b q; omega
              · simp only [if_neg q1] at hb; simp at hb)
          refine hk e _ Pr' w' a' F3 hK' g4 h3 ⟨hst'.ext.weaken fun b ⟨t, hb⟩ => ?_, fun t b hb => ?_, hst'.defers, hst'.size, fun t ht => hst'.same t (by simpa [wr] using ht)⟩
          · by_cases q : t ∈ ls.live
            · rw [if_pos q] at hb; exact ⟨t, hb⟩
            · rw [if_neg q] at hb; simp at hb
          · rcases g5 t b hb with q | q
            · by_cases q2 : t ∈ wr c
              · simp only [if_pos q2] at q; simp at q
              · simp only [if_neg q2] at q
                by_cases q3 : t ∈ ls.live
                · simp only [if_pos q3] at q; simp at q
                · simp only [if_neg q3] at q; exact .inl ⟨t, q⟩
            · by_cases q1 : t ∈ (ls.oe e)
              · simp only [if_pos q1] at q
                refine (hst'.sub t b q).imp (fun ⟨t2, h⟩ => ?_) id
                by_cases q4 : t2 ∈ ls.live
                · simp only [if_pos q4] at h; exact ⟨t2, h⟩
                · simp only [if_neg q4] at h; simp at h
              · simp only [if_neg q1] at q; simp at q
        split at hev
        · obtain ⟨x, hout, hK⟩ := Tr.run_some hev
          obtain ⟨n, hn⟩ := (hl.2 ls hls).1 _ x hout
          refine wp_loop_rounds n ?_
          have rounds : ∀ (n : Nat) (vs : List SV) (Pr1 : PM) (w1 : World) (a1 : Act) (F1 : Nat → List Nat), iter T E LT c ls n vs = some x → RepF Lz Pr1 w1 (binds ls.live vs) a1.tmps F1 → PrOK Pr1 w1 →
              Step (fun t => if t ∈ ls.live then F t else []) Pr w a F1 Pr1 w1 a1 (fun d => d ∈ wr c) → Code.rounds P c Q n a1 w1 := by
            intro n
            induction n with
            | zero => intro vs Pr1 w1 a1 F1 h; simp [iter] at h
            | succ n ih =>
              intro vs Pr1 w1 a1 F1 hit hF1 hP1 hst
              rw [rounds_succ]
              simp only [iter] at hit
              cases hr : evRound T E LT c ls vs with
              | none => simp [hr] at hit
              | some rnd =>
                rw [hr] at hit
                unfold evRound at hr
                refine evC_sound hC hE hDr hRg c hl.1 hr (JT.step (hJ.sub (F' := fun t => if t ∈ ls.live then F t else []) (fun t b hb => ⟨t, by by_cases q : t ∈ ls.live <;> simp [q] at hb; exact hb⟩)) hst) hF1 hP1 (fun d h => by rw [hst.size]; exact hd d (by simpa [wr] using h)) fun e fr' Pr' w' a' F' h1 h2 h3 h4 => ?_
                have hst' := hst.trans h4
                have out : ∀ (e : Ex), some (Rnd.out e (looks fr' (ls.oe e))) = some rnd → Q (exOf e) a' w' := by
                  intro e h1
                  simp at h1
                  rw [← h1] at hit
                  simp at hit
                  refine leave e fr' Pr' w' a' F' ?_ h2 h3 hst'
                  rw [← hit] at hK; exact hK
                cases e with
                | normal =>
                  simp at h1
                  rw [← h1] at hit
                  exact ih _ Pr' w' a' _ hit (RepF_looks h2 ls.live) h3 ⟨hst'.ext, fun t b hb => by
                    by_cases q : t ∈ ls.live
                    · rw [if_pos q] at hb; exact hst'.sub t b hb
                    · rw [if_neg q] at hb; simp at hb, hst'.defers, hst'.size, hst'.same⟩
                | exit id => exact out (.exit id) h1
                | ret => exact out .ret h1
          exact rounds n _ Pr w a _ hn (RepF_looks hF ls.live) hP (Step.refl fun t b hb => ⟨t, hb⟩)
        · rename_i fm hfm
          obtain ⟨n, hn⟩ := (hl.2 ls hls).2 fm hfm R (looks fr ls.live) (fun e vs => K e (binds (ls.oe e) vs ++ unks (wr c) (unks ls.live fr))) r hev
          refine wp_loop_rounds n ?_
          have rounds : ∀ (n : Nat) (vs : List SV) (Pr1 : PM) (w1 : World) (a1 : Act) (F1 : Nat → List Nat), iterK T E LT c ls n vs (fun e vs => K e (binds (ls.oe e) vs ++ unks (wr c) (unks ls.live fr))) = some r → RepF Lz Pr1 w1 (binds ls.live vs) a1.tmps F1 → PrOK Pr1 w1 →
              Step (fun t => if t ∈ ls.live then F t else []) Pr w a F1 Pr1 w1 a1 (fun d => d ∈ wr c) → Code.rounds P c Q n a1 w1 := by
            intro n
            induction n with
            | zero => intro vs Pr1 w1 a1 F1 h; simp [iterK] at h
            | succ n ih =>
              intro vs Pr1 w1 a1 F1 hit hF1 hP1 hst
              rw [rounds_succ]
              simp only [iterK, evRoundK] at hit
              refine evC_sound hC hE hDr hRg c hl.1 hit (JT.step (hJ.sub (F' := fun t => if t ∈ ls.live then F t else []) (fun t b hb => ⟨t, by by_cases q : t ∈ ls.live <;> simp [q] at hb; exact hb⟩)) hst) hF1 hP1 (fun d h => by rw [hst.size]; exact hd d (by simpa [wr] using h)) fun e fr' Pr' w' a' F' h1 h2 h3 h4 => ?_
              have hst' := hst.trans h4
              cases e with
              | normal => exact ih _ Pr' w' a' _ h1 (RepF_looks h2 ls.live) h3 ⟨hst'.ext, fun t b hb => by
                    by_cases q : t ∈ ls.live
                    · rw [if_pos q] at hb; exact hst'.sub t b hb
                    · rw [if_neg q] at hb; simp at hb, hst'.defers, hst'.size, hst'.same⟩
              | exit id => exact leave (.exit id) fr' Pr' w' a' F' h1 h2 h3 hst'
              | ret => exact leave .ret fr' Pr' w' a' F' h1 h2 h3 hst'
          exact rounds n _ Pr w a _ hn (RepF_looks hF ls.live) hP (Step.refl fun t b hb => ⟨t, hb⟩)
      · rename_i n0 _
        refine wp_loop_rounds (n0 + 1) ?_
        have rounds : ∀ (n : Nat) (fr1 : Fr) (Pr1 : PM) (w1 : World) (a1 : Act) (F1 : Nat → List Nat), unroll (fun fr K => evC T E LT c fr K) n fr1 K = some r → RepF Lz Pr1 w1 fr1 a1.tmps F1 → PrOK Pr1 w1 →
            Step F Pr w a F1 Pr1 w1 a1 (fun d => d ∈ wr c) → Code.rounds P c Q n a1 w1 := by
          intro n
          induction n with
          | zero => intro fr1 Pr1 w1 a1 F1 h; simp [unroll] at h
          | succ n ih =>
            intro fr1 Pr1 w1 a1 F1 h hF1 hP1 hst
            rw [rounds_succ]
            simp only [unroll] at h
            refine evC_sound hC hE hDr hRg c hl.1 h (hJ.step hst) hF1 hP1 (fun d h => by rw [hst.size]; exact hd d (by simpa [wr] using h)) fun e fr' Pr' w' a' F' h1 h2 h3 h4 => ?_
            have hst' := hst.trans h4
            cases e with
            | normal => exact ih fr' Pr' w' a' F' h1 h2 h3 hst'
            | exit id => exact hk (.exit id) fr' Pr' w' a' F' h1 h2 h3 (hst'.weaken fun t ht => by simpa [wr] using ht)
            | ret => exact hk .ret fr' Pr' w' a' F' h1 h2 h3 (hst'.weaken fun t ht => by simpa [wr] using ht)
        exact rounds (n0 + 1) fr Pr w a F hev hF hP (Step.refl fun t b hb => ⟨t, hb⟩)
    · cases hev
  | .rangeFunc .., _, R, K, r, fr, Pr, w, a, F, Q, hev, hJ, hF, hP, hd, hk => by simp [evC] at hev
  | .scope c, hl, R, K, r, fr, Pr, w, a, F, Q, hev, hJ, hF, hP, hd, hk => by
    simp only [evC] at hev
    simp only [LoopsOK] at hl
    refine wp_scope_straight (evC_sound hC hE hDr hRg c hl hev hJ hF hP hd fun e fr' Pr' w' a' F' h1 h2 h3 h4 => ?_)
    have := hk e fr' Pr' w' a' F' h1 h2 h3 h4
    cases e <;> exact this
  | .label l, _, R, K, r, fr, Pr, w, a, F, Q, hev, hJ, hF, hP, hd, hk => by
    simp only [evC] at hev
    exact wp_label (hk .normal fr Pr w a F hev hF hP (Step.refl fun t b hb => ⟨t, hb⟩))
  | .goto .., _, R, K, r, fr, Pr, w, a, F, Q, hev, hJ, hF, hP, hd, hk => by simp [evC] at hev
  | .refuse .., _, R, K, r, fr, Pr, w, a, F, Q, hev, hJ, hF, hP, hd, hk => by simp [evC] at hev
end
end Go.Proofs.Ytgcjhcefpkbheaa.Lg
end

section
namespace Go.Proofs.Ytgcjhcefpkbheaa.Lg
open Go
section
variable {R : Type} {T : Tab} {E : CallS}

theorem br_bind {A : Type} (b : Bool) (x y : Option A) (K : A → Option R) : (br b x y).bind K = br b (x.bind K) (y.bind K) := by cases b <;> rfl
theorem chk_bind {A : Type} (p : Prop) (x : Option A) (K : A → Option R) : (chk p x).bind K = chk p (x.bind K) := by unfold chk; split <;> rfl
theorem bif_bind {A : Type} (b : Bool) (x y : Option A) (K : A → Option R) : (bif b then x else y).bind K = bif b then x.bind K else y.bind K := by cases b <;> rfl
theorem withT_bind {A : Type} (t : Nat) (k : TI → Option A) (K : A → Option R) : (withT t T k).bind K = withT t T fun i => (k i).bind K := by unfold withT; split <;> rfl
theorem brP_bind {A : Type} (p : Prop) (x y : Option A) (K : A → Option R) : (brP p x y).bind K = brP p (x.bind K) (y.bind K) := by unfold brP; split <;> rfl
theorem Tr.run_bind {α A : Type} {k : α → Option A} {K : A → Option R} : ∀ t : Tr α, (t.run k).bind K = t.run fun x => (k x).bind K
  | .none => rfl
  | .leaf a => rfl
  | .br b x y => by simp only [Tr.run, br_bind, Tr.run_bind x, Tr.run_bind y]
  | .chk p x => by simp only [Tr.run, chk_bind, Tr.run_bind x]
  | .brP p x y => by simp only [Tr.run, brP_bind, Tr.run_bind x, Tr.run_bind y]
theorem binI_bind {A : Type} (op : BinOp) (k : IntKind) (a b : Int) (g : AV → Option A) (K : A → Option R) : (binI op k a b g).bind K = binI op k a b fun v => (g v).bind K := by
  cases op <;> simp only [binI, chk_bind] <;> rfl
theorem binS_bind {A : Type} (op : BinOp) (a b : List UInt8) (g : AV → Option A) (K : A → Option R) : (binS op a b g).bind K = binS op a b fun v => (g v).bind K := by
  cases op <;> simp only [binS, chk_bind] <;> rfl
theorem ite_bind' {A : Type} (p : Prop) [Decidable p] (x y : Option A) (K : A → Option R) : (if p then x else y).bind K = if p then x.bind K else y.bind K := by split <;> rfl
theorem binV_bind {A : Type} (xt : Nat) (op : BinOp) (x y : AV) (g : AV → Option A) (K : A → Option R) : (binV T xt op x y g).bind K = binV T xt op x y fun v => (g v).bind K := by
  unfold binV
  split
  · rw [ite_bind', binI_bind]; rfl
  · rw [binS_bind]
  · rw [withT_bind]
    congr 1; funext i
    split <;> rfl
  · rw [withT_bind]
    congr 1; funext i
    rw [bif_bind]
    congr 1
    split <;> rfl
  · rfl
theorem evSlice_bind {A : Type} (x : AV) (lo hi : Option AV) (g : AV → Option A) (K : A → Option R) : (evSlice x lo hi g).bind K = evSlice x lo hi fun v => (g v).bind K := by
  unfold evSlice
  split <;> first | rfl | rw [chk_bind]


theorem evStoreOwn_bind {A : Type} (i : TI) (s : Nat) (x : Operand) (fr : Fr) (g : Fr → Option A) (K : A → Option R) : (evStoreOwn i s x fr g).bind K = evStoreOwn i s x fr fun f => (g f).bind K := by
  unfold evStoreOwn
  split
  · rw [bif_bind, bif_bind]
    congr 1; congr 1
    split <;> rfl
  · rfl
theorem evOp_bind (o : Oper) (fr : Fr) (hp : pureOp o.op = true) (K : Fr → Option R) : (evOp0 T E.noO o fr some).bind K = evOp0 T E.noO o fr K := by
  cases ho : o.op with
  | move x =>
    simp only [evOp0, ho, CallS.noO]
    repeat' (first | rfl | (rw [withT_bind]; congr 1; funext i) | rw [bif_bind] | rw [br_bind] | rw [chk_bind] | rw [binV_bind] | rw [evSlice_bind] | rw [Tr.run_bind] | split)
    all_goals simp_all [withT_bind]
  | assign x =>
    simp only [evOp0, ho, CallS.noO]
    repeat' (first | rfl | (rw [withT_bind]; congr 1; funext i) | rw [bif_bind] | rw [br_bind] | rw [chk_bind] | rw [binV_bind] | rw [evSlice_bind] | rw [Tr.run_bind] | split)
    all_goals simp_all [withT_bind]
  | pick c a b =>
    simp only [evOp0, ho, CallS.noO]
    repeat' (first | rfl | (rw [withT_bind]; congr 1; funext i) | rw [bif_bind] | rw [br_bind] | rw [chk_bind] | rw [binV_bind] | rw [evSlice_bind] | rw [Tr.run_bind] | split)
    all_goals simp_all [withT_bind]
  | alloc t =>
    simp only [evOp0, ho, CallS.noO]
    repeat' (first | rfl | (rw [withT_bind]; congr 1; funext i) | rw [bif_bind] | rw [br_bind] | rw [chk_bind] | rw [binV_bind] | rw [evSlice_bind] | rw [Tr.run_bind] | split)
    all_goals simp_all [withT_bind]
  | box t x =>
    simp only [evOp0, ho, CallS.noO]
    repeat' (first | rfl | (rw [withT_bind]; congr 1; funext i) | rw [bif_bind] | rw [br_bind] | rw [chk_bind] | rw [binV_bind] | rw [evSlice_bind] | rw [Tr.run_bind] | split)
    all_goals simp_all [withT_bind]
  | build t ps =>
    simp only [evOp0, ho, CallS.noO]
    repeat' (first | rfl | (rw [withT_bind]; congr 1; funext i) | rw [bif_bind] | rw [br_bind] | rw [chk_bind] | rw [binV_bind] | rw [evSlice_bind] | rw [Tr.run_bind] | split)
    all_goals simp_all [withT_bind]
  | buildSlice t n ps =>
    simp only [evOp0, ho, CallS.noO]
    repeat' (first | rfl | (rw [withT_bind]; congr 1; funext i) | rw [bif_bind] | rw [br_bind] | rw [chk_bind] | rw [binV_bind] | rw [evSlice_bind] | rw [Tr.run_bind] | split)
    all_goals simp_all [withT_bind]
  | load t a =>
    simp only [evOp0, ho, CallS.noO]
    repeat' (first | rfl | (rw [withT_bind]; congr 1; funext i) | rw [bif_bind] | rw [br_bind] | rw [chk_bind] | rw [binV_bind] | rw [evSlice_bind] | rw [Tr.run_bind] | split)
    all_goals simp_all [withT_bind]
  | store t a x =>
    simp only [evOp0, ho, CallS.noO]
    rw [bif_bind]
    congr 1
    rw [withT_bind]; congr 1; funext i
    repeat' (first | rfl | rw [bif_bind] | rw [evStoreOwn_bind] | split)
    all_goals simp_all [bif_bind]
  | nilCheck x =>
    simp only [evOp0, ho, CallS.noO]
    repeat' (first | rfl | (rw [withT_bind]; congr 1; funext i) | rw [bif_bind] | rw [br_bind] | rw [chk_bind] | rw [binV_bind] | rw [evSlice_bind] | rw [Tr.run_bind] | split)
    all_goals simp_all [withT_bind]
  | binOp u t x y z =>
    have hy0 : isNilC y = false := by rw [ho] at hp; simpa [pureOp] using hp
    simp only [evOp0, ho, CallS.noO, hy0, cond_false]
    repeat' (first | rfl | (rw [withT_bind]; congr 1; funext i) | rw [bif_bind] | rw [br_bind] | rw [chk_bind] | rw [binV_bind] | rw [evSlice_bind] | rw [Tr.run_bind] | split)
    all_goals simp_all [withT_bind]
  | unOp u t x =>
    simp only [evOp0, ho, CallS.noO]
    repeat' (first | rfl | (rw [withT_bind]; congr 1; funext i) | rw [bif_bind] | rw [br_bind] | rw [chk_bind] | rw [binV_bind] | rw [evSlice_bind] | rw [Tr.run_bind] | split)
    all_goals simp_all [withT_bind]
  | convert u t x =>
    simp only [evOp0, ho, CallS.noO]
    repeat' (first | rfl | (rw [withT_bind]; congr 1; funext i) | rw [bif_bind] | rw [br_bind] | rw [chk_bind] | rw [binV_bind] | rw [evSlice_bind] | rw [Tr.run_bind] | split)
    all_goals simp_all [withT_bind]
  | slice t x lo hi mx => cases mx with
    | none =>
      simp only [evOp0, ho, CallS.noO]
      rw [withT_bind]; congr 1; funext i
      split
      · split
        · rw [bif_bind, chk_bind]; rfl
        · rw [bif_bind, chk_bind]; rfl
        · rfl
      · rfl
      · split
        · rw [bif_bind, evSlice_bind]; rfl
        · rfl
    | some m => simp [ho, pureOp] at hp
  | fieldAddr t x f =>
    simp only [evOp0, ho, CallS.noO]
    repeat' (first | rfl | (rw [withT_bind]; congr 1; funext i) | rw [bif_bind] | rw [br_bind] | rw [chk_bind] | rw [binV_bind] | rw [evSlice_bind] | rw [Tr.run_bind] | split)
    all_goals simp_all [withT_bind]
  | field t x f =>
    simp only [evOp0, ho, CallS.noO]
    repeat' (first | rfl | (rw [withT_bind]; congr 1; funext i) | rw [bif_bind] | rw [br_bind] | rw [chk_bind] | rw [binV_bind] | rw [evSlice_bind] | rw [Tr.run_bind] | split)
    all_goals simp_all [withT_bind]
  | indexAddr t x y =>
    simp only [evOp0, ho, CallS.noO]
    repeat' (first | rfl | (rw [withT_bind]; congr 1; funext i) | rw [bif_bind] | rw [br_bind] | rw [chk_bind] | rw [binV_bind] | rw [evSlice_bind] | rw [Tr.run_bind] | split)
    all_goals simp_all [withT_bind]
  | index t x y =>
    simp only [evOp0, ho, CallS.noO]
    repeat' (first | rfl | (rw [withT_bind]; congr 1; funext i) | rw [bif_bind] | rw [br_bind] | rw [chk_bind] | rw [binV_bind] | rw [evSlice_bind] | rw [Tr.run_bind] | split)
    all_goals simp_all [withT_bind]
  | lookup t x y ok =>
    simp only [evOp0, ho]
    rw [withT_bind]; congr 1; funext i
    split
    · rw [bif_bind]; congr 1
      split
      · split <;> rfl
      · rfl
    · rfl
    · split
      · split
        · rfl
        · rfl
      · rfl
  | extract x i =>
    simp only [evOp0, ho, CallS.noO]
    repeat' (first | rfl | (rw [withT_bind]; congr 1; funext i) | rw [bif_bind] | rw [br_bind] | rw [chk_bind] | rw [binV_bind] | rw [evSlice_bind] | rw [Tr.run_bind] | split)
    all_goals simp_all [withT_bind]
  | call c =>
    simp only [evOp0, ho, CallS.noO]
    simp only [ho, pureOp] at hp
    split
    · repeat' (first | rfl | (rw [withT_bind]; congr 1; funext i) | rw [bif_bind] | split)
      all_goals simp_all [withT_bind]
    · rename_i hc
      simp [hc] at hp
    · rename_i hc
      simp [hc] at hp
    · rename_i hc
      simp [hc] at hp
    · split
      · rw [Tr.run_bind]; rfl
      · split
        · rw [Tr.run_bind]
          congr 1; funext sv
          rw [bif_bind]; rfl
        · rfl
    · split
      · rw [Tr.run_bind]; rfl
      · rfl
    · rfl
  | _ => simp [ho, pureOp] at hp

theorem evD_bind {ops : List Oper} (o : Oper) (fr : Fr) (hp : pureOp o.op = true) (K : Fr → Option R) : (evD T E ops o fr some).bind K = evD T E ops o fr K := by
  unfold evD
  split
  · split <;> rfl
  · rw [bif_bind, evOp_bind o fr hp K]; rfl
  · rw [bif_bind, evOp_bind o fr hp K]; rfl
  · exact evOp_bind o fr hp K

theorem store_key {ops : List Oper} (o : Oper) (fr : Fr) {t : TypeId} {s : Nat} {x : Operand} (ho : o.op = .store t (.tmp s) x) (hp : plainStore fr s (rt ops s) x = true) (K : Fr → Option Fr)
    (hK : ∀ sv, K (dset (dstO ops o) sv fr) = some (dset (dstO ops o) sv fr)) : evOp0 T E.noO o fr K = evOp0 T E.noO o fr some := by
  simp only [evOp0, ho, CallS.noO]
  cases hd : o.dst with
  | some d => simp
  | none =>
    have e : dstO ops o = some (rt ops s) := by simp [dstO, hd, ho]
    rw [e] at hK
    simp only [dset] at hK
    simp only [plainStore, Bool.and_eq_true] at hp
    obtain ⟨h1, h2⟩ := hp
    split at h1
    · rename_i d off hr
      have hde : d = rt ops s := Nat.eq_of_beq_eq_true h1
      rw [← hde] at hK
      simp only [Option.isSome_none, cond_false, hr]
      congr 1; funext i
      split
      · simp at h2
      · rename_i y _
        have hg : grow fr y = none := by simpa using h2
        simp only [hg]
        split
        · cases Nat.blt _ _ <;> simp only [cond_true, cond_false, hK]
        · rfl
      · split
        · cases Nat.beq _ _
          · rfl
          · simp only [cond_true]
            cases Nat.ble _ _
            · rfl
            · simp only [cond_true, hK]
        · rfl
    · cases h1
/-- What is there of the frame stays. -/
theorem evD_shape {ops : List Oper} (o : Oper) (fr fr' : Fr) (hp : pureOp o.op = true) (h : evD T E ops o fr some = some fr') : ∃ sv, fr' = dset (dstO ops o) sv fr := by
  classical
  have key : ∀ (K : Fr → Option Fr), (∀ sv, K (dset (dstO ops o) sv fr) = some (dset (dstO ops o) sv fr)) → evD T E ops o fr K = evD T E ops o fr some := by
    intro K hK
    unfold evD
    split
    · have e : dstO ops o = o.dst := by rename_i ho; simp only [dstO, ho]; split <;> simp_all
      rw [e] at hK
      simp only [hK]
    · rename_i ho
      cases hp2 : plainStore fr _ _ _
      · rfl
      · simp only [cond_true]; exact store_key (ops := ops) o fr ho hp2 K hK
    · rename_i t x y ok ho
      cases hm : (mpaO fr x).isNone
      · rfl
      · simp only [cond_true]
        have hm : mpaO fr x = none := by simpa using hm
        have e : dstO ops o = o.dst := by simp only [dstO, ho]; split <;> simp_all
        rw [e] at hK
        simp only [evOp0, ho, hm, hK]
    · rename_i hna hns hnl
      have e : dstO ops o = o.dst := by
        simp only [dstO]
        cases hd : o.dst with
        | some d => rfl
        | none => rfl
      rw [e] at hK
      cases ho : o.op with
      | store t a x =>
        cases a with
        | tmp s => exact absurd ho (hns t s x)
        | _ => exfalso; simp [ho, pureOp] at hp
      | assign x =>
        cases x with
        | tmp s => exact absurd ho (hna s)
        | const c =>
          simp only [evOp0, ho, hK]
          repeat' split
          all_goals simp_all
        | _ => simp only [evOp0, ho, hK]
      | call c =>
        simp only [evOp0, ho, CallS.noO]
        simp only [ho, pureOp] at hp
        split
        · simp only [hK]
        · rename_i hc; simp [hc] at hp
        · rename_i hc; simp [hc] at hp
        · rename_i hc; simp [hc] at hp
        · simp only [hK]
        · simp only [hK]
        · rfl
      | binOp u t x y z =>
        have hy0 : isNilC y = false := by rw [ho] at hp; simpa [pureOp] using hp
        simp only [evOp0, ho, hK, hy0, cond_false]
      | lookup t x y ok => exact absurd ho (hnl t x y ok)
      | slice t x lo hi mx => cases mx with
        | none => simp only [evOp0, ho, hK]
        | some m => simp [ho, pureOp] at hp
      | _ => first | (exfalso; simp [ho, pureOp] at hp; done) | (simp only [evOp0, ho, hK])
  let G : Fr → Option Fr := fun f => if ∃ sv, f = dset (dstO ops o) sv fr then some f else none
  have hG : ∀ sv, G (dset (dstO ops o) sv fr) = some (dset (dstO ops o) sv fr) := fun sv => if_pos ⟨sv, rfl⟩
  have h2 := evD_bind (T := T) (E := E) (ops := ops) o fr hp G
  rw [key G hG, h] at h2
  simp only [Option.bind_some] at h2
  by_cases e : ∃ sv, fr' = dset (dstO ops o) sv fr
  · exact e
  · have : G fr' = none := if_neg e
    rw [this] at h2; cases h2

/-- From a region's operations in the order of the text: what each tells. -/
def dsts (ops l : List Oper) : List Nat := l.filterMap (dstO ops)
def selC (W : List Nat) (fr0 : Fr) (cur : Nat → SV) (l : List Nat) : Fr :=
  let ps := l.map fun t => (t, cur t)
  (ps.filter fun x => x.2.isAl) ++ (ps.filter fun x => !x.2.isAl) ++ (ps.flatMap fun x => rootOf x.2).filterMap fun d => bif W.any (fun y => Nat.beq y d) then none else some (d, lookL d fr0)
theorem selF_eq (W : List Nat) (fr0 env : Fr) (l : List Nat) : selF W fr0 env l = selC W fr0 (curOf fr0 env) l := rfl
def OpRun (T : Tab) (E : CallS) (ops : List Oper) (W V : List Nat) (fr0 : Fr) (fin cur : Nat → SV) (o : Oper) : Prop :=
  (o.guard = none ∨ ∃ j want d, o.guard = some (j, want) ∧ dstAt ops j = some d ∧ cur d = .val (.d (.bool want))) ∧
    ∃ fr', evD T E ops o (selC W fr0 cur (looked ops o)) some = some fr' ∧ ∀ d, (dstO ops o) = some d → fin d = san W V d fr'
def OpSkip (ops : List Oper) (fin cur : Nat → SV) (o : Oper) : Prop :=
  ∃ j want d, o.guard = some (j, want) ∧ dstAt ops j = some d ∧ (cur d = .und ∨ cur d = .val (.d (.bool (!want)))) ∧ ∀ d, (dstO ops o) = some d → fin d = .und
def OpFact (T : Tab) (E : CallS) (ops : List Oper) (W V : List Nat) (fr0 : Fr) (fin cur : Nat → SV) (o : Oper) : Prop :=
  OpRun T E ops W V fr0 fin cur o ∨ OpSkip ops fin cur o

theorem lookE_cons (t d : Nat) (sv : SV) (env : Fr) : lookE t ((d, sv) :: env) = if t = d then some sv else lookE t env := by
  simp only [lookE]
  by_cases e : d = t
  · subst e; simp
  · rw [beq_false e, cond_false, if_neg (Ne.symm e)]
theorem curOf_cons (fr0 env : Fr) (t d : Nat) (sv : SV) : curOf fr0 ((d, sv) :: env) t = if t = d then sv else curOf fr0 env t := by
  unfold curOf
  rw [lookE_cons]
  by_cases e : t = d <;> simp [e]
theorem curOf_shadow (fr0 env : Fr) (d : Nat) (sv : SV) (h : curOf fr0 env d = sv) : curOf fr0 ((d, sv) :: env) = curOf fr0 env := by
  funext t
  rw [curOf_cons]
  by_cases e : t = d
  · rw [if_pos e, e, h]
  · rw [if_neg e]
theorem dsts_append (ops l m : List Oper) : dsts ops (l ++ m) = dsts ops l ++ dsts ops m := by simp [dsts]

theorem evDraw_fact {ops : List Oper} {W V : List Nat} {fr0 : Fr} {K : Fr → Option R} {r : R} : ∀ (rest : List Oper) (env : Fr), (∀ o ∈ rest, pureOp o.op = true) → evDraw T E ops W V fr0 rest env K = some r →
    ∃ (H : Nat → Nat → SV) (envF : Fr), K envF = some r ∧ H 0 = curOf fr0 env ∧ curOf fr0 envF = H rest.length ∧
      ∀ i o, rest[i]? = some o → (∀ t, dstO ops o ≠ some t → H (i + 1) t = H i t) ∧ OpFact T E ops W V fr0 (H (i + 1)) (H i) o
  | [], env, _, hev => ⟨fun _ => curOf fr0 env, env, by simpa [evDraw] using hev, rfl, rfl, by simp⟩
  | o :: rest, env, hp, hev => by
    have hpo : pureOp o.op = true := hp o List.mem_cons_self
    -- what follows from what is told behind the operation
    have fol : ∀ env1 env', curOf fr0 env1 = curOf fr0 env → env' = (match (dstO ops o) with | some d => (d, curOf fr0 env' d) :: env1 | none => env1) → evDraw T E ops W V fr0 rest env' K = some r →
        OpFact T E ops W V fr0 (curOf fr0 env') (curOf fr0 env) o →
        ∃ (H : Nat → Nat → SV) (envF : Fr), K envF = some r ∧ H 0 = curOf fr0 env ∧ curOf fr0 envF = H (o :: rest).length ∧
          ∀ i o', (o :: rest)[i]? = some o' → (∀ t, dstO ops o' ≠ some t → H (i + 1) t = H i t) ∧ OpFact T E ops W V fr0 (H (i + 1)) (H i) o' := by
      intro env1 env' h1 h2 h3 h4
      have hsame : ∀ t, (dstO ops o) ≠ some t → curOf fr0 env' t = curOf fr0 env t := by
        intro t ht
        rw [h2]
        split
        · rename_i d hd
          rw [curOf_cons, if_neg (fun e => ht (by rw [hd, e])), h1]
        · rw [h1]
      obtain ⟨H, envF, q1, q2, q3, q4⟩ := evDraw_fact rest env' (fun o ho => hp o (List.mem_cons_of_mem _ ho)) h3
      refine ⟨fun i => match i with | 0 => curOf fr0 env | i + 1 => H i, envF, q1, rfl, q3, fun i o' hi => ?_⟩
      cases i with
      | zero =>
        simp at hi; subst hi
        simp only [q2]
        exact ⟨hsame, h4⟩
      | succ i => exact q4 i o' (by simpa using hi)
    have run : ∀ env1, curOf fr0 env1 = curOf fr0 env → (o.guard = none ∨ ∃ j want d, o.guard = some (j, want) ∧ dstAt ops j = some d ∧ curOf fr0 env d = .val (.d (.bool want))) →
        evD T E ops o (selF W fr0 env1 (looked ops o)) (fun fr' => evDraw T E ops W V fr0 rest (match (dstO ops o) with | some d => (d, san W V d fr') :: env1 | none => env1) K) = some r → _ := fun env1 h1 hg h => by
      rw [← evD_bind o _ hpo] at h
      cases hfr : evD T E ops o (selF W fr0 env1 (looked ops o)) some with
      | none => rw [hfr] at h; simp at h
      | some fr' =>
        rw [hfr] at h
        simp only [Option.bind_some] at h
        refine fol env1 _ h1 ?_ h (.inl ⟨hg, fr', by rw [← h1, ← selF_eq]; exact hfr, fun d hd => ?_⟩)
        · cases hd : (dstO ops o) with
          | none => rfl
          | some d => simp only; rw [curOf_cons, if_pos rfl]
        · simp only [hd]
          rw [curOf_cons, if_pos rfl]
    have skip : ∀ env1, curOf fr0 env1 = curOf fr0 env → (∃ j want d, o.guard = some (j, want) ∧ dstAt ops j = some d ∧ (curOf fr0 env d = .und ∨ curOf fr0 env d = .val (.d (.bool (!want))))) →
        evDraw T E ops W V fr0 rest (dset (dstO ops o) .und env1) K = some r → _ := fun env1 h1 hg h => by
      refine fol env1 _ h1 ?_ h (.inr ?_)
      · cases hd : (dstO ops o) with
        | none => rfl
        | some d => simp only [dset]; rw [curOf_cons, if_pos rfl]
      · obtain ⟨j, want, d, g1, g2, g3⟩ := hg
        refine ⟨j, want, d, g1, g2, g3, fun d' hd => ?_⟩
        simp only [hd, dset]
        rw [curOf_cons, if_pos rfl]
    simp only [evDraw] at hev
    split at hev
    · rename_i hg
      exact run env rfl (.inl hg) hev
    · rename_i j want hg
      split at hev
      · rename_i d hd
        split at hev
        · rename_i hc
          exact skip env rfl ⟨j, want, d, hg, hd, .inl hc⟩ hev
        · rename_i b hc
          rcases br_some hev with ⟨hb, h⟩ | ⟨hb, h⟩
          · subst hb
            cases want
            · simp only [cond_false] at h
              exact skip _ (curOf_shadow _ _ _ _ hc) ⟨j, _, d, hg, hd, .inr hc⟩ h
            · simp only [cond_true] at h
              exact run _ (curOf_shadow _ _ _ _ hc) (.inr ⟨j, _, d, hg, hd, hc⟩) h
          · subst hb
            cases want
            · simp only [cond_false] at h
              exact run _ (curOf_shadow _ _ _ _ hc) (.inr ⟨j, _, d, hg, hd, hc⟩) h
            · simp only [cond_true] at h
              exact skip _ (curOf_shadow _ _ _ _ hc) ⟨j, _, d, hg, hd, .inr hc⟩ h
        · cases hev
      · cases hev
end
end Go.Proofs.Ytgcjhcefpkbheaa.Lg
end

section
namespace Go.Proofs.Ytgcjhcefpkbheaa.Lg
open Go
variable {Lz : PM}
section
variable {P : Program} {T : Tab} {E : CallS}

/-- What is told of slots, without an order. -/
structure RepG (Lz : PM) (W V : List Nat) (Pr : PM) (w : World) (cur : Nat → SV) (ts : Array Value) (F : Nat → List Nat) : Prop where
  rep : ∀ t, RepS Lz Pr w (cur t) (ts.getD t undef) (F t)
  nodup : ∀ t, (F t).Nodup
  apart : ∀ t t', t ≠ t' → ∀ b ∈ F t, b ∉ F t'
  al0 : ∀ t d, cur t = .al d none → d ∉ W ∧ ts.getD t undef = ts.getD d undef
  al1 : ∀ t d o, cur t ≠ .al d (some o)
  ow : ∀ t d k, cur t = .ow d k → d ∉ W ∧ OWv k (ts.getD d undef) (ts.getD t undef)
  ref : ∀ t d o, cur t = .ref d o → d ∉ V ∧ ∃ b, ts.getD d undef = .pointer (some ⟨b, 0, none⟩) ∧ ts.getD t undef = .pointer (some ⟨b, o, none⟩)

theorem find_none_look (t : Nat) (fr : Fr) (pre : List (Nat × Bool)) (sv : SV) (rest : Fr) (h : find t fr [] = some (pre, sv, rest)) : look1 t fr = sv := find_look t fr [] pre sv rest h

open Classical in
/-- A frame that says no more. -/
theorem RepG.frame {W V : List Nat} {Pr : PM} {w : World} {cur : Nat → SV} {ts : Array Value} {F : Nat → List Nat} (h : RepG Lz W V Pr w cur ts F) (fr : Fr) (hl : ∀ t, look1 t fr = cur t ∨ look1 t fr = .unk) :
    RepF Lz Pr w fr ts (fun t => if look1 t fr = cur t then F t else []) := by
  refine ⟨fun t => ?_, fun t => ?_, fun t t' ne b hb => ?_, fun t pre d rest hf _ => ?_, fun t pre d o rest hf _ => ?_, fun t pre d k rest hf _ => ?_, fun t pre d o rest hf _ => ?_⟩
  · rcases hl t with e | e
    · simp only [if_pos e]; rw [e]; exact h.rep t
    · by_cases q : look1 t fr = cur t
      · simp only [if_pos q]; rw [q]; exact h.rep t
      · simp only [if_neg q]; rw [e]; simp [RepS]
  · by_cases q : look1 t fr = cur t
    · simp only [if_pos q]; exact h.nodup t
    · simp only [if_neg q]; exact List.nodup_nil
  · by_cases q : look1 t fr = cur t
    · simp only [if_pos q] at hb
      by_cases q' : look1 t' fr = cur t'
      · simp only [if_pos q']; exact h.apart t t' ne b hb
      · simp only [if_neg q']; simp
    · simp only [if_neg q] at hb; simp at hb
  · have := find_look t fr [] _ _ _ hf
    rcases hl t with e | e
    · exact (h.al0 t d (by rw [← e, this])).2
    · rw [this] at e; cases e
  · have := find_look t fr [] _ _ _ hf
    rcases hl t with e | e
    · exact absurd (by rw [← e, this]) (h.al1 t d o)
    · rw [this] at e; cases e
  · have := find_look t fr [] _ _ _ hf
    rcases hl t with e | e
    · exact (h.ow t d k (by rw [← e, this])).2
    · rw [this] at e; cases e
  · have := find_look t fr [] _ _ _ hf
    rcases hl t with e | e
    · exact (h.ref t d o (by rw [← e, this])).2
    · rw [this] at e; cases e

theorem RepG.start {W V : List Nat} {Pr : PM} {w : World} {fr : Fr} {ts : Array Value} {F : Nat → List Nat} (h : RepF Lz Pr w fr ts F) (hW : ∀ t d k, lookL t fr = .ow d k → d ∉ W) : RepG Lz W V Pr w (fun t => lookL t fr) ts F :=
  ⟨fun t => lookL_rep h t, h.nodup, h.apart, fun t d e => absurd e ((lookL_noal t fr).1 d none), fun t d o e => (lookL_noal t fr).1 d (some o) e, fun t d k e => ⟨hW t d k e, lookL_own h e⟩, fun t d o e => absurd e ((lookL_noal t fr).2 d o)⟩

theorem look1_append (t : Nat) (g : Fr) : ∀ fr : Fr, look1 t (fr ++ g) = match lookE t fr with | some sv => sv | none => look1 t g
  | [] => rfl
  | (x, sv) :: fr => by
    simp only [List.cons_append, look1, lookE]
    cases Nat.beq x t
    · simp only [cond_false]; exact look1_append t g fr
    · simp
theorem look1_mem (t : Nat) : ∀ fr : Fr, look1 t fr = .unk ∨ (t, look1 t fr) ∈ fr
  | [] => .inl rfl
  | (x, sv) :: fr => by
    simp only [look1]
    by_cases e : x = t
    · subst e; simp
    · rw [beq_false e, cond_false]
      exact (look1_mem t fr).imp id (fun h => List.mem_cons_of_mem _ h)
theorem look1_clean (t : Nat) (fr : Fr) : look1 t (clean fr) = lookL t fr ∨ look1 t (clean fr) = .unk := by
  rcases look1_mem t (clean fr) with h | h
  · exact .inr h
  · left
    have h2 : ∃ x ∈ fr, (x.1, lookL x.1 fr) = (t, look1 t (clean fr)) := List.mem_map.1 h
    obtain ⟨x, _, e⟩ := h2
    simp only [Prod.mk.injEq] at e
    rw [← e.2, e.1]
theorem look1_nobind (t : Nat) : ∀ fr : Fr, (∀ x ∈ fr, x.1 ≠ t) → look1 t fr = .unk
  | [], _ => rfl
  | (x, sv) :: fr, h => by
    simp only [look1]
    rw [beq_false (h (x, sv) List.mem_cons_self), cond_false]
    exact look1_nobind t fr fun y hy => h y (List.mem_cons_of_mem _ hy)
theorem look1_final (t : Nat) (fr0 env : Fr) : look1 t (env ++ clean fr0) = curOf fr0 env t ∨ look1 t (env ++ clean fr0) = .unk := by
  rw [look1_append]
  unfold curOf
  cases lookE t env with
  | some sv => exact .inl rfl
  | none => exact look1_clean t fr0

theorem selC_mem {W : List Nat} {fr0 : Fr} {cur : Nat → SV} {l : List Nat} {x : Nat × SV} (h : x ∈ selC W fr0 cur l) : (x.1 ∈ l ∧ x.2 = cur x.1) ∨ (x.1 ∉ W ∧ x.2 = lookL x.1 fr0) := by
  simp only [selC, List.mem_append, List.mem_filter, List.mem_map, List.mem_filterMap] at h
  rcases h with (⟨⟨t, ht, rfl⟩, _⟩ | ⟨⟨t, ht, rfl⟩, _⟩) | ⟨d, _, hd⟩
  · exact .inl ⟨ht, rfl⟩
  · exact .inl ⟨ht, rfl⟩
  · right
    cases hb : W.any (fun y => Nat.beq y d)
    · rw [hb, cond_false] at hd
      simp at hd; subst hd
      exact ⟨fun q => by rw [List.any_eq_false] at hb; exact hb d q (beq_true rfl), rfl⟩
    · rw [hb, cond_true] at hd; cases hd

theorem san_al {W V : List Nat} {d x : Nat} {o : Option Nat} {fr : Fr} (h : san W V d fr = .al x o) : x ∉ W ∧ look1 d fr = .al x none ∧ o = none := by
  unfold san at h
  split at h
  · rename_i y hy
    cases hb : W.any (fun z => Nat.beq z y)
    · rw [hb, cond_false] at h
      simp at h
      obtain ⟨rfl, rfl⟩ := h
      refine ⟨fun q => ?_, hy, rfl⟩
      rw [List.any_eq_false] at hb
      exact hb y q (beq_true rfl)
    · rw [hb] at h; simp at h
  · split at h <;> simp at h
  · rename_i y q _
    cases hb : (V.any (fun z => Nat.beq z y) || Nat.beq d y) <;> rw [hb] at h <;> simp at h
  · rename_i y q _
    cases hb : W.any (fun z => Nat.beq z y) <;> rw [hb] at h <;> simp at h
  · simp at h
  · rename_i h1 h2 h3 h4 h5
    cases o with
    | none => exact absurd h (h1 x)
    | some o => exact absurd h (h2 x o)

theorem san_sound {W V : List Nat} {Pr : PM} {w : World} {d : Nat} {sv : SV} {fr : Fr} {ts : Array Value} {F : Nat → List Nat} (h : RepF Lz Pr w ((d, sv) :: fr) ts F) (hd : d ∈ W) :
    ∃ B, (B = F d ∨ B = []) ∧ RepS Lz Pr w (san W V d ((d, sv) :: fr)) (ts.getD d undef) B ∧ (∀ x, san W V d ((d, sv) :: fr) = .al x none → x ∉ W ∧ ts.getD d undef = ts.getD x undef) ∧
      (∀ x o, san W V d ((d, sv) :: fr) ≠ .al x (some o)) ∧ (∀ x k, san W V d ((d, sv) :: fr) = .ow x k → x ∉ W ∧ OWv k (ts.getD x undef) (ts.getD d undef)) ∧ ∀ x o, san W V d ((d, sv) :: fr) = .ref x o → x ∉ V ∧ ∃ b, ts.getD x undef = .pointer (some ⟨b, 0, none⟩) ∧ ts.getD d undef = .pointer (some ⟨b, o, none⟩) := by
  have hr := h.rep d
  have hl : look1 d ((d, sv) :: fr) = sv := by simp [look1]
  have hf : find d ((d, sv) :: fr) [] = some ([(d, sv.isUpd)], sv, fr) := by simp [find]
  rw [hl] at hr
  unfold san
  rw [hl]
  split
  · rename_i x
    cases hb : W.any (fun y => Nat.beq y x)
    · simp only [cond_false]
      have hx : x ∉ W := fun q => by
        rw [List.any_eq_false] at hb
        exact hb x q (beq_true rfl)
      refine ⟨F d, .inl rfl, hr, fun y e => ?_, by simp, by simp, by simp⟩
      simp at e; subst e
      refine ⟨hx, h.alias0 d _ x _ hf ?_⟩
      simp only [bound]
      rw [beq_false (fun e : d = x => hx (by rw [← e]; exact hd))]; rfl
    · simp only [cond_true]
      exact ⟨[], .inr rfl, by simp [RepS], by simp, by simp, by simp, by simp⟩
  · rename_i x o
    split
    · rename_i v hv
      exact ⟨[], .inr rfl, by simp only [RepS]; exact ⟨rd_sound h hv, trivial⟩, by simp, by simp, by simp, by simp⟩
    · exact ⟨[], .inr rfl, by simp [RepS], by simp, by simp, by simp, by simp⟩
  · rename_i x o
    cases hb : (V.any (fun y => Nat.beq y x) || Nat.beq d x)
    · simp only [cond_false]
      rw [Bool.or_eq_false_iff] at hb
      obtain ⟨hb, hb2⟩ := hb
      have hx : x ∉ V := fun q => by
        rw [List.any_eq_false] at hb
        exact hb x q (beq_true rfl)
      refine ⟨F d, .inl rfl, hr, by simp, by simp, by simp, fun y o' e => ?_⟩
      simp at e; obtain ⟨rfl, rfl⟩ := e
      refine ⟨hx, h.ref d _ x o _ hf ?_⟩
      simp only [remade]
      rw [hb2]; rfl
    · simp only [cond_true]
      exact ⟨[], .inr rfl, by simp [RepS], by simp, by simp, by simp, by simp⟩
  · rename_i x k
    cases hb : W.any (fun y => Nat.beq y x)
    · simp only [cond_false]
      have hx : x ∉ W := fun q => by
        rw [List.any_eq_false] at hb
        exact hb x q (beq_true rfl)
      refine ⟨F d, .inl rfl, hr, by simp, by simp, fun y k' e => ?_, by simp⟩
      cases e
      refine ⟨hx, h.own d _ x k _ hf ?_⟩
      simp only [bound]
      rw [beq_false (fun e : d = x => hx (by rw [← e]; exact hd))]; rfl
    · simp only [cond_true]
      exact ⟨[], .inr rfl, by simp [RepS], by simp, by simp, by simp, by simp⟩
  · rename_i nw cs
    refine ⟨F d, .inl rfl, ?_, by simp, by simp, by simp, by simp⟩
    simp only [RepS] at hr ⊢
    exact hr
  · rename_i h1 h2 h3 h4 h5
    refine ⟨F d, .inl rfl, hr, fun x e => absurd e (h1 x), fun x o e => h2 x o e, fun x k e => absurd e (h4 x k), fun x o e => absurd e (h3 x o)⟩

theorem evD_sound {R : Type} {ops : List Oper} {K : Fr → Option R} {r : R} {o : Oper} {fr : Fr} {Pr : PM} {w : World} {a : Act} {F : Nat → List Nat} {next : Act → World → Prop} {Q : Exit → Act → World → Prop}
    (hC : Cx P T) (hE : SatE P E) (hev : evD T E ops o fr K = some r) (hJ : JT Lz P w F) (hF : RepF Lz Pr w fr a.tmps F) (hP : PrOK Pr w) (hd : DOK o a) (hn : Nx Lz K r o.dst Pr w a F next) : o.wp P a w next Q := by
  have hE' : SatE P E.noO := ⟨hE.1, fun _ _ h => by cases h⟩
  unfold evD at hev
  split at hev
  · rename_i s ho
    refine wp_value (v := a.eval (.tmp s)) (w' := w) (by simp [execOp, ho]) ?_
    show next (a.put o.dst (a.tmps.getD s undef)) w
    split at hev
    · rename_i v hv
      exact finV hF hP hd hn (rd_sound hF hv) hev
    · exact finU hF hP hd hn hev
  · replace hev := bif_some hev; obtain ⟨_, hev⟩ := hev
    exact evOp0_sound hC hE' hev hJ hF hP hd hn
  · replace hev := bif_some hev; obtain ⟨_, hev⟩ := hev
    exact evOp0_sound hC hE' hev hJ hF hP hd hn
  · exact evOp0_sound hC hE' hev hJ hF hP hd hn
theorem dstO_of {ops : List Oper} {o : Oper} {t : Nat} (h : o.dst = some t) : dstO ops o = some t := by simp [dstO, h]

open Classical in
theorem draw_step {ops : Array Oper} {W V : List Nat} {fr0 : Fr} {fin cur cur' : Nat → SV} {i : Nat} {o : Oper} {Pr : PM} {w : World} {a : Act} {F : Nat → List Nat} {next : Act → World → Prop} {Q : Exit → Act → World → Prop}
    (hC : Cx P T) (hE : SatE P E) (hi : ops[i]? = some o) (hp : pureOp o.op = true) (hfact : OpFact T E ops.toList W V fr0 fin cur' o) (hJ : JT Lz P w F) (hG : RepG Lz W V Pr w cur a.tmps F) (hP : PrOK Pr w)
    (hl : ∀ t ∈ looked ops.toList o, cur' t = cur t) (hW : ∀ d, d ∉ W → cur d = lookL d fr0) (hgs : o.guard = none ∨ dstO ops.toList o = o.dst) (hd : DOK o a) (hdW : ∀ d, (dstO ops.toList o) = some d → d ∈ W) (hdV : ∀ d, o.dst = some d → d ∈ V)
    (hn : ∀ Pr' w' a' F', RepG Lz W V Pr' w' (fun t => if (dstO ops.toList o) = some t then fin t else cur t) a'.tmps F' → PrOK Pr' w' → Step F Pr w a F' Pr' w' a' (fun d => o.dst = some d) → next a' w') :
    wpOp P ops Q i next a w := by
  unfold wpOp
  rw [hi]
  simp only
  have hgl : ∀ j want d, o.guard = some (j, want) → dstAt ops.toList j = some d → d ∈ looked ops.toList o := by
    intro j want d h1 h2
    simp only [looked, h1, List.mem_append]
    right
    unfold dstAt at h2
    rw [h2]; simp
  rcases hfact with ⟨hg, fr', hev, hfin⟩ | ⟨j, want, d, g1, g2, g3, g4⟩
  · have hwant : Region.wanted o (yielded ops a.tmps) = true := by
      rcases hg with hg | ⟨j, want, d, g1, g2, g3⟩
      · simp [Region.wanted, hg]
      · have := hG.rep d
        rw [← hl d (hgl j want d g1 g2), g3] at this
        simp only [RepS, RepA, RepD] at this
        simp [Region.wanted, g1, yielded_bool (by simpa [dstAt] using g2) this.1]
    rw [if_pos hwant]
    left
    obtain ⟨sv, hsv⟩ := evD_shape (ops := ops.toList) o _ fr' hp hev
    have hmem : ∀ x ∈ selC W fr0 cur' (looked ops.toList o), x.2 = cur x.1 := by
      intro x hx
      rcases selC_mem hx with ⟨h1, h2⟩ | ⟨h1, h3⟩
      · rw [h2, hl _ h1]
      · rw [h3, hW _ h1]
    have hlook : ∀ t, look1 t (selC W fr0 cur' (looked ops.toList o)) = cur t ∨ look1 t (selC W fr0 cur' (looked ops.toList o)) = .unk := by
      intro t
      rcases look1_mem t (selC W fr0 cur' (looked ops.toList o)) with h | h
      · exact .inr h
      · exact .inl (hmem _ h)
    have hF := hG.frame _ hlook
    refine evD_sound hC hE hev (hJ.sub fun t b hb => ⟨t, by by_cases q : look1 t (selC W fr0 cur' (looked ops.toList o)) = cur t <;> simp [q] at hb; exact hb⟩) hF hP hd fun v fr2 Pr' w' F2 hK h1 h2 h3 h4 => ?_
    simp only [Option.some.injEq] at hK
    subst hK
    have hkeep : ∀ t, look1 t (selC W fr0 cur' (looked ops.toList o)) ≠ cur t → Keeps (F t) Pr w Pr' w' := fun t ht => h3.keeps fun b hb => ⟨RepS.lt _ _ _ (hG.rep t) b hb, fun ⟨t', hb'⟩ => by
      by_cases q : look1 t' (selC W fr0 cur' (looked ops.toList o)) = cur t'
      · rw [if_pos q] at hb'
        exact hG.apart t t' (fun e => ht (e ▸ q)) b hb hb'
      · rw [if_neg q] at hb'; simp at hb'⟩
    have hold : ∀ t b, b ∈ F2 t → (∃ t', b ∈ F t' ∧ look1 t' (selC W fr0 cur' (looked ops.toList o)) = cur t') ∨ w.heap.size ≤ b := fun t b hb => (h4 t b hb).imp (fun ⟨t', q⟩ => by
      by_cases e : look1 t' (selC W fr0 cur' (looked ops.toList o)) = cur t'
      · rw [if_pos e] at q; exact ⟨t', q, e⟩
      · rw [if_neg e] at q; simp at q) id
    -- what was told stays told
    have hstay : ∀ t, (dstO ops.toList o) ≠ some t → RepS Lz Pr' w' (cur t) ((a.put o.dst v).tmps.getD t undef) (if look1 t (selC W fr0 cur' (looked ops.toList o)) = cur t then F2 t else F t) := by
      intro t ht
      by_cases e : look1 t (selC W fr0 cur' (looked ops.toList o)) = cur t
      · rw [if_pos e]
        have := h1.rep t
        rw [hsv] at this
        have e2 : look1 t (dset (dstO ops.toList o) sv (selC W fr0 cur' (looked ops.toList o))) = cur t := by
          cases hdst : (dstO ops.toList o) with
          | none => exact e
          | some d =>
            simp only [dset, look1]
            rw [beq_false (fun q => ht (by rw [hdst, q])), cond_false]; exact e
        rw [e2] at this
        exact this
      · rw [if_neg e, put_same a o.dst v t (fun q => ht (dstO_of q))]
        exact RepS.mono h3.le _ _ _ (hkeep t e) (hG.rep t)
    -- the new slot's own
    have hnew : ∃ B, ∀ d, (dstO ops.toList o) = some d → (B = F2 d ∨ B = []) ∧ RepS Lz Pr' w' (fin d) ((a.put o.dst v).tmps.getD d undef) B ∧ (∀ x, fin d = .al x none → x ∉ W ∧ (a.put o.dst v).tmps.getD d undef = (a.put o.dst v).tmps.getD x undef) ∧
        (∀ x q, fin d ≠ .al x (some q)) ∧ (∀ x k, fin d = .ow x k → x ∉ W ∧ OWv k ((a.put o.dst v).tmps.getD x undef) ((a.put o.dst v).tmps.getD d undef)) ∧ ∀ x q, fin d = .ref x q → x ∉ V ∧ ∃ b, (a.put o.dst v).tmps.getD x undef = .pointer (some ⟨b, 0, none⟩) ∧ (a.put o.dst v).tmps.getD d undef = .pointer (some ⟨b, q, none⟩) := by
      cases hdst : (dstO ops.toList o) with
      | none => exact ⟨[], by simp⟩
      | some d =>
        have := h1
        rw [hsv, hdst] at this
        obtain ⟨B, q⟩ := san_sound (W := W) (V := V) this (hdW d hdst)
        refine ⟨B, fun d' e => ?_⟩
        simp at e; subst e
        have e2 := hfin d hdst
        rw [hsv, hdst] at e2
        simp only [dset] at e2
        rw [e2]
        exact q
    obtain ⟨B, hnew⟩ := hnew
    let F' : Nat → List Nat := fun t => if (dstO ops.toList o) = some t then B else if look1 t (selC W fr0 cur' (looked ops.toList o)) = cur t then F2 t else F t
    have hF' : ∀ t b, b ∈ F' t → (b ∈ F2 t ∧ ((dstO ops.toList o) = some t ∨ look1 t (selC W fr0 cur' (looked ops.toList o)) = cur t)) ∨ (b ∈ F t ∧ look1 t (selC W fr0 cur' (looked ops.toList o)) ≠ cur t) := by
      intro t b hb
      by_cases e : (dstO ops.toList o) = some t
      · simp only [F', if_pos e] at hb
        rcases (hnew t e).1 with q | q
        · exact .inl ⟨q ▸ hb, .inl e⟩
        · rw [q] at hb; simp at hb
      · by_cases e2 : look1 t (selC W fr0 cur' (looked ops.toList o)) = cur t
        · simp only [F', if_neg e, if_pos e2] at hb; exact .inl ⟨hb, .inr e2⟩
        · simp only [F', if_neg e, if_neg e2] at hb; exact .inr ⟨hb, e2⟩
    have hx : ∀ t t' b, b ∈ F2 t → b ∈ F t' → look1 t' (selC W fr0 cur' (looked ops.toList o)) ≠ cur t' → False := by
      intro t t' b h5 h6 h7
      rcases hold t b h5 with ⟨t2, q1, q2⟩ | q
      · exact hG.apart t2 t' (fun e => h7 (e ▸ q2)) b q1 h6
      · have := RepS.lt _ _ _ (hG.rep t') b h6; omega
    refine hn Pr' w' _ F' ⟨fun t => ?_, fun t => ?_, fun t t' ne b hb hb' => ?_, fun t d e => ?_, fun t d q e => ?_, fun t d q e => ?_, fun t d q e => ?_⟩ h2
      ⟨h3.weaken fun b ⟨t, hb⟩ => ?_, fun t b hb => ?_, put_defers _ _ _, put_size _ _ _, fun t ht => put_same a o.dst v t fun q => ht q⟩
    · by_cases e : (dstO ops.toList o) = some t
      · simp only [F', if_pos e]; exact (hnew t e).2.1
      · simp only [F', if_neg e]; exact hstay t e
    · by_cases e : (dstO ops.toList o) = some t
      · simp only [F', if_pos e]
        rcases (hnew t e).1 with q | q
        · rw [q]; exact h1.nodup t
        · rw [q]; exact List.nodup_nil
      · simp only [F', if_neg e]
        by_cases e2 : look1 t (selC W fr0 cur' (looked ops.toList o)) = cur t
        · rw [if_pos e2]; exact h1.nodup t
        · rw [if_neg e2]; exact hG.nodup t
    · rcases hF' t b hb with ⟨p1, p2⟩ | ⟨p1, p2⟩ <;> rcases hF' t' b hb' with ⟨q1, q2⟩ | ⟨q1, q2⟩
      · exact h1.apart t t' ne b p1 q1
      · exact hx t t' b p1 q1 q2
      · exact hx t' t b q1 p1 p2
      · exact hG.apart t t' ne b p1 q1
    · by_cases e2 : (dstO ops.toList o) = some t
      · rw [if_pos e2] at e; exact (hnew t e2).2.2.1 d e
      · rw [if_neg e2] at e
        obtain ⟨q1, q2⟩ := hG.al0 t d e
        rw [put_same a o.dst v t (fun q => e2 (dstO_of q)), put_same a o.dst v d (fun q => q1 (hdW d (dstO_of q)))]
        exact ⟨q1, q2⟩
    · by_cases e2 : (dstO ops.toList o) = some t
      · rw [if_pos e2] at e; exact (hnew t e2).2.2.2.1 d q e
      · rw [if_neg e2] at e; exact hG.al1 t d q e
    · by_cases e2 : (dstO ops.toList o) = some t
      · rw [if_pos e2] at e; exact (hnew t e2).2.2.2.2.1 d q e
      · rw [if_neg e2] at e
        obtain ⟨q1, q2⟩ := hG.ow t d q e
        rw [put_same a o.dst v t (fun q => e2 (dstO_of q)), put_same a o.dst v d (fun q => q1 (hdW d (dstO_of q)))]
        exact ⟨q1, q2⟩
    · by_cases e2 : (dstO ops.toList o) = some t
      · rw [if_pos e2] at e; exact (hnew t e2).2.2.2.2.2 d q e
      · rw [if_neg e2] at e
        obtain ⟨q1, q2⟩ := hG.ref t d q e
        rw [put_same a o.dst v t (fun q => e2 (dstO_of q)), put_same a o.dst v d (fun q => q1 (hdV d q))]
        exact ⟨q1, q2⟩
    · by_cases q : look1 t (selC W fr0 cur' (looked ops.toList o)) = cur t
      · rw [if_pos q] at hb; exact ⟨t, hb⟩
      · rw [if_neg q] at hb; simp at hb
    · rcases hF' t b hb with ⟨p1, _⟩ | ⟨p1, _⟩
      · exact (hold t b p1).imp (fun ⟨t', q, _⟩ => ⟨t', q⟩) id
      · exact .inl ⟨t, p1⟩
  · have hwant : ¬ Region.wanted o (yielded ops a.tmps) = true := by
      have := hG.rep d
      rw [← hl d (hgl j want d g1 g2)] at this
      rcases g3 with g3 | g3
      · rw [g3] at this
        simp only [RepS] at this
        simp [Region.wanted, g1, yielded_und (by simpa [dstAt] using g2) this.1]
      · rw [g3] at this
        simp only [RepS, RepA, RepD] at this
        simp [Region.wanted, g1, yielded_bool (by simpa [dstAt] using g2) this.1]
    rw [if_neg hwant]
    let F' : Nat → List Nat := fun t => if (dstO ops.toList o) = some t then [] else F t
    have hF' : ∀ t b, b ∈ F' t → b ∈ F t := by
      intro t b hb
      by_cases e : (dstO ops.toList o) = some t
      · simp [F', e] at hb
      · simpa [F', e] using hb
    refine hn Pr w _ F' ⟨fun t => ?_, fun t => ?_, fun t t' ne b hb hb' => hG.apart t t' ne b (hF' t b hb) (hF' t' b hb'), fun t d' e => ?_, fun t d' q e => ?_, fun t d' q e => ?_, fun t d' q e => ?_⟩ hP
      ⟨Ext.refl _ _ _, fun t b hb => .inl ⟨t, hF' t b hb⟩, put_defers _ _ _, put_size _ _ _, fun t ht => put_same a o.dst undef t fun q => ht q⟩
    · by_cases e : (dstO ops.toList o) = some t
      · simp only [F', if_pos e]
        have e' : o.dst = some t := by rw [← hgs.resolve_left (by simp [g1])]; exact e
        rw [g4 t e, e']
        simp only [Act.put]
        rw [getD_set _ _ _ _ (hd t e'), if_pos rfl]
        simp [RepS]
      · simp only [F', if_neg e]
        rw [put_same a o.dst undef t (fun q => e (dstO_of q))]
        exact hG.rep t
    · by_cases e : (dstO ops.toList o) = some t
      · simp only [F', if_pos e]; exact List.nodup_nil
      · simp only [F', if_neg e]; exact hG.nodup t
    · by_cases e2 : (dstO ops.toList o) = some t
      · rw [if_pos e2, g4 t e2] at e; cases e
      · rw [if_neg e2] at e
        obtain ⟨q1, q2⟩ := hG.al0 t d' e
        rw [put_same a o.dst undef t (fun q => e2 (dstO_of q)), put_same a o.dst undef d' (fun q => q1 (hdW d' (dstO_of q)))]
        exact ⟨q1, q2⟩
    · by_cases e2 : (dstO ops.toList o) = some t
      · rw [if_pos e2, g4 t e2] at e; cases e
      · rw [if_neg e2] at e; exact hG.al1 t d' q e
    · by_cases e2 : (dstO ops.toList o) = some t
      · rw [if_pos e2, g4 t e2] at e; cases e
      · rw [if_neg e2] at e
        obtain ⟨q1, q2⟩ := hG.ow t d' q e
        rw [put_same a o.dst undef t (fun q => e2 (dstO_of q)), put_same a o.dst undef d' (fun q => q1 (hdW d' (dstO_of q)))]
        exact ⟨q1, q2⟩
    · by_cases e2 : (dstO ops.toList o) = some t
      · rw [if_pos e2, g4 t e2] at e; cases e
      · rw [if_neg e2] at e
        obtain ⟨q1, q2⟩ := hG.ref t d' q e
        rw [put_same a o.dst undef t (fun q => e2 (dstO_of q)), put_same a o.dst undef d' (fun q => q1 (hdV d' q))]
        exact ⟨q1, q2⟩

theorem depB_spec {ops : Array Oper} {i j : Nat} {o : Oper} (ho : ops[i]? = some o) (h : depB ops.toList i j = true) : ∃ e ∈ o.after, Region.binds .any e = true ∧ e.on = j := by
  unfold depB at h
  rw [Array.getElem?_toList, ho] at h
  simp only [List.any_eq_true, Bool.and_eq_true] at h
  obtain ⟨e, h1, h2, h3⟩ := h
  exact ⟨e, by simpa using h1, h2, Nat.eq_of_beq_eq_true h3⟩

theorem dsts_mem {ops l : List Oper} {t : Nat} : t ∈ dsts ops l ↔ ∃ (j : Nat) (o : Oper), l[j]? = some o ∧ dstO ops o = some t := by
  simp only [dsts, List.mem_filterMap]
  constructor
  · rintro ⟨o, h1, h2⟩
    obtain ⟨j, hj⟩ := List.getElem?_of_mem h1
    exact ⟨j, o, hj, h2⟩
  · rintro ⟨j, o, h1, h2⟩
    exact ⟨o, List.mem_of_getElem? h1, h2⟩
open Classical in
/-- What a slot is, of the operations that have run. -/
noncomputable def drawVal (ops : List Oper) (H : Nat → Nat → SV) (L : Nat → Bool) (t : Nat) : Nat → SV
  | 0 => H 0 t
  | n + 1 => if (∃ o, ops[n]? = some o ∧ dstO ops o = some t) ∧ L n = true then H (n + 1) t else drawVal ops H L t n
theorem drawVal_at {ops : List Oper} {H : Nat → Nat → SV} {L : Nat → Bool} {t i : Nat} (hs : ∀ i o, ops[i]? = some o → ∀ t, dstO ops o ≠ some t → H (i + 1) t = H i t)
    (h1 : ∀ j o, j < i → ops[j]? = some o → dstO ops o = some t → L j = true) (h2 : ∀ j o, i ≤ j → ops[j]? = some o → dstO ops o = some t → ¬ L j = true) : ∀ n, n ≤ ops.length → drawVal ops H L t n = H (min n i) t
  | 0, _ => by simp [drawVal]
  | n + 1, hn => by
    have ih := drawVal_at hs h1 h2 n (by omega)
    have ho : ops[n]? = some ops[n] := by simp
    simp only [drawVal]
    by_cases q : n < i
    · rw [show min (n + 1) i = n + 1 by omega]
      rw [show min n i = n by omega] at ih
      by_cases e : dstO ops ops[n] = some t
      · rw [if_pos ⟨⟨_, ho, e⟩, h1 n _ q ho e⟩]
      · rw [if_neg (fun ⟨⟨o, z, y⟩, _⟩ => e (by rw [ho] at z; simp at z; rw [z]; exact y)), ih, hs n _ ho t e]
    · rw [show min (n + 1) i = min n i by omega]
      rw [if_neg (fun ⟨⟨o, z, y⟩, x⟩ => h2 n o (by omega) z y x), ih]
theorem drawVal_none {ops : List Oper} {H : Nat → Nat → SV} {L : Nat → Bool} {t : Nat} (h : ∀ (j : Nat) (o : Oper), ops[j]? = some o → dstO ops o ≠ some t) : ∀ n, drawVal ops H L t n = H 0 t
  | 0 => rfl
  | n + 1 => by
    simp only [drawVal]
    rw [if_neg (fun ⟨⟨o, z, y⟩, _⟩ => h n o z y), drawVal_none h n]
theorem drawVal_off {ops : List Oper} {H : Nat → Nat → SV} {L L' : Nat → Bool} {t i : Nat} {o : Oper} (ho : ops[i]? = some o) (hd : dstO ops o ≠ some t) (h : ∀ j, j ≠ i → L' j = L j) : ∀ n, drawVal ops H L' t n = drawVal ops H L t n
  | 0 => rfl
  | n + 1 => by
    simp only [drawVal]
    rw [drawVal_off ho hd h n]
    by_cases e : n = i
    · subst e
      rw [if_neg (fun ⟨⟨o', z, y⟩, _⟩ => hd (by rw [ho] at z; simp at z; rw [z]; exact y)), if_neg (fun ⟨⟨o', z, y⟩, _⟩ => hd (by rw [ho] at z; simp at z; rw [z]; exact y))]
    · rw [h n e]
theorem countP_lt {p q : Nat → Bool} {i : Nat} (hp : p i = true) (hq : q i = false) (h : ∀ j, q j = true → p j = true) : ∀ l : List Nat, i ∈ l → l.countP q < l.countP p
  | [], hi => by simp at hi
  | x :: l, hi => by
    have hle : l.countP q ≤ l.countP p := List.countP_mono_left fun j _ => h j
    rw [List.countP_cons, List.countP_cons]
    rcases List.mem_cons.1 hi with e | e
    · subst e
      rw [hp, hq]; simp; omega
    · have := countP_lt hp hq h l e
      have := h x
      cases hqx : q x <;> cases hpx : p x <;> simp_all <;> omega

open Classical in
theorem owOK_spec {W : List Nat} {fr : Fr} (h : owOK W fr = true) {t d : Nat} {k : OA} (hl : lookL t fr = .ow d k) : d ∉ W := by
  intro q
  have hW : (W.any fun y => Nat.beq y d) = true := List.any_eq_true.2 ⟨d, q, beq_true rfl⟩
  have hl := lookL_ow hl
  unfold owOK at h
  rw [List.all_eq_true] at h
  have hmem : ∀ sv, look1 t fr = sv → sv ≠ .unk → (t, sv) ∈ fr := fun sv e hne => by
    rcases look1_mem t fr with q | q
    · exact absurd (e.symm.trans q) hne
    · rw [← e]; exact q
  unfold lookO at hl
  split at hl
  · rename_i pre d' k' rest hf
    cases hb : bound d' pre
    · rw [hb, cond_false] at hl
      cases hl
      have := h _ (hmem _ (find_look t fr [] _ _ _ hf) (by simp))
      simp [hW] at this
    · rw [hb, cond_true] at hl; cases hl
  · rename_i pre d' rest hf
    cases hb : bound d' pre
    · rw [hb, cond_false] at hl
      have hl0 := find_rest t d' fr pre _ rest hf hb
      split at hl
      · rename_i es l hlo
        cases hl
        have := h _ (hmem _ (find_look t fr [] _ _ _ hf) (by simp))
        simp [hW, hl0.trans hlo, SV.isOwn] at this
      · cases hl
    · rw [hb, cond_true] at hl; cases hl
  · cases hl
theorem drawSound (hC : Cx P T) (hE : SatE P E) (hm : P.follows .mixedOrders = true) : DrawSound P T E := by
  intro Lz R K r Q id ops fr0 Pr0 w0 a0 F0 hok how hev hJ hF hP hb hk
  simp only [drawOK, Bool.and_eq_true, List.all_eq_true] at hok
  obtain ⟨hpure0, hdep⟩ := hok
  have hpure : ∀ o ∈ ops.toList, pureOp o.op = true := fun o ho => (hpure0 o ho).1
  have hgst : ∀ o ∈ ops.toList, o.guard = none ∨ dstO ops.toList o = o.dst := by
    intro o ho
    have := (hpure0 o ho).2
    simp only [Bool.or_eq_true, Option.isNone_iff_eq_none] at this
    refine this.imp (fun q => q) fun q => ?_
    simp only [dstO]
    cases hd : o.dst with
    | some d => rfl
    | none =>
      simp only
      split
      · rename_i t s x h1; rw [h1] at q; cases q
      · rfl
  obtain ⟨H, envF, hK, hH0, hHn, hfact⟩ := evDraw_fact ops.toList [] (fun o ho => hpure o ho) hev
  have hstep : ∀ i o, ops.toList[i]? = some o → ∀ t, dstO ops.toList o ≠ some t → H (i + 1) t = H i t := fun i o h => (hfact i o h).1
  have hH0 : ∀ t, H 0 t = lookL t fr0 := fun t => by rw [hH0]; rfl
  -- what the text's dependencies come to
  have hat : ∀ (i : Nat) (o : Oper), ops[i]? = some o → (∀ e ∈ o.after, Region.binds .any e = true → e.on < i) ∧
      ∀ t ∈ (dstO ops.toList o).toList ++ looked ops.toList o, ∀ j o', ops[j]? = some o' → dstO ops.toList o' = some t → i = j ∨ (j < i ∧ depB ops.toList i j = true) ∨ (i < j ∧ depB ops.toList j i = true) := by
    intro i o hi
    have hlt : i < ops.size := (Array.getElem?_eq_some_iff.1 hi).1
    have := hdep i (List.mem_range.2 (by simpa using hlt))
    rw [Array.getElem?_toList, hi] at this
    simp only [Bool.and_eq_true, List.all_eq_true, List.mem_range, Bool.or_eq_true, Bool.not_eq_true'] at this
    obtain ⟨h1, h2⟩ := this
    refine ⟨fun e he hbe => ?_, fun t ht j o' hj hdt => ?_⟩
    · rcases h1 e (by simpa using he) with q | q
      · rw [hbe] at q; cases q
      · simpa using q
    · have hjlt : j < ops.size := (Array.getElem?_eq_some_iff.1 hj).1
      have := h2 t ht j (by simpa using hjlt)
      have e1 : dstOAt ops.toList j = some t := by simp [dstOAt, hj, hdt]
      simp only [e1, beq_true rfl, Bool.not_true, Bool.false_or, Bool.or_eq_true] at this
      rcases this with q | q
      · exact .inl (Nat.eq_of_beq_eq_true q)
      · cases hlt2 : Nat.blt j i
        · rw [hlt2, cond_false] at q
          by_cases e : i = j
          · exact .inl e
          · refine .inr (.inr ⟨?_, q⟩)
            have : ¬ j < i := fun q => by
              rw [show Nat.blt j i = true by rw [Nat.blt_eq]; exact q] at hlt2; cases hlt2
            omega
        · rw [hlt2, cond_true] at q
          exact .inr (.inl ⟨by simpa using hlt2, q⟩)
  let W := dsts ops.toList ops.toList
  let V := ops.toList.filterMap (·.dst)
  let cur : Array Bool → Nat → SV := fun L t => drawVal ops.toList H (fun j => L.getD j false) t ops.toList.length
  have hcurW : ∀ L d, d ∉ W → cur L d = lookL d fr0 := fun L d hd => (drawVal_none (fun j o h1 h2 => hd (dsts_mem.2 ⟨j, o, h1, h2⟩)) _).trans (hH0 d)
  -- any order
  have any : ∀ (n : Nat) (L : Array Bool) (Pr : PM) (w : World) (a : Act) (F : Nat → List Nat), RepG Lz W V Pr w (cur L) a.tmps F → PrOK Pr w → Step F0 Pr0 w0 a0 F Pr w a (fun d => d ∈ ops.toList.filterMap (·.dst)) →
      L.size = ops.size → (List.range ops.size).countP (fun j => !L.getD j true) ≤ n → (∀ (i : Nat) (o : Oper), ops[i]? = some o → L.getD i false = true → ∀ e ∈ o.after, Region.binds .any e = true → L.getD e.on false = true) →
      wpAny P .any ops Q n L a w := by
    intro n
    -- none left
    have last : ∀ (L : Array Bool) (Pr : PM) (w : World) (a : Act) (F : Nat → List Nat), RepG Lz W V Pr w (cur L) a.tmps F → PrOK Pr w → Step F0 Pr0 w0 a0 F Pr w a (fun d => d ∈ ops.toList.filterMap (·.dst)) → (∀ i, i < ops.size → L.getD i false = true) → Q .normal a w := by
      intro L Pr w a F h1 h2 h3 h4
      have hcur : cur L = curOf fr0 envF := by
        funext t
        have := drawVal_at (ops := ops.toList) (H := H) (L := fun j => L.getD j false) (t := t) (i := ops.toList.length) hstep (fun j o hj _ _ => h4 j (by simpa using hj)) (fun j o hj h => by rw [List.getElem?_eq_none hj] at h; cases h) ops.toList.length (Nat.le_refl _)
        rw [Nat.min_self] at this
        rw [hHn]; exact this
      rw [hcur] at h1
      have := h1.frame (envF ++ clean fr0) fun t => look1_final t fr0 envF
      refine hk _ Pr w a _ hK this h2 ⟨h3.ext, fun t b hb => ?_, h3.defers, h3.size, h3.same⟩
      by_cases q : look1 t (envF ++ clean fr0) = curOf fr0 envF t
      · simp only [if_pos q] at hb; exact h3.sub t b hb
      · simp only [if_neg q] at hb; simp at hb
    have least : ∀ (L : Array Bool), L.size = ops.size → Region.ready .any ops L = [] → ∀ i, i < ops.size → L.getD i false = true := by
      intro L hs hr i
      induction i using Nat.strongRecOn with
      | _ i ih =>
        intro hlt
        by_cases e : L.getD i false = true
        · exact e
        · exfalso
          have : i ∈ Region.ready .any ops L := by
            rw [mem_ready]
            refine ⟨?_, ops[i], by simp [hlt], fun e' he hbe => ?_⟩
            · have : i < L.size := by omega
              simp [this] at e ⊢
              exact e
            · have := (hat i ops[i] (by simp [hlt])).1 e' he hbe
              exact ih e'.on this (by omega)
          rw [hr] at this; cases this
    induction n with
    | zero =>
      intro L Pr w a F h1 h2 h3 hs hc hcl
      have hall : ∀ i, i < ops.size → L.getD i true = true := by
        intro i hi
        have := List.countP_eq_zero.1 (Nat.le_zero.1 hc) i (List.mem_range.2 hi)
        simpa using this
      have hall' : ∀ i, i < ops.size → L.getD i false = true := by
        intro i hi
        have := hall i hi
        have hi' : i < L.size := by omega
        simpa [hi'] using this
      refine ⟨?_, last L Pr w a F h1 h2 h3 hall'⟩
      rw [List.eq_nil_iff_forall_not_mem]
      intro i hi
      rw [mem_ready] at hi
      obtain ⟨q1, o, q2, _⟩ := hi
      rw [hall i (Array.getElem?_eq_some_iff.1 q2).1] at q1
      cases q1
    | succ n ih =>
      intro L Pr w a F h1 h2 h3 hs hc hcl
      refine ⟨fun hr => last L Pr w a F h1 h2 h3 (least L hs hr), fun i hi => ?_⟩
      rw [mem_ready] at hi
      obtain ⟨hun, o, ho, hafter⟩ := hi
      have hlt : i < ops.size := (Array.getElem?_eq_some_iff.1 ho).1
      have hun' : ¬ L.getD i false = true := by
        have hi' : i < L.size := by omega
        simp [hi'] at hun ⊢
        exact hun
      have hmem : o ∈ ops.toList := by simpa using Array.mem_of_getElem? ho
      have hi' : i < L.size := by omega
      have before : ∀ t ∈ (dstO ops.toList o).toList ++ looked ops.toList o, ∀ j o', j < i → ops.toList[j]? = some o' → dstO ops.toList o' = some t → L.getD j false = true := by
        intro t ht j o' hj q1 q2
        rcases (hat i o ho).2 t ht j o' (by simpa using q1) q2 with e | ⟨_, e⟩ | ⟨e, _⟩
        · omega
        · obtain ⟨e', p1, p2, p3⟩ := depB_spec ho e
          rw [← p3]; exact hafter e' p1 p2
        · omega
      have behind : ∀ t ∈ (dstO ops.toList o).toList ++ looked ops.toList o, ∀ j o', i ≤ j → ops.toList[j]? = some o' → dstO ops.toList o' = some t → ¬ L.getD j false = true := by
        intro t ht j o' hj q1 q2 q3
        have q1' : ops[j]? = some o' := by simpa using q1
        rcases (hat i o ho).2 t ht j o' q1' q2 with e | ⟨e, _⟩ | ⟨_, e⟩
        · exact hun' (e ▸ q3)
        · omega
        · obtain ⟨e', p1, p2, p3⟩ := depB_spec q1' e
          have := hcl j o' q1' q3 e' p1 p2
          rw [p3] at this
          exact hun' this
      refine draw_step (fr0 := fr0) (fin := H (i + 1)) (cur' := H i) hC hE ho (hpure o hmem) (hfact i o (by simpa using ho)).2 (hJ.step h3) h1 h2 ?_ (hcurW L) (hgst o hmem) (fun d hd => by rw [h3.size]; exact hb o hmem d hd) (fun d hd => dsts_mem.2 ⟨i, o, by simpa using ho, hd⟩) (fun d hd => List.mem_filterMap.2 ⟨o, hmem, hd⟩) ?_
      · intro t ht
        have ht' := List.mem_append_right (dstO ops.toList o).toList ht
        have := drawVal_at (ops := ops.toList) (H := H) (L := fun j => L.getD j false) (t := t) (i := i) hstep (before t ht') (behind t ht') ops.toList.length (Nat.le_refl _)
        rw [show min ops.toList.length i = i by simp; omega] at this
        exact this.symm
      · intro Pr' w' a' F' g1 g2 g3
        have hset : ∀ j, (L.setIfInBounds i true).getD j false = (if j = i then true else L.getD j false) := by
          intro j
          by_cases e : j = i
          · subst e; simp [hi']
          · rw [if_neg e]; exact getD_set_ne false (Ne.symm e)
        have hcur : (fun t => if dstO ops.toList o = some t then H (i + 1) t else cur L t) = cur (L.setIfInBounds i true) := by
          funext t
          by_cases e : dstO ops.toList o = some t
          · rw [if_pos e]
            have ht' : t ∈ (dstO ops.toList o).toList ++ looked ops.toList o := List.mem_append_left _ (by rw [e]; simp)
            have := drawVal_at (ops := ops.toList) (H := H) (L := fun j => (L.setIfInBounds i true).getD j false) (t := t) (i := i + 1) hstep
              (fun j o' hj q1 q2 => by
                simp only [hset]
                by_cases z : j = i
                · rw [if_pos z]
                · rw [if_neg z]; exact before t ht' j o' (by omega) q1 q2)
              (fun j o' hj q1 q2 => by
                simp only [hset]
                rw [if_neg (by omega)]
                exact behind t ht' j o' (by omega) q1 q2) ops.toList.length (Nat.le_refl _)
            rw [show min ops.toList.length (i + 1) = i + 1 by simp; omega] at this
            exact this.symm
          · rw [if_neg e]
            exact (drawVal_off (by simpa using ho) e (fun j hj => by simp only [hset]; rw [if_neg hj]) _).symm
        rw [hcur] at g1
        refine ih _ Pr' w' a' F' g1 g2 (h3.trans (g3.weaken fun d hd => List.mem_filterMap.2 ⟨o, hmem, hd⟩)) (by simp [hs]) ?_ ?_
        · have hlt2 : (List.range ops.size).countP (fun j => !(L.setIfInBounds i true).getD j true) < (List.range ops.size).countP (fun j => !L.getD j true) := by
            refine countP_lt (i := i) (by simp [hun]) (by have hi' : i < L.size := by omega
                                                          simp [hi']) (fun j hj => ?_) _ (List.mem_range.2 hlt)
            by_cases z : j = i
            · subst z; simp [hun]
            · rw [getD_set_ne true (Ne.symm z)] at hj; exact hj
          omega
        · intro j o' q1 q2 e he hbe
          rw [hset] at q2 ⊢
          by_cases z : e.on = i
          · rw [if_pos z]
          · rw [if_neg z]
            by_cases y : j = i
            · subst y; rw [ho] at q1; simp at q1; subst q1; exact hafter e he hbe
            · rw [if_neg y] at q2; exact hcl j o' q1 q2 e he hbe
  refine wp_region_any hm ?_
  refine any ops.size (Array.replicate ops.size false) Pr0 _ a0 F0 ?_ ?_ ?_ (by simp) ?_ ?_
  · have h0 : cur (Array.replicate ops.size false) = fun t => lookL t fr0 := by
      funext t
      have := drawVal_at (ops := ops.toList) (H := H) (L := fun j => (Array.replicate ops.size false).getD j false) (t := t) (i := 0) hstep (fun j _ hj => by omega) (fun j o' _ q1 _ => by
        have hlt : j < ops.size := (Array.getElem?_eq_some_iff.1 (show ops[j]? = some o' by simpa using q1)).1
        simp [hlt]) ops.toList.length (Nat.le_refl _)
      rw [Nat.min_zero] at this
      exact this.trans (hH0 t)
    rw [h0]
    exact RepG.start (hF.mono (PrLe.refl _) fun t b _ => ⟨rfl, fun _ => rfl⟩) fun t d k h => owOK_spec how h
  · exact hP
  · exact ⟨⟨rfl, rfl, rfl, Nat.le_refl _, PrLe.refl _, fun _ _ _ => ⟨rfl, fun _ => rfl⟩, Nat.le_succ _⟩, fun t b hb => .inl ⟨t, hb⟩, rfl, rfl, fun _ _ => rfl⟩
  · have := List.countP_le_length (l := List.range ops.size) (p := fun j => !(Array.replicate ops.size false).getD j true)
    simpa using this
  · intro i o hi h
    have hlt : i < ops.size := (Array.getElem?_eq_some_iff.1 hi).1
    simp [hlt] at h
end
end Go.Proofs.Ytgcjhcefpkbheaa.Lg
end
