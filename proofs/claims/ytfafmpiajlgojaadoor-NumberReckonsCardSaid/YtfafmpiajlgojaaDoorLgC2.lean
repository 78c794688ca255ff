/- Part of a proof of the seat's statements: no statement by itself. -/
import Derived.Test.YtfafmpiajlgojaaDoorLgC1
import Derived.LoopN
namespace Go.Proofs.YtfafmpiajlgojaaDoor.Lg
open Go

/-- From a state to one behind: slots outside D are as they were. -/
structure Step (F : Nat → List Nat) (Pr : PM) (w : World) (a : Act) (F' : Nat → List Nat) (Pr' : PM) (w' : World) (a' : Act) (D : Nat → Prop) : Prop where
  ext : Ext (fun b => ∃ t, b ∈ F t) Pr w Pr' w'
  sub : ∀ t b, b ∈ F' t → (∃ t', b ∈ F t') ∨ w.heap.size ≤ b
  defers : a'.defers = a.defers
  size : a'.tmps.size = a.tmps.size
  same : ∀ t, ¬ D t → a'.tmps.getD t undef = a.tmps.getD t undef

theorem Step.refl {F F' : Nat → List Nat} {Pr : PM} {w : World} {a : Act} {D : Nat → Prop} (h : ∀ t b, b ∈ F' t → ∃ t', b ∈ F t') : Step F Pr w a F' Pr w a D :=
  ⟨Ext.refl _ _ _, fun t b hb => .inl (h t b hb), rfl, rfl, fun _ _ => rfl⟩
theorem Step.trans {F F' F'' : Nat → List Nat} {Pr Pr' Pr'' : PM} {w w' w'' : World} {a a' a'' : Act} {D : Nat → Prop} (h : Step F Pr w a F' Pr' w' a' D) (k : Step F' Pr' w' a' F'' Pr'' w'' a'' D) : Step F Pr w a F'' Pr'' w'' a'' D :=
  ⟨h.ext.trans k.ext (fun b ⟨t, hb⟩ => h.sub t b hb), fun t b hb => by
    rcases k.sub t b hb with ⟨t', hb⟩ | hb
    · exact h.sub t' b hb
    · exact .inr (Nat.le_trans h.ext.size hb), k.defers.trans h.defers, k.size.trans h.size, fun t ht => (k.same t ht).trans (h.same t ht)⟩
theorem Step.weaken {F F' : Nat → List Nat} {Pr Pr' : PM} {w w' : World} {a a' : Act} {D D' : Nat → Prop} (h : Step F Pr w a F' Pr' w' a' D) (hd : ∀ t, D t → D' t) : Step F Pr w a F' Pr' w' a' D' :=
  ⟨h.ext, h.sub, h.defers, h.size, fun t ht => h.same t (fun q => ht (hd t q))⟩

theorem JT.step {P : Program} {F F' : Nat → List Nat} {Pr Pr' : PM} {w w' : World} {a a' : Act} {D : Nat → Prop} (h : JT P w F) (k : Step F Pr w a F' Pr' w' a' D) : JT P w' F' := h.ext k.ext k.sub

theorem put_size (a : Act) (d : Option Tmp) (v : Value) : (a.put d v).tmps.size = a.tmps.size := by cases d <;> simp [Act.put]
theorem put_defers (a : Act) (d : Option Tmp) (v : Value) : (a.put d v).defers = a.defers := by cases d <;> rfl
theorem put_same (a : Act) (d : Option Tmp) (v : Value) (t : Nat) (h : d ≠ some t) : (a.put d v).tmps.getD t undef = a.tmps.getD t undef := by
  cases d with
  | none => rfl
  | some d =>
    have : d ≠ t := fun e => h (by rw [e])
    simp only [Act.put, Array.getD_eq_getD_getElem?, Array.getElem?_setIfInBounds]
    rw [if_neg this]

section
variable {P : Program} {T : Tab} {E : CallE} {LT : Nat → Option LoopS}

theorem yielded_bool {ops : Array Oper} {ts : Array Value} {j d : Nat} {b : Bool} (hd : (ops[j]?).bind (·.dst) = some d) (hv : ts.getD d undef = .bool b) : yielded ops ts j = some b := by
  have : ts[d]? = some (.bool b) := by
    rw [Array.getD_eq_getD_getElem?] at hv
    cases h : ts[d]? with
    | none => rw [h] at hv; simp [undef] at hv
    | some v => rw [h] at hv; simp at hv; rw [hv]
  simp [yielded, hd, this]
theorem yielded_und {ops : Array Oper} {ts : Array Value} {j d : Nat} (hd : (ops[j]?).bind (·.dst) = some d) (hv : ts.getD d undef = undef) : yielded ops ts j = none := by
  unfold yielded
  rw [hd]
  simp only [Option.bind_some]
  rw [Array.getD_eq_getD_getElem?] at hv
  cases h : ts[d]? with
  | none => rfl
  | some v => rw [h] at hv; simp at hv; rw [hv]; rfl

theorem evOps_sound {R : Type} {K : Fr → Option R} {r : R} {Q : Exit → Act → World → Prop} (hC : Cx P T) (hE : SatE P E) {ops : Array Oper} {D : Nat → Prop} : ∀ (rest : List Oper) (fr : Fr) (Pr : PM) (w : World) (a : Act) (F : Nat → List Nat),
    evOps T E ops.toList rest fr K = some r → JT P w F → RepF Pr w fr a.tmps F → PrOK Pr w → (∀ o ∈ rest, ∀ d, o.dst = some d → d < a.tmps.size ∧ D d) →
    (∀ fr' Pr' w' a' F', K fr' = some r → RepF Pr' w' fr' a'.tmps F' → PrOK Pr' w' → Step F Pr w a F' Pr' w' a' D → Q .normal a' w') → wpList P ops Q rest a w
  | [], fr, Pr, w, a, F, hev, hJ, hF, hP, _, hk => hk fr Pr w a F hev hF hP (Step.refl fun t b hb => ⟨t, hb⟩)
  | o :: rest, fr, Pr, w, a, F, hev, hJ, hF, hP, hd, hk => by
    have hdo : DOK o a := fun d h => (hd o List.mem_cons_self d h).1
    have hDo : ∀ d, o.dst = some d → D d := fun d h => (hd o List.mem_cons_self d h).2
    -- the operation is carried out, from a frame that says no more
    have run : ∀ (fr1 : Fr) (F1 : Nat → List Nat), RepF Pr w fr1 a.tmps F1 → (∀ t b, b ∈ F1 t → b ∈ F t) → evOp T E o fr1 (fun fr' => evOps T E ops.toList rest fr' K) = some r → o.wp P a w (wpList P ops Q rest) Q := by
      intro fr1 F1 hF1 hsub hev1
      refine evOp_sound hC hE hev1 (hJ.sub fun t b hb => ⟨t, hsub t b hb⟩) hF1 hP hdo fun v fr' Pr' w' F' hK hF' hP' hx hs => ?_
      have hst : Step F Pr w a F' Pr' w' (a.put o.dst v) D :=
        ⟨hx.weaken fun b ⟨t, hb⟩ => ⟨t, hsub t b hb⟩, fun t b hb => (hs t b hb).imp (fun ⟨t', q⟩ => ⟨t', hsub t' b q⟩) id, put_defers _ _ _, put_size _ _ _, fun t ht => put_same a o.dst v t fun q => ht (hDo t q)⟩
      exact evOps_sound hC hE rest fr' Pr' w' _ F' hK (hJ.step hst) hF' hP' (fun o' ho' d hd' => by rw [put_size]; exact hd o' (List.mem_cons_of_mem _ ho') d hd')
        fun fr2 Pr2 w2 a2 F2 q1 q2 q3 q4 => hk fr2 Pr2 w2 a2 F2 q1 q2 q3 (hst.trans q4)
    -- it is skipped
    have skip : ∀ (fr1 : Fr) (F1 : Nat → List Nat), RepF Pr w fr1 a.tmps F1 → (∀ t b, b ∈ F1 t → b ∈ F t) → evOps T E ops.toList rest (dset o.dst .und fr1) K = some r → wpList P ops Q rest (a.put o.dst undef) w := by
      intro fr1 F1 hF1 hsub hev1
      have hF2 : ∃ F2, RepF Pr w (dset o.dst .und fr1) (a.put o.dst undef).tmps F2 ∧ ∀ t b, b ∈ F2 t → b ∈ F1 t := by
        cases hdst : o.dst with
        | none => exact ⟨F1, hF1, fun _ _ h => h⟩
        | some d =>
          have hlt := hdo d hdst
          refine ⟨_, hF1.plain (d := d) (ts' := a.tmps.setIfInBounds d undef) (sv := .und) (fun t hne => by rw [getD_set _ _ _ _ hlt, if_neg hne]) (by rw [getD_set _ _ _ _ hlt, if_pos rfl]; simp [RepS]) rfl (by simp) (by simp), ?_⟩
          intro t b hb
          by_cases e : t = d
          · simp [e] at hb
          · simpa [e] using hb
      obtain ⟨F2, hF2, hsub2⟩ := hF2
      have hst : Step F Pr w a F2 Pr w (a.put o.dst undef) D :=
        ⟨Ext.refl _ _ _, fun t b hb => .inl ⟨t, hsub t b (hsub2 t b hb)⟩, put_defers _ _ _, put_size _ _ _, fun t ht => put_same a o.dst undef t fun q => ht (hDo t q)⟩
      exact evOps_sound hC hE rest _ Pr w _ F2 hev1 (hJ.step hst) hF2 hP (fun o' ho' d hd' => by rw [put_size]; exact hd o' (List.mem_cons_of_mem _ ho') d hd')
        fun fr3 Pr3 w3 a3 F3 q1 q2 q3 q4 => hk fr3 Pr3 w3 a3 F3 q1 q2 q3 (hst.trans q4)
    simp only [evOps] at hev
    simp only [wpList]
    split at hev
    · rename_i hg
      rw [if_pos (by simp [Region.wanted, hg])]
      exact .inl (run fr F hF (fun _ _ h => h) hev)
    · rename_i j want hg
      split at hev
      · rename_i d hdst
        have hdst' : (ops[j]?).bind (·.dst) = some d := by simpa using hdst
        have hd1 := rdSV_sound hF d
        obtain ⟨B, _, hrep⟩ := hd1
        split at hev
        · rename_i hu
          rw [hu] at hrep
          simp only [RepS] at hrep
          rw [if_neg (by simp [Region.wanted, hg, yielded_und hdst' hrep.1])]
          exact skip fr F hF (fun _ _ h => h) hev
        · rename_i b hb
          rw [hb] at hrep
          simp only [RepS, RepA, RepD] at hrep
          have hy := yielded_bool hdst' hrep.1
          have hsh : ∀ b', b = b' → RepF Pr w ((d, .val (.d (.bool b'))) :: fr) a.tmps (fun t => if t = d then [] else F t) := fun b' e => hF.shadow (by subst e; simp only [RepA, RepD]; exact hrep.1)
          have hss : ∀ t b, b ∈ (if t = d then [] else F t) → b ∈ F t := by
            intro t b hb
            by_cases e : t = d
            · simp [e] at hb
            · simpa [e] using hb
          rcases br_some hev with ⟨hbt, h⟩ | ⟨hbt, h⟩
          · cases want
            · simp only [cond_false] at h
              rw [if_neg (by simp [Region.wanted, hg, hy, hbt])]
              exact skip _ _ (hsh true hbt) hss h
            · simp only [cond_true] at h
              rw [if_pos (by simp [Region.wanted, hg, hy, hbt])]
              exact .inl (run _ _ (hsh true hbt) hss h)
          · cases want
            · simp only [cond_false] at h
              rw [if_pos (by simp [Region.wanted, hg, hy, hbt])]
              exact .inl (run _ _ (hsh false hbt) hss h)
            · simp only [cond_true] at h
              rw [if_neg (by simp [Region.wanted, hg, hy, hbt])]
              exact skip _ _ (hsh false hbt) hss h
        · cases hev
      · cases hev

/-! ### Loops -/
noncomputable def iter (T : Tab) (E : CallE) (LT : Nat → Option LoopS) (c : Code) (ls : LoopS) : Nat → List SV → Option (Ex × List SV)
  | 0, _ => none
  | n + 1, vs => match evRound T E LT c ls vs with
    | some (.again vs') => iter T E LT c ls n vs'
    | some (.out e vs') => some (e, vs')
    | none => none
def LoopOK (T : Tab) (E : CallE) (LT : Nat → Option LoopS) (c : Code) : Prop :=
  ∀ ls, LT (key c) = some ls → ∀ vs x, (ls.f vs).Out x → ∃ n, iter T E LT c ls n vs = some x
/-- All loops of a code are what is told of them. -/
def LoopsOK (T : Tab) (E : CallE) (LT : Nat → Option LoopS) : Code → Prop
  | .seq a b => LoopsOK T E LT a ∧ LoopsOK T E LT b
  | .cond _ a b => LoopsOK T E LT a ∧ LoopsOK T E LT b
  | .block _ c => LoopsOK T E LT c
  | .loop c => LoopsOK T E LT c ∧ LoopOK T E LT c
  | .scope c => LoopsOK T E LT c
  | _ => True

def exOf : Ex → Exit
  | .normal => .normal
  | .exit id => .exit id
  | .ret => .ret

theorem look_binds_nil (t : Nat) : ∀ (vs : List SV), look1 t (binds [] vs) = .unk := by intro vs; cases vs <;> rfl
theorem look_looks (fr : Fr) (t : Nat) : ∀ (l : List Nat), look1 t (binds l (looks fr l)) = if t ∈ l then lookL t fr else .unk
  | [] => by simp [binds, look1]
  | s :: l => by
    simp only [looks, binds, look1]
    by_cases e : s = t
    · subst e; simp
    · rw [beq_false e, cond_false, look_looks fr t l]
      simp [Ne.symm e]
theorem lookL_noal (t : Nat) (fr : Fr) : (∀ d o, lookL t fr ≠ .al d o) ∧ (∀ d o, lookL t fr ≠ .ref d o) := by
  unfold lookL
  split
  · split <;> simp
  · simp
  · simp
  · rename_i h1 h2 h3
    exact ⟨h1, h2⟩
theorem lookL_rep {Pr : PM} {w : World} {fr : Fr} {ts : Array Value} {F : Nat → List Nat} (h : RepF Pr w fr ts F) (t : Nat) : RepS Pr w (lookL t fr) (ts.getD t undef) (F t) := by
  have hr := h.rep t
  unfold lookL
  split
  · rename_i d o hl
    rw [hl] at hr
    simp only [RepS] at hr
    rw [hr]
    split
    · rename_i v hv
      simp only [RepS]; exact ⟨rd_sound h hv, trivial⟩
    · simp [RepS]
  · rename_i d o hl
    rw [hl] at hr
    simp only [RepS] at hr ⊢
    exact hr
  · rename_i nw cs hl
    rw [hl] at hr
    simp only [RepS] at hr ⊢
    exact hr
  · exact hr
theorem noal_find {fr : Fr} (h : ∀ x ∈ fr, (∀ d o, x.2 ≠ .al d o) ∧ (∀ d o, x.2 ≠ .ref d o)) : ∀ (t : Nat) (acc : List (Nat × Bool)) pre sv rest, find t fr acc = some (pre, sv, rest) → (∀ d o, sv ≠ .al d o) ∧ (∀ d o, sv ≠ .ref d o) := by
  induction fr with
  | nil => intro t acc pre sv rest hf; simp [find] at hf
  | cons p fr ih =>
    obtain ⟨x, s⟩ := p
    intro t acc pre sv rest hf
    simp only [find] at hf
    cases hx : Nat.beq x t
    · rw [hx, cond_false] at hf
      exact ih (fun y hy => h y (List.mem_cons_of_mem _ hy)) t _ pre sv rest hf
    · rw [hx, cond_true] at hf
      simp at hf
      rw [← hf.2.1]
      exact h (x, s) List.mem_cons_self
theorem binds_looks_mem (fr : Fr) : ∀ (l : List Nat) x, x ∈ binds l (looks fr l) → x.2 = lookL x.1 fr
  | [], x, h => by simp [binds] at h
  | s :: l, x, h => by
    simp only [looks, binds, List.mem_cons] at h
    rcases h with rfl | h
    · rfl
    · exact binds_looks_mem fr l x h
theorem RepF_looks {Pr : PM} {w : World} {fr : Fr} {ts : Array Value} {F : Nat → List Nat} (h : RepF Pr w fr ts F) (l : List Nat) : RepF Pr w (binds l (looks fr l)) ts (fun t => if t ∈ l then F t else []) := by
  have hno : ∀ x ∈ binds l (looks fr l), (∀ d o, x.2 ≠ .al d o) ∧ (∀ d o, x.2 ≠ .ref d o) := fun x hx => by
    rw [binds_looks_mem fr l x hx]; exact lookL_noal _ _
  refine ⟨fun t => ?_, fun t => ?_, fun t t' hne b hb q => ?_, fun t pre d rest hf => ?_, fun t pre d o rest hf => ?_, fun t pre d o rest hf => ?_⟩
  · rw [look_looks]
    by_cases e : t ∈ l
    · rw [if_pos e, if_pos e]; exact lookL_rep h t
    · rw [if_neg e, if_neg e]; simp [RepS]
  · by_cases e : t ∈ l
    · rw [if_pos e]; exact h.nodup t
    · rw [if_neg e]; exact List.nodup_nil
  · by_cases e : t ∈ l
    · rw [if_pos e] at hb
      by_cases e' : t' ∈ l
      · rw [if_pos e'] at q; exact h.apart t t' hne b hb q
      · rw [if_neg e'] at q; simp at q
    · rw [if_neg e] at hb; simp at hb
  · exact absurd rfl ((noal_find hno t [] pre _ rest hf).1 d none)
  · exact absurd rfl ((noal_find hno t [] pre _ rest hf).1 d (some o))
  · exact absurd rfl ((noal_find hno t [] pre _ rest hf).2 d o)

theorem RepF_unks {Pr : PM} {w : World} {fr : Fr} : ∀ (l : List Nat) (ts ts' : Array Value) (F : Nat → List Nat), RepF Pr w fr ts F → ts'.size = ts.size → (∀ t, t ∉ l → ts'.getD t undef = ts.getD t undef) →
    RepF Pr w (unks l fr) ts' (fun t => if t ∈ l then [] else F t)
  | [], ts, ts', F, h, _, hs => by
    simp only [unks, List.not_mem_nil, if_false]
    have hs' : ∀ t, ts'.getD t undef = ts.getD t undef := fun t => hs t (by simp)
    exact ⟨fun t => by rw [hs']; exact h.rep t, h.nodup, h.apart, fun t pre d rest hf hb => by rw [hs', hs']; exact h.alias0 t pre d rest hf hb, fun t pre d o rest hf hb => by
      obtain ⟨b, c, T', q1, q2, q3, q4⟩ := h.alias1 t pre d o rest hf hb
      exact ⟨b, c, T', by rw [hs']; exact q1, q2, q3, by rw [hs']; exact q4⟩, fun t pre d o rest hf hb => by
      obtain ⟨b, q1, q2⟩ := h.ref t pre d o rest hf hb
      exact ⟨b, by rw [hs']; exact q1, by rw [hs']; exact q2⟩⟩
  | s :: l, ts, ts', F, h, hz, hs => by
    have hmid : ∀ t, t ∉ l → (ts'.setIfInBounds s (ts.getD s undef)).getD t undef = ts.getD t undef := by
      intro t ht
      by_cases hlt : s < ts'.size
      · rw [getD_set _ _ _ _ hlt]
        by_cases e : t = s
        · rw [if_pos e, e]
        · rw [if_neg e]; exact hs t (by simp [e, ht])
      · have e1 : ts'.setIfInBounds s (ts.getD s undef) = ts' := by simp [Array.setIfInBounds, hlt]
        rw [e1]
        by_cases e : t = s
        · subst e
          have h1 : ts'[t]? = none := by simp; omega
          have h2 : ts[t]? = none := by simp; omega
          simp [Array.getD_eq_getD_getElem?, h1, h2]
        · exact hs t (by simp [e, ht])
    have ih := RepF_unks l ts (ts'.setIfInBounds s (ts.getD s undef)) F h (by simp [hz]) hmid
    have := ih.plain (d := s) (ts' := ts') (sv := .unk) (fun t hne => by
      by_cases hlt : s < ts'.size
      · rw [getD_set _ _ _ _ hlt, if_neg hne]
      · simp [Array.setIfInBounds, hlt]) (by simp [RepS]) rfl (by simp) (by simp)
    have e : (fun t => if t = s then [] else (fun t => if t ∈ l then [] else F t) t) = fun t => if t ∈ s :: l then [] else F t := by
      funext t
      by_cases e1 : t = s <;> by_cases e2 : t ∈ l <;> simp [e1, e2]
    rw [e] at this
    exact this

theorem RepF_binds {Pr : PM} {w : World} {fr : Fr} {ts : Array Value} {G : Nat → List Nat} (hn : ∀ t, (G t).Nodup) (ha : ∀ t t', t ≠ t' → ∀ b ∈ G t, b ∉ G t') : ∀ (l : List Nat) (vs : List SV) (F : Nat → List Nat), RepF Pr w fr ts F →
    (∀ x ∈ binds l vs, RepS Pr w x.2 (ts.getD x.1 undef) (G x.1) ∧ (∀ d o, x.2 ≠ .al d o) ∧ (∀ d o, x.2 ≠ .ref d o)) → (∀ t t', ∀ b ∈ G t, b ∉ F t') →
    ∃ F', RepF Pr w (binds l vs ++ fr) ts F' ∧ ∀ t b, b ∈ F' t → b ∈ F t ∨ b ∈ G t
  | [], vs, F, h, _, _ => ⟨F, by cases vs <;> exact h, fun t b hb => .inl hb⟩
  | s :: l, [], F, h, _, _ => ⟨F, h, fun t b hb => .inl hb⟩
  | s :: l, v :: vs, F, h, hx, hd => by
    obtain ⟨F1, h1, hs1⟩ := RepF_binds hn ha l vs F h (fun x hx' => hx x (List.mem_cons_of_mem _ hx')) hd
    obtain ⟨q1, q2, q3⟩ := hx (s, v) List.mem_cons_self
    -- an update's mark says nothing here
    have hmk : RepF Pr w ((s, v) :: (binds l vs ++ fr)) ts (fun t => if t = s then G s else F1 t) :=
      h1.bind (fun _ _ => rfl) q1 (hn s) (fun t hne b hb q => by
        rcases hs1 t b q with q | q
        · exact hd s t b hb q
        · exact ha s t (Ne.symm hne) b hb q) (fun _ => rfl) (fun d' e => absurd e (q2 d' none)) (fun d' o e => absurd e (q2 d' (some o))) (fun d' o e => absurd e (q3 d' o))
    refine ⟨_, hmk, fun t b hb => ?_⟩
    by_cases e : t = s
    · rw [if_pos e] at hb; rw [e]; exact .inr hb
    · rw [if_neg e] at hb; exact hs1 t b hb
end
end Go.Proofs.YtfafmpiajlgojaaDoor.Lg
