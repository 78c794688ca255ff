/- Part of a proof of the seat's statements: no statement by itself. -/
import Derived.Test.YtfafmpiajlgojaaDoorLgB5
import Derived.Laws.Tables
import Derived.Great.BuildSlice
import Derived.Laws.Append
import Derived.Laws.BytesString
namespace Go.Proofs.YtfafmpiajlgojaaDoor.Lg
open Go
section
variable {R : Type} {P : Program} {T : Tab} {E : CallE} {o : Oper} {fr : Fr} {K : Fr → Option R} {r : R} {Pr : PM} {w : World} {a : Act} {F : Nat → List Nat}
  {next : Act → World → Prop} {Q : Exit → Act → World → Prop}

theorem chk_some {p : Prop} {x : Option R} (h : chk p x = some r) : p ∧ x = some r := by
  unfold chk at h
  split at h
  · exact ⟨‹_›, h⟩
  · cases h
theorem br_some {b : Bool} {x y : Option R} (h : br b x y = some r) : (b = true ∧ x = some r) ∨ (b = false ∧ y = some r) := by
  unfold br at h
  cases b
  · exact .inr ⟨rfl, h⟩
  · exact .inl ⟨rfl, h⟩
theorem brP_some {p : Prop} {x y : Option R} (h : brP p x y = some r) : (p ∧ x = some r) ∨ (¬ p ∧ y = some r) := by
  unfold brP at h
  split at h
  · exact .inl ⟨‹_›, h⟩
  · exact .inr ⟨‹_›, h⟩
theorem bif_some {b : Bool} {x : Option R} (h : (bif b then x else none) = some r) : b = true ∧ x = some r := by
  cases b
  · cases h
  · exact ⟨rfl, h⟩

theorem RepA.cells {x : AV} {cs : List D} {v : Value} (h : RepA Pr x v) (hc : x.cells = some cs) : RepDs Pr cs v.cells.toList := by
  cases x with
  | d y =>
    simp only [AV.cells, Option.some.injEq] at hc; subst hc
    simp only [RepA] at h
    have : v.cells = #[v] := by have := h.one; cases v <;> first | rfl | (simp [Value.oneCell'] at this; done)
    rw [this]; exact ⟨h, trivial⟩
  | agg ds =>
    simp only [AV.cells, Option.some.injEq] at hc; subst hc
    simp only [RepA] at h
    obtain ⟨vs, rfl, h⟩ := h
    exact h
  | tup l => simp [AV.cells] at hc
  | fn g l => simp [AV.cells] at hc
  | pt l => simp [AV.cells] at hc

abbrev DOK (o : Oper) (a : Act) : Prop := ∀ d, o.dst = some d → d < a.tmps.size

theorem op_move {x : Operand} (hC : Cx P T) (ho : o.op = .move x) (hev : evOp T E o fr K = some r) (hF : RepF Pr w fr a.tmps F) (hP : PrOK Pr w) (hd : DOK o a) (hn : Nx K r o.dst Pr w a F next) : o.wp P a w next Q := by
  refine wp_value (v := a.eval x) (w' := w) (by simp [execOp, ho]) ?_
  simp only [evOp, ho] at hev
  split at hev
  · rename_i s
    show next (a.put o.dst (a.tmps.getD s undef)) w
    split at hev
    · rename_i pre v rest hf
      have hr := hF.rep s
      rw [find_look s fr [] _ _ _ hf] at hr
      exact finV hF hP hd hn (hr.av rfl) hev
    · rename_i pre es l rest hf
      exact fin hd hn hF hP (Ext.refl _ _ _) sub_self (B := []) (by simp [RepS]) List.nodup_nil (by simp) (by simp) rfl (by intro d' h; cases h; rfl) (by simp) (by simp) hev
    · rename_i pre nw cs rest hf
      exact fin hd hn hF hP (Ext.refl _ _ _) sub_self (B := []) (by simp [RepS]) List.nodup_nil (by simp) (by simp) rfl (by intro d' h; cases h; rfl) (by simp) (by simp) hev
    · rename_i pre d off rest hf
      cases hb : bound d pre
      · rw [hb, cond_false] at hev
        refine fin hd hn hF hP (Ext.refl _ _ _) sub_self (B := []) (by simp [RepS]) List.nodup_nil (by simp) (by simp) rfl ?_ ?_ (by simp) hev
        · intro d' h; cases h; exact hF.alias0 s pre d rest hf hb
        · intro d' o' h; cases h; exact hF.alias1 s pre d o' rest hf hb
      · rw [hb, cond_true] at hev
        exact finU hF hP hd hn hev
    · rename_i pre cs rest hf
      have hr := hF.rep s
      rw [find_look s fr [] _ _ _ hf] at hr
      have hr' : RepS Pr w (.at cs) (a.tmps.getD s undef) [] := by simp only [RepS] at hr ⊢; exact ⟨hr.1, trivial⟩
      exact fin hd hn hF hP (Ext.refl _ _ _) sub_self (B := []) hr' List.nodup_nil (by simp) (by simp) rfl (by simp) (by simp) (by simp) hev
    · exact finU hF hP hd hn hev
  · replace hev := withT_some hev; obtain ⟨i, hi, hev⟩ := hev
    exact fin hd hn hF hP (Ext.refl _ _ _) sub_self (B := []) (RepS_nil i.es Pr w) List.nodup_nil (by simp) (by simp) rfl (by simp) (by simp) (by simp) hev
  · split at hev
    · rename_i v hv
      exact finV hF hP hd hn (rdO_sound hF hv) hev
    · exact finU hF hP hd hn hev

theorem op_assign {x : Operand} (hC : Cx P T) (ho : o.op = .assign x) (hev : evOp T E o fr K = some r) (hF : RepF Pr w fr a.tmps F) (hP : PrOK Pr w) (hd : DOK o a) (hn : Nx K r o.dst Pr w a F next) : o.wp P a w next Q := by
  refine wp_value (v := a.eval x) (w' := w) (by simp [execOp, ho]) ?_
  simp only [evOp, ho] at hev
  have tok : ∀ {s es l fr'}, grow fr s = some ⟨es, l, fr'⟩ → K (dset o.dst (.app es l) fr') = some r → next (a.put o.dst (a.tmps.getD s undef)) w := by
    intro s es l fr' hg hev
    obtain ⟨B, F', h1, h2, h3, h4, h5, h6⟩ := grow_sound hF hg
    exact fin hd hn h1 hP (Ext.refl _ _ _) (fun t b hb => .inl ⟨t, h3 t b hb⟩) h2 h6 h5 (fun b hb => .inl (h4 b hb)) rfl (by simp) (by simp) (by simp) hev
  split at hev
  · rename_i s
    show next (a.put o.dst (a.tmps.getD s undef)) w
    split at hev
    · rename_i pre v rest hf
      have hr := hF.rep s
      rw [find_look s fr [] _ _ _ hf] at hr
      exact finV hF hP hd hn (hr.av rfl) hev
    · rename_i pre es l rest hf
      exact tok (s := s) (es := es) (l := l) (by simp [grow, hf]) hev
    · rename_i pre nw cs rest hf
      have hr := hF.rep s
      rw [find_look s fr [] _ _ _ hf] at hr
      have h1 : RepF Pr w ((s, .unk) :: fr) a.tmps (fun t => if t = s then [] else F t) := hF.plain (fun _ _ => rfl) (by simp [RepS]) rfl (by simp) (by simp)
      have hr' : RepS Pr w (.box true cs) (a.tmps.getD s undef) (F s) := by simpa only [RepS] using hr
      refine fin hd hn h1 hP (Ext.refl _ _ _) ?_ hr' (hF.nodup s) ?_ (fun b hb => .inl ⟨s, hb⟩) rfl (by simp) (by simp) (by simp) hev
      · intro t b hb
        by_cases e : t = s
        · simp [e] at hb
        · rw [if_neg e] at hb; exact .inl ⟨t, hb⟩
      · intro t b hb
        by_cases e : t = s
        · simp [e]
        · rw [if_neg e]; exact hF.apart s t (Ne.symm e) b hb
    · split at hev
      · rename_i es l fr' hg
        exact tok hg hev
      · split at hev
        · rename_i v hv
          exact finV hF hP hd hn (rd_sound hF hv) hev
        · exact finU hF hP hd hn hev
    · exact finU hF hP hd hn hev
  · replace hev := withT_some hev; obtain ⟨i, hi, hev⟩ := hev
    exact fin hd hn hF hP (Ext.refl _ _ _) sub_self (B := []) (RepS_nil i.es Pr w) List.nodup_nil (by simp) (by simp) rfl (by simp) (by simp) (by simp) hev
  · split at hev
    · rename_i v hv
      exact finV hF hP hd hn (rdO_sound hF hv) hev
    · exact finU hF hP hd hn hev

theorem op_pick {c x y : Operand} (ho : o.op = .pick c x y) (hev : evOp T E o fr K = some r) (hF : RepF Pr w fr a.tmps F) (hP : PrOK Pr w) (hd : DOK o a) (hn : Nx K r o.dst Pr w a F next) : o.wp P a w next Q := by
  simp only [evOp, ho] at hev
  split at hev
  · rename_i t hc
    have hb := rdO_sound hF hc
    simp only [RepA, RepD] at hb
    rcases br_some hev with ⟨ht, h1⟩ | ⟨ht, h1⟩
    · subst ht
      clear hev
      split at h1
      · rename_i v hv
        exact wp_value (v := a.eval x) (w' := w) (by simp [execOp, ho, hb, asBool]) (finV hF hP hd hn (rdO_sound hF hv) h1)
      · cases h1
    · subst ht
      clear hev
      split at h1
      · rename_i v hv
        exact wp_value (v := a.eval y) (w' := w) (by simp [execOp, ho, hb, asBool]) (finV hF hP hd hn (rdO_sound hF hv) h1)
      · cases h1
  · cases hev

/-- A new block, nothing of it for ever. -/
theorem finNew {sv : SV} {ob : Obj} (hF : RepF Pr w fr a.tmps F) (hP : PrOK Pr w) (hd : DOK o a) (hn : Nx K r o.dst Pr w a F next)
    (hr : RepS Pr { w with heap := w.heap.push ob } sv (.pointer (some ⟨w.heap.size, 0, none⟩)) [w.heap.size]) (hu : sv.isUpd = false) (h0 : ∀ d o, sv ≠ .al d o) (h2 : ∀ d o, sv ≠ .ref d o)
    (hK : K (dset o.dst sv fr) = some r) : next (a.put o.dst (.pointer (some ⟨w.heap.size, 0, none⟩))) { w with heap := w.heap.push ob } := by
  have h1 : RepF Pr { w with heap := w.heap.push ob } fr a.tmps F := hF.mono (PrLe.refl _) fun t => keeps_push (hF.lt t)
  refine fin hd hn h1 (hP.push ob) (Ext.push _ _ _ _) sub_self hr (by simp) ?_ (by simp) hu (fun d' q => absurd q (h0 d' none)) (fun d' o' q => absurd q (h0 d' (some o'))) (fun d' o' q => absurd q (h2 d' o')) hK
  intro t b hb q
  simp at hb; subst hb
  exact absurd (hF.lt t _ q) (by omega)

theorem zeros_rep : ∀ (es : List Sh) (vs : List Value), zerosB es vs = true → RepSs Pr w (es.map fun e => match e with | .sl es => .app es [] | e => .val (.d (zeroD e))) vs (es.map fun _ => [])
  | [], [], _ => by simp [RepSs]
  | e :: es, v :: vs, h => by
    simp only [zerosB, Bool.and_eq_true] at h
    simp only [List.map_cons, RepSs]
    refine ⟨?_, zeros_rep es vs h.2⟩
    have h1 := h.1
    cases e with
    | int k =>
      cases v <;> simp [zeroB] at h1
      obtain ⟨rfl, rfl⟩ := h1
      simp [RepS, RepA, RepD, zeroD, toD, CE.dflt]
    | bool =>
      cases v <;> simp [zeroB] at h1
      subst h1
      simp [RepS, RepA, RepD, zeroD, toD, CE.dflt]
    | str =>
      cases v <;> simp [zeroB] at h1
      rename_i s
      subst h1
      simp only [RepS, RepA, RepD, zeroD, toD, CE.dflt]
      exact ⟨rfl, trivial⟩
    | sl es' =>
      unfold zeroB at h1
      split at h1 <;> simp_all
      simp [RepS]
  | [], _ :: _, h => by simp [zerosB] at h
  | _ :: _, [], h => by simp [zerosB] at h
theorem flatten_nils {α β : Type} (l : List α) : (l.map fun _ => ([] : List β)).flatten = [] := by induction l <;> simp [*]

theorem op_alloc {t : TypeId} (hC : Cx P T) (ho : o.op = .alloc t) (hev : evOp T E o fr K = some r) (hF : RepF Pr w fr a.tmps F) (hP : PrOK Pr w) (hd : DOK o a) (hn : Nx K r o.dst Pr w a F next) : o.wp P a w next Q := by
  simp only [evOp, ho] at hev
  replace hev := withT_some hev; obtain ⟨i, hi, hev⟩ := hev
  obtain ⟨tf⟩ := hC.facts hi
  refine wp_value (v := .pointer (some ⟨w.heap.size, 0, none⟩)) (w' := { w with heap := w.heap.push (.cells tf.z.cells t) }) (by simp [execOp, ho, Instr.alloc, tf.run_zero, newVar, newRow]) ?_
  refine finNew hF hP hd hn ?_ rfl (by simp) (by simp) hev
  simp only [RepS]
  exact ⟨w.heap.size, tf.z.cells, t, i.sh.map fun _ => [], rfl, by simp, fun o => hP.new o, by rw [flatten_nils], zeros_rep _ _ tf.hzb⟩

theorem vals_rep : ∀ (cs : List D) (vs : List Value), RepDs Pr cs vs → RepSs Pr w (cs.map fun c => .val (.d c)) vs (cs.map fun _ => [])
  | [], [], _ => by simp [RepSs]
  | c :: cs, v :: vs, h => by
    simp only [List.map_cons, RepSs, RepS, RepA]
    exact ⟨⟨h.1, trivial⟩, vals_rep cs vs h.2⟩
  | [], _ :: _, h => by simp [RepDs] at h
  | _ :: _, [], h => by simp [RepDs] at h

theorem op_box {t : TypeId} {x : Operand} (ho : o.op = .box t x) (hev : evOp T E o fr K = some r) (hF : RepF Pr w fr a.tmps F) (hP : PrOK Pr w) (hd : DOK o a) (hn : Nx K r o.dst Pr w a F next) : o.wp P a w next Q := by
  simp only [evOp, ho] at hev
  cases hx : rdO fr x with
  | none => simp [hx] at hev
  | some v =>
    cases hcs : v.cells with
    | none => simp [hx, hcs] at hev
    | some cs =>
      simp only [hx, Option.bind_some, hcs] at hev
      have hr := (rdO_sound hF hx).cells hcs
      refine wp_value (v := .pointer (some ⟨w.heap.size, 0, none⟩)) (w' := { w with heap := w.heap.push (.cells (a.eval x).cells t) }) (by simp [execOp, ho, Instr.box, newVar, newRow]) ?_
      refine finNew hF hP hd hn ?_ rfl (by simp) (by simp) hev
      simp only [RepS]
      exact ⟨w.heap.size, (a.eval x).cells, t, cs.map fun _ => [], rfl, by simp, fun o => hP.new o, by rw [flatten_nils], vals_rep _ _ hr⟩

theorem op_nilCheck {x : Operand} (ho : o.op = .nilCheck x) (hev : evOp T E o fr K = some r) (hF : RepF Pr w fr a.tmps F) (hP : PrOK Pr w) (hd : DOK o a) (hn : Nx K r o.dst Pr w a F next) : o.wp P a w next Q := by
  simp only [evOp, ho] at hev
  split at hev
  · rename_i s
    split at hev
    · rename_i pre nw cs rest hf
      have hr := hF.rep s
      rw [find_look s fr [] _ _ _ hf] at hr
      simp only [RepS] at hr
      obtain ⟨b, c, T', Bs, hv, _⟩ := hr
      refine wp_value (v := a.eval (.tmp s)) (w' := w) (by simp only [execOp, ho, Act.eval, hv]; rfl) ?_
      exact fin hd hn hF hP (Ext.refl _ _ _) sub_self (B := []) (by simp [RepS]) List.nodup_nil (by simp) (by simp) rfl (by intro d' h; cases h; rfl) (by simp) (by simp) hev
    · rename_i pre d rest hf
      cases hb : bound d pre
      · rw [hb, cond_false] at hev
        have ha := hF.alias0 s pre d rest hf hb
        have hl := find_rest s d fr pre _ rest hf hb
        split at hev
        · rename_i nw cs hl2
          have hr := hF.rep d
          rw [hl2] at hr
          simp only [RepS] at hr
          obtain ⟨b, c, T', Bs, hv, _⟩ := hr
          refine wp_value (v := a.eval (.tmp s)) (w' := w) (by simp only [execOp, ho, Act.eval, ha, hv]; rfl) ?_
          exact fin hd hn hF hP (Ext.refl _ _ _) sub_self (B := []) (by simp [RepS]) List.nodup_nil (by simp) (by simp) rfl (by intro d' h; cases h; exact ha) (by simp) (by simp) hev
        · cases hev
      · rw [hb, cond_true] at hev; cases hev
    · cases hev
  · cases hev
end
end Go.Proofs.YtfafmpiajlgojaaDoor.Lg
