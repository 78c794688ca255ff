/- Part of a proof of the seat's statements: no statement by itself. -/
import Derived.Test.YtfafmpiajlgojaaDoorLgB4
namespace Go.Proofs.YtfafmpiajlgojaaDoor.Lg
open Go

/-- What must be shown behind an operation. -/
def Nx {R : Type} (K : Fr → Option R) (r : R) (dst : Option Tmp) (Pr : PM) (w : World) (a : Act) (F : Nat → List Nat) (next : Act → World → Prop) : Prop :=
  ∀ v fr' Pr' w' F', K fr' = some r → RepF Pr' w' fr' (a.put dst v).tmps F' → PrOK Pr' w' → Ext (fun b => ∃ t, b ∈ F t) Pr w Pr' w' →
    (∀ t b, b ∈ F' t → (∃ t', b ∈ F t') ∨ w.heap.size ≤ b) → next (a.put dst v) w'

theorem wp_value {P : Program} {o : Oper} {a : Act} {w w' : World} {next : Act → World → Prop} {Q : Exit → Act → World → Prop} {v : Value}
    (h : (execOp a.eval o).run P w = .ok (.value v) w') (hn : next (a.put o.dst v) w') : o.wp P a w next Q := by
  unfold Oper.wp; rw [h]; exact hn
theorem wp_skip' {P : Program} {o : Oper} {a : Act} {w w' : World} {next : Act → World → Prop} {Q : Exit → Act → World → Prop}
    (h : (execOp a.eval o).run P w = .ok .skip w') (hn : next (a.put o.dst undef) w') : o.wp P a w next Q := by
  unfold Oper.wp; rw [h]; exact hn

section
variable {R : Type} {P : Program} {T : Tab} {E : CallE} {o : Oper} {fr : Fr} {K : Fr → Option R} {r : R} {Pr : PM} {w : World} {a : Act} {F : Nat → List Nat}
  {next : Act → World → Prop} {Q : Exit → Act → World → Prop}

theorem fin {Pr1 : PM} {w1 : World} {fr1 : Fr} {F1 : Nat → List Nat} {sv : SV} {v : Value} {B : List Nat} (hd : ∀ d, o.dst = some d → d < a.tmps.size) (hn : Nx K r o.dst Pr w a F next)
    (h1 : RepF Pr1 w1 fr1 a.tmps F1) (hP1 : PrOK Pr1 w1) (hx : Ext (fun b => ∃ t, b ∈ F t) Pr w Pr1 w1) (hF1 : ∀ t b, b ∈ F1 t → (∃ t', b ∈ F t') ∨ w.heap.size ≤ b)
    (hr : RepS Pr1 w1 sv v B) (hnd : B.Nodup) (hap : ∀ t, ∀ b ∈ B, b ∉ F1 t) (hB : ∀ b ∈ B, (∃ t', b ∈ F t') ∨ w.heap.size ≤ b) (hu : sv.isUpd = false)
    (h0 : ∀ d', sv = .al d' none → v = a.tmps.getD d' undef)
    (hal : ∀ d' o', sv = .al d' (some o') → ∃ b c T, a.tmps.getD d' undef = .pointer (some ⟨b, 0, none⟩) ∧ b ∈ F1 d' ∧ w1.heap[b]? = some (.cells c T (0, 0)) ∧ c[o']? = some v)
    (hrf : ∀ d' o', sv = .ref d' o' → ∃ b, a.tmps.getD d' undef = .pointer (some ⟨b, 0, none⟩) ∧ v = .pointer (some ⟨b, o', none⟩))
    (hK : K (dset o.dst sv fr1) = some r) : next (a.put o.dst v) w1 := by
  cases hdst : o.dst with
  | none =>
    rw [hdst] at hn hK
    exact hn v fr1 Pr1 w1 F1 hK (by simpa [Act.put] using h1) hP1 hx hF1
  | some d =>
    rw [hdst] at hn hK
    have hlt := hd d hdst
    have ht : (a.put (some d) v).tmps = a.tmps.setIfInBounds d v := rfl
    refine hn v _ Pr1 w1 _ hK (?_ : RepF Pr1 w1 ((d, sv) :: fr1) _ (fun t => if t = d then B else F1 t)) hP1 hx ?_
    · rw [ht]
      refine h1.bind (fun t hne => by rw [getD_set _ _ _ _ hlt, if_neg hne]) (by rw [getD_set _ _ _ _ hlt, if_pos rfl]; exact hr) hnd (fun t _ b hb => hap t b hb) (fun q => by rw [hu] at q; cases q) ?_ ?_ ?_
      · intro d' hs hne; rw [getD_set _ _ _ _ hlt, if_pos rfl]; exact h0 d' hs
      · intro d' o' hs hne; rw [getD_set _ _ _ _ hlt, if_pos rfl]; exact hal d' o' hs
      · intro d' o' hs hne
        obtain ⟨b, q1, q2⟩ := hrf d' o' hs
        exact ⟨b, q1, by rw [getD_set _ _ _ _ hlt, if_pos rfl]; exact q2⟩
    · intro t b hb
      by_cases e : t = d
      · rw [if_pos e] at hb; exact hB b hb
      · rw [if_neg e] at hb; exact hF1 t b hb

theorem sub_self : ∀ t b, b ∈ F t → (∃ t', b ∈ F t') ∨ w.heap.size ≤ b := fun t _ h => .inl ⟨t, h⟩

/-- A plain value, no memory turned. -/
theorem finV {x : AV} {v : Value} (hF : RepF Pr w fr a.tmps F) (hP : PrOK Pr w) (hd : ∀ d, o.dst = some d → d < a.tmps.size) (hn : Nx K r o.dst Pr w a F next)
    (hr : RepA Pr x v) (hK : K (dset o.dst (.val x) fr) = some r) : next (a.put o.dst v) w :=
  fin hd hn hF hP (Ext.refl _ _ _) sub_self (B := []) (by simp only [RepS]; exact ⟨hr, trivial⟩) List.nodup_nil (by simp) (by simp) rfl (by simp) (by simp) (by simp) hK
theorem finU {v : Value} (hF : RepF Pr w fr a.tmps F) (hP : PrOK Pr w) (hd : ∀ d, o.dst = some d → d < a.tmps.size) (hn : Nx K r o.dst Pr w a F next)
    (hK : K (dset o.dst .unk fr) = some r) : next (a.put o.dst v) w :=
  fin hd hn hF hP (Ext.refl _ _ _) sub_self (B := []) (by simp [RepS]) List.nodup_nil (by simp) (by simp) rfl (by simp) (by simp) (by simp) hK

theorem RepS_nil (es : List Sh) (Pr : PM) (w : World) : RepS Pr w (.app es []) (.slice none 0 0) [] := by simp [RepS]

/-- Shadowing a slot by a plain value that it holds. -/
theorem RepF.shadow {ts : Array Value} {d : Nat} {x : AV} (h : RepF Pr w fr ts F) (hr : RepA Pr x (ts.getD d undef)) : RepF Pr w ((d, .val x) :: fr) ts (fun t => if t = d then [] else F t) :=
  h.plain (fun _ _ => rfl) (by simp only [RepS]; exact ⟨hr, trivial⟩) rfl (by simp) (by simp)

theorem RepSs.set {x : SV} {v : Value} {B : List Nat} : ∀ (cs : List SV) (vs : List Value) (Bs : List (List Nat)) (o : Nat), RepSs Pr w cs vs Bs → vs[o]? = some v → RepS Pr w x v B → RepSs Pr w (setAt o [x] cs) vs (Bs.set o B)
  | c :: cs, v' :: vs, B' :: Bs, 0, h, hv, hr => by
    simp only [RepSs] at h
    simp at hv; subst hv
    have : setAt 0 [] cs = cs := by cases cs <;> simp [setAt]
    simp only [setAt, List.set_cons_zero, RepSs, this]
    exact ⟨hr, h.2⟩
  | c :: cs, v' :: vs, B' :: Bs, o + 1, h, hv, hr => by
    simp only [RepSs] at h
    simp only [setAt, List.set_cons_succ, RepSs]
    exact ⟨h.1, RepSs.set cs vs Bs o h.2 (by simpa using hv) hr⟩
  | [], [], _, _, _, hv, _ => by simp at hv
  | [], _ :: _, _, _, h, _, _ => by simp [RepSs] at h
  | _ :: _, [], _, _, h, _, _ => by simp [RepSs] at h
  | _ :: _, _ :: _, [], _, h, _, _ => by simp [RepSs] at h

theorem flatten_set_sub : ∀ (Bs : List (List Nat)) (o : Nat), ∀ b ∈ (Bs.set o []).flatten, b ∈ Bs.flatten
  | [], _, b, h => by simp at h
  | B :: Bs, 0, b, h => by simp at h ⊢; exact .inr h
  | B :: Bs, o + 1, b, h => by
    simp only [List.set_cons_succ, List.flatten_cons, List.mem_append] at h ⊢
    exact h.imp id (flatten_set_sub Bs o b)
theorem flatten_set_nodup : ∀ (Bs : List (List Nat)) (o : Nat), Bs.flatten.Nodup → (Bs.set o []).flatten.Nodup
  | [], _, h => by simp
  | B :: Bs, 0, h => by
    simp only [List.flatten_cons, List.nodup_append] at h
    simpa using h.2.1
  | B :: Bs, o + 1, h => by
    simp only [List.set_cons_succ, List.flatten_cons, List.nodup_append] at h ⊢
    exact ⟨h.1, flatten_set_nodup Bs o h.2.1, fun a ha b hb => h.2.2 a ha b (flatten_set_sub Bs o b hb)⟩
theorem flatten_apart : ∀ (Bs : List (List Nat)) (o : Nat) (B : List Nat), Bs.flatten.Nodup → Bs[o]? = some B → ∀ b ∈ B, b ∉ (Bs.set o []).flatten
  | [], _, _, _, h, _, _ => by simp at h
  | B' :: Bs, 0, B, hn, h, b, hb => by
    simp at h; subst h
    simp only [List.flatten_cons, List.nodup_append] at hn
    simp only [List.set_cons_zero, List.flatten_cons, List.nil_append]
    exact fun q => hn.2.2 b hb b q rfl
  | B' :: Bs, o + 1, B, hn, h, b, hb => by
    simp only [List.flatten_cons, List.nodup_append] at hn
    simp only [List.set_cons_succ, List.flatten_cons, List.mem_append]
    have hm : b ∈ Bs.flatten := List.mem_flatten.2 ⟨B, List.mem_of_getElem? (by simpa using h), hb⟩
    rintro (q | q)
    · exact hn.2.2 b q b hm rfl
    · exact flatten_apart Bs o B hn.2.1 (by simpa using h) b hb q

/-- Taking the claim to the room behind a slice. -/
theorem grow_sound {ts : Array Value} {t : Nat} {es : List Sh} {l : List (RowE es)} {fr' : Fr} (h : RepF Pr w fr ts F) (hg : grow fr t = some ⟨es, l, fr'⟩) :
    ∃ B F', RepF Pr w fr' ts F' ∧ RepS Pr w (.app es l) (ts.getD t undef) B ∧ (∀ t' b, b ∈ F' t' → b ∈ F t') ∧ (∀ b ∈ B, ∃ d, b ∈ F d) ∧ (∀ t', ∀ b ∈ B, b ∉ F' t') ∧ B.Nodup := by
  unfold grow at hg
  cases hf : find t fr [] with
  | none => simp [hf] at hg
  | some p =>
    obtain ⟨pre, sv, rest⟩ := p
    have hl := find_look t fr [] pre sv rest hf
    have hr := h.rep t
    rw [hl] at hr
    rw [hf] at hg
    cases sv with
    | app es' l' =>
      simp only [Option.some.injEq, Sigma.mk.injEq] at hg
      obtain ⟨rfl, hg⟩ := hg
      simp only [heq_eq_eq, Prod.mk.injEq] at hg
      obtain ⟨rfl, rfl⟩ := hg
      refine ⟨F t, _, h.shadow (hr.av rfl), hr, ?_, fun b hb => ⟨t, hb⟩, ?_, h.nodup t⟩
      · intro t' b hb
        by_cases e : t' = t
        · simp [e] at hb
        · simpa [e] using hb
      · intro t' b hb
        by_cases e : t' = t
        · simp [e]
        · simpa [e] using h.apart t t' (Ne.symm e) b hb
    | al d off =>
      simp only at hg
      cases hb : bound d pre
      · rw [hb, cond_false] at hg
        have hrest := find_rest t d fr pre _ rest hf hb
        have hd := h.rep d
        rw [hrest] at hd
        cases off with
        | none =>
          have ha := h.alias0 t pre d rest hf hb
          cases hx : look1 d rest with
          | app es' l' =>
            simp only [hx, Option.some.injEq, Sigma.mk.injEq] at hg
            obtain ⟨rfl, hg⟩ := hg
            simp only [heq_eq_eq, Prod.mk.injEq] at hg
            obtain ⟨rfl, rfl⟩ := hg
            rw [hx] at hd
            refine ⟨F d, _, h.shadow (hd.av rfl), by rw [ha]; exact hd, ?_, fun b hb => ⟨d, hb⟩, ?_, h.nodup d⟩
            · intro t' b hb
              by_cases e : t' = d
              · simp [e] at hb
              · simpa [e] using hb
            · intro t' b hb
              by_cases e : t' = d
              · simp [e]
              · simpa [e] using h.apart d t' (Ne.symm e) b hb
          | _ => simp [hx] at hg
        | some o =>
          cases hx : look1 d rest with
          | box nw cs =>
            simp only [hx] at hg
            cases hc : cellAt o cs with
            | app es' l' =>
              simp only [hc, Option.some.injEq, Sigma.mk.injEq] at hg
              obtain ⟨rfl, hg⟩ := hg
              simp only [heq_eq_eq, Prod.mk.injEq] at hg
              obtain ⟨rfl, rfl⟩ := hg
              rw [hx] at hd
              simp only [RepS] at hd
              obtain ⟨b, c, T', Bs, hv, hbl, hpr, hB, hss⟩ := hd
              obtain ⟨b2, c2, T2, q1, q2, q3, q4⟩ := h.alias1 t pre d o rest hf hb
              rw [hv] at q1
              simp at q1; subst q1
              rw [hbl] at q3
              simp at q3
              obtain ⟨rfl, rfl⟩ := q3
              obtain ⟨B, g1, _, g3⟩ := RepSs.cell cs c.toList Bs hss o (ts.getD t undef) (by rw [← q4]; simp)
              rw [hc] at g3
              have hnd := h.nodup d
              rw [hB] at hnd
              have hnd2 := List.nodup_cons.1 hnd
              have hsub : ∀ b' ∈ B, b' ∈ Bs.flatten := fun b' hb' => List.mem_flatten.2 ⟨B, List.mem_of_getElem? g1, hb'⟩
              have hnew : RepS Pr w (.box false (setAt o [.val (.d (.sl es' l'))] cs)) (ts.getD d undef) (b :: (Bs.set o []).flatten) := by
                simp only [RepS]
                exact ⟨b, c, T', Bs.set o [], hv, hbl, hpr, rfl, RepSs.set cs c.toList Bs o hss (by rw [← q4]; simp) (by simp only [RepS]; exact ⟨g3.av rfl, trivial⟩)⟩
              refine ⟨B, _, h.bind (fun _ _ => rfl) hnew ?_ ?_ (fun _ => rfl) (by simp) (by simp) (by simp), g3, ?_, fun b' hb' => ⟨d, by rw [hB]; exact List.mem_cons_of_mem _ (hsub b' hb')⟩, ?_, ?_⟩
              · exact List.nodup_cons.2 ⟨fun q => hnd2.1 (flatten_set_sub Bs o b q), flatten_set_nodup Bs o hnd2.2⟩
              · intro t' hne b' hb'
                have : b' ∈ F d := by
                  rw [hB]
                  rcases List.mem_cons.1 hb' with rfl | hb'
                  · exact List.mem_cons_self
                  · exact List.mem_cons_of_mem _ (flatten_set_sub Bs o b' hb')
                exact h.apart d t' (Ne.symm hne) b' this
              · intro t' b' hb'
                by_cases e : t' = d
                · subst e
                  rw [if_pos rfl] at hb'
                  rw [hB]
                  rcases List.mem_cons.1 hb' with rfl | hb'
                  · exact List.mem_cons_self
                  · exact List.mem_cons_of_mem _ (flatten_set_sub Bs o b' hb')
                · rw [if_neg e] at hb'; exact hb'
              · intro t' b' hb'
                by_cases e : t' = d
                · subst e
                  rw [if_pos rfl]
                  intro q
                  rcases List.mem_cons.1 q with rfl | q
                  · exact hnd2.1 (hsub _ hb')
                  · exact flatten_apart Bs o B hnd2.2 g1 b' hb' q
                · rw [if_neg e]
                  exact h.apart d t' (Ne.symm e) b' (by rw [hB]; exact List.mem_cons_of_mem _ (hsub b' hb'))
              · have : B.Sublist Bs.flatten := List.sublist_flatten_of_mem (List.mem_of_getElem? g1)
                exact this.nodup hnd2.2
            | _ => simp [hc] at hg
          | _ => simp [hx] at hg
      · rw [hb, cond_true] at hg; cases hg
    | _ => simp at hg

/-- The root of an address. -/
theorem root_sound {ts : Array Value} {t d off : Nat} {cs : List SV} (h : RepF Pr w fr ts F) (hr : root t fr = some (d, off)) (hb : boxOf d fr = some cs) :
    ∃ b c T nw Bs, ts.getD t undef = .pointer (some ⟨b, off, none⟩) ∧ ts.getD d undef = .pointer (some ⟨b, 0, none⟩) ∧ look1 d fr = .box nw cs ∧ w.heap[b]? = some (.cells c T (0, 0)) ∧ (∀ o, Pr b o = none) ∧ F d = b :: Bs.flatten ∧ RepSs Pr w cs c.toList Bs := by
  have hbox : ∃ nw, look1 d fr = .box nw cs := by
    unfold boxOf at hb
    cases hl : look1 d fr <;> simp [hl] at hb
    subst hb; exact ⟨_, rfl⟩
  obtain ⟨nw, hbox⟩ := hbox
  have hd := h.rep d
  rw [hbox] at hd
  simp only [RepS] at hd
  obtain ⟨b, c, T', Bs, hv, hbl, hpr, hB, hss⟩ := hd
  refine ⟨b, c, T', nw, Bs, ?_, hv, hbox, hbl, hpr, hB, hss⟩
  unfold root at hr
  cases hf : find t fr [] with
  | none => simp [hf] at hr
  | some p =>
    obtain ⟨pre, sv, rest⟩ := p
    rw [hf] at hr
    cases sv with
    | box nw' cs' => simp at hr; obtain ⟨rfl, rfl⟩ := hr; exact hv
    | al d' o' =>
      cases o' with
      | none =>
        simp only at hr
        cases hbd : bound d' pre
        · rw [hbd, cond_false] at hr
          have ha := h.alias0 t pre d' rest hf hbd
          cases hx : look1 d' rest <;> simp [hx] at hr
          obtain ⟨rfl, rfl⟩ := hr
          rw [ha]; exact hv
        · rw [hbd, cond_true] at hr; cases hr
      | some _ => simp at hr
    | ref d' o' =>
      simp only at hr
      cases hbd : remade d' pre
      · rw [hbd, cond_false] at hr
        simp at hr
        obtain ⟨rfl, rfl⟩ := hr
        obtain ⟨b', q1, q2⟩ := h.ref t pre d' o' rest hf hbd
        rw [hv] at q1
        simp at q1; subst q1
        exact q2
      · rw [hbd, cond_true] at hr; cases hr
    | _ => simp at hr
end
end Go.Proofs.YtfafmpiajlgojaaDoor.Lg
