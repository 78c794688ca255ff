/- Functions that are handed variables, or slices of their own. -/
import Derived.Test.YtgcjhcefpkbheaaLgC1
import Derived.Test.YtgcjhcefpkbheaaLgT0
section
namespace Go.Proofs.Ytgcjhcefpkbheaa.Lg
open Go
variable {Lz : PM}
section
variable {P : Program} {T : Tab} {E : CallS} {LT : Nat → Option LoopS}

theorem params_rep {Pr : PM} {w : World} : ∀ (vs : List AV) (vals : List Value) (i : Nat) (ts : Array Value), RepAs Pr vs vals → (∀ j v, vals[j]? = some v → ts.getD (i + j) undef = v) → RepF Lz Pr w (params i vs) ts (fun _ => [])
  | [], vals, i, ts, _, _ => ⟨fun t => by simp [params, look1, RepS], fun _ => List.nodup_nil, fun _ _ _ b hb => by simp at hb, fun t pre d rest hf => by simp [params, find] at hf, fun t pre d o rest hf => by simp [params, find] at hf, fun t pre d k rest hf => by simp [params, find] at hf, fun t pre d o rest hf => by simp [params, find] at hf⟩
  | v :: vs, [], i, ts, h, _ => by simp [RepAs] at h
  | v :: vs, u :: vals, i, ts, h, hg => by
    simp only [RepAs] at h
    have ih := params_rep (w := w) vs vals (i + 1) ts h.2 (fun j x hx => by have := hg (j + 1) x (by simpa using hx); rw [← this]; congr 1; omega)
    have hu : RepA Pr v (ts.getD i undef) := by have := hg 0 u (by simp); simp at this; rw [show ts.getD i undef = u by simpa using this]; exact h.1
    have hs : RepS Lz Pr w (pSV v) (ts.getD i undef) [] := by
      cases v with
      | pt cs => simp only [pSV, RepS]; simp only [RepA] at hu; exact ⟨hu, trivial⟩
      | _ => simp only [pSV, RepS]; exact ⟨hu, trivial⟩
    have := ih.plain (d := i) (ts' := ts) (sv := pSV v) (fun _ _ => rfl) hs (by cases v <;> rfl) (by cases v <;> simp [pSV]) (by cases v <;> simp [pSV]) (by cases v <;> simp [pSV])
    have e : (fun t => if t = i then [] else (fun _ : Nat => ([] : List Nat)) t) = fun _ => [] := by funext t; simp
    rw [e] at this
    exact this

theorem rdSV_sound' {Pr : PM} {w : World} {fr : Fr} {ts : Array Value} {F : Nat → List Nat} (h : RepF Lz Pr w fr ts F) (t : Nat) :
    ∃ B, (∀ b ∈ B, ∃ d, b ∈ F d) ∧ B.Nodup ∧ RepS Lz Pr w (rdSV t fr) (ts.getD t undef) B := by
  unfold rdSV
  cases hf : find t fr [] with
  | none => exact ⟨[], by simp, List.nodup_nil, by simp [RepS]⟩
  | some p =>
    obtain ⟨pre, sv, rest⟩ := p
    have hl := find_look t fr [] pre sv rest hf
    have hr := h.rep t
    rw [hl] at hr
    cases sv with
    | al d off =>
      simp only
      cases hb : bound d pre
      · simp only [cond_false]
        have hrest := find_rest t d fr pre _ rest hf hb
        cases off with
        | none =>
          simp only
          have hd := h.rep d
          rw [hrest] at hd
          rw [h.alias0 t pre d rest hf hb]
          exact ⟨F d, fun b hb => ⟨d, hb⟩, h.nodup d, hd⟩
        | some o =>
          have hd := h.rep d
          rw [hrest] at hd
          cases hx : look1 d rest with
          | box nw cs =>
            simp only
            rw [hx] at hd
            simp only [RepS] at hd
            obtain ⟨b, c, T, Bs, hv, hb', _, hB, hss⟩ := hd
            obtain ⟨b2, c2, T2, q1, q2, q3, q4⟩ := h.alias1 t pre d o rest hf hb
            rw [hv] at q1
            simp at q1; subst q1
            rw [hb'] at q3
            simp at q3
            obtain ⟨rfl, rfl⟩ := q3
            obtain ⟨B, h1, _, h3⟩ := RepSs.cell cs c.toList Bs hss o (ts.getD t undef) (by rw [← q4]; simp)
            have hn := h.nodup d
            rw [hB] at hn
            exact ⟨B, fun x hx => ⟨d, by rw [hB]; exact List.mem_cons_of_mem _ (List.mem_flatten.2 ⟨B, List.mem_of_getElem? h1, hx⟩)⟩, (List.pairwise_flatten.1 (List.nodup_cons.1 hn).2).1 B (List.mem_of_getElem? h1), h3⟩
          | _ => exact ⟨[], by simp, List.nodup_nil, by simp [RepS]⟩
      · exact ⟨[], by simp, List.nodup_nil, by simp [RepS]⟩
    | _ => exact ⟨F t, fun b hb => ⟨t, hb⟩, h.nodup t, hr⟩

def resRead (ts : Array Value) : ResultVar → Sem Value
  | .tmp t => pure (ts.getD t undef)
  | .cell a t => do loadVar t (← asAddr (ts.getD a undef))

theorem resV_sound {Pr : PM} {w : World} {fr : Fr} {ts : Array Value} {F : Nat → List Nat} (hC : Cx P T) (hF : RepF Lz Pr w fr ts F) {x : ResultVar} {v : AV} (h : resV T fr x = some v) :
    ∃ u, (resRead ts x).run P w = .ok u w ∧ RepA Pr v u := by
  cases x with
  | tmp t => exact ⟨_, by simp [resRead], rd_sound hF h⟩
  | cell a t =>
    simp only [resV] at h
    replace h := withT_some h; obtain ⟨i, hi, h⟩ := h
    obtain ⟨tf⟩ := hC.facts hi
    split at h
    · rename_i d hr
      cases hbx : boxOf d fr with
      | none => simp [hbx] at h
      | some cs =>
        simp only [hbx, Option.bind_some] at h
        obtain ⟨b, c, T', nw, Bs, hv, hv0, hl, hbl, hpr, hB, hss⟩ := root_sound hF hr hbx
        cases hds : cellsD cs with
        | none => simp [hds] at h
        | some ds =>
          simp only [hds, Option.bind_some] at h
          cases ha : i.agg
          · rw [ha] at h; simp at h
          · rw [ha, cond_true] at h
            cases hb : Nat.beq ds.length i.sh.length
            · rw [hb] at h; simp at h
            · rw [hb, cond_true] at h
              simp at h; subst h
              have hb' := Nat.eq_of_beq_eq_true hb
              have h1 := RepSs.cellsD _ _ _ ds hss hds
              have hl1 := RepDs.length _ _ h1
              have := (run_loadAt (w := w) tf (b := b) (o := 0) (us := c.toList) (by rw [hl1, hb']) (fun j u hj => by
                rw [cell_cells hbl]; simpa using hj)).1 ha
              refine ⟨_, ?_, by simp only [RepA]; exact ⟨_, rfl, h1⟩⟩
              simpa [resRead, hv, Instr.loadAt, Instr.sureAddr, asAddr] using this
    · cases h

theorem resVs_sound {Pr : PM} {w : World} {fr : Fr} {ts : Array Value} {F : Nat → List Nat} (hC : Cx P T) (hF : RepF Lz Pr w fr ts F) : ∀ (rs : List ResultVar) (l : List AV), resVs T fr rs = some l →
    ∃ us, (rs.mapM (resRead ts)).run P w = .ok us w ∧ RepAs Pr l us ∧ us.length = rs.length
  | [], l, h => by simp [resVs] at h; subst h; exact ⟨[], by simp, by simp [RepAs], rfl⟩
  | x :: rs, l, h => by
    simp only [resVs] at h
    split at h
    · rename_i v l' h1 h2
      simp at h; subst h
      obtain ⟨u, q1, q2⟩ := resV_sound hC hF h1
      obtain ⟨us, q3, q4, q5⟩ := resVs_sound hC hF rs l' h2
      exact ⟨u :: us, by simp [List.mapM_cons, q1, q3], by simp only [RepAs]; exact ⟨q2, q4⟩, by simp [q5]⟩
    · cases h

theorem results_eq (fn : Func) (ts : Array Value) : results fn ts = (do let vs ← fn.results.mapM (resRead ts); pure (if h : vs.size = 1 then vs[0] else .tuple vs)) := rfl

/-- All that slots own is left as it is from now on. -/
noncomputable def frzF (F : Nat → List Nat) (Pr : PM) (w : World) : PM := fun b o => open Classical in if ∃ t, b ∈ F t then cellX w b o else Pr b o
theorem frzF_in {F : Nat → List Nat} {Pr : PM} {w : World} {b : Nat} (h : ∃ t, b ∈ F t) (o : Nat) : frzF F Pr w b o = cellX w b o := by unfold frzF; rw [if_pos h]
theorem frzF_out {F : Nat → List Nat} {Pr : PM} {w : World} {b : Nat} (h : ∀ t, b ∉ F t) (o : Nat) : frzF F Pr w b o = Pr b o := by unfold frzF; rw [if_neg fun ⟨t, q⟩ => h t q]
theorem frzF_ok {F : Nat → List Nat} {Pr : PM} {w : World} (hP : PrOK Pr w) : PrOK (frzF F Pr w) w := by
  intro b o v h
  unfold frzF at h
  split at h
  · exact h
  · exact hP b o v h
theorem frzF_le {F : Nat → List Nat} {Pr : PM} {w : World} (hP : PrOK Pr w) : PrLe Pr (frzF F Pr w) := by
  intro b o v h
  unfold frzF
  split
  · exact hP b o v h
  · exact h
theorem view_frzF {Pr : PM} {w : World} {fr : Fr} {ts : Array Value} {F : Nat → List Nat} (hF : RepF Lz Pr w fr ts F) (hP : PrOK Pr w) {s d lo hi : Nat} {es : List Sh} {l : List (RowE es)} (hv : view s fr = some (d, lo, hi, ⟨es, l⟩)) : RepA (frzF F Pr w) (.d (.sl es ((l.take hi).drop lo))) (ts.getD s undef) := by
  obtain ⟨hl, ⟨p, len, cap, q1, q2, q3, q4⟩, hbl, p', cap', r1, r2, r3⟩ := view_sound hF hv
  rw [q1] at r1
  simp only [Value.slice.injEq] at r1
  obtain ⟨rfl, rfl, rfl⟩ := r1
  rw [q4]
  refine cut_rep q2 hbl r2 ?_
  have h2 := hF.rep d
  rw [hl, q1] at h2
  simp only [RepS] at h2
  rcases h2 with ⟨_, hl0, _⟩ | ⟨b, off, cap', cc, T', vss, hv, hB1, hblk, hcap, hfit, hspare, hrows, hcells⟩
  · exact .inl hl0
  · simp only [Value.slice.injEq] at hv
    obtain ⟨rfl, _, rfl⟩ := hv
    exact .inr ⟨b, off, rfl, vals_rows l vss off (RowsVals.mono (frzF_le hP) l vss hrows) fun j v hj => by
      rw [frzF_in ⟨d, by rw [hB1]; simp⟩]
      refine cellX_of ?_ (one_tup (RowsVals.one _ _ (RowsVals.mono (frzF_le (F := F) hP) l vss hrows) v (List.mem_of_getElem? hj)))
      rw [cell_cells hblk]; exact hcells j v hj⟩
theorem map_frzF {Pr : PM} {w : World} {fr : Fr} {ts : Array Value} {F : Nat → List Nat} (hF : RepF Lz Pr w fr ts F) (hP : PrOK Pr w) {s d : Nat} {k : Sh} {b : Bool} {es : List Sh} {m : List (CE k × RowE es)} (hm : mpOf s fr = some (d, ⟨k, b, es, m⟩)) : RepA (frzF F Pr w) (.d (.mp k b es m)) (ts.getD s undef) := by
  obtain ⟨h1, h2⟩ := mpOf_sound hF hm
  rw [h2]
  have hr := hF.rep d
  rw [h1] at hr
  simp only [RepS] at hr
  obtain ⟨bl, es', ck, g1, g2, g3, g4, g5⟩ := hr
  obtain ⟨q1, q2, m', q3, q4, q5⟩ := g5.mono (frzF_le (F := F) hP)
  simp only [RepA, RepD, RepC]
  refine .inr ⟨bl, es', ck, g1, ?_, q1, q2, m', q3, q4, q5⟩
  rw [frzF_in ⟨d, by rw [g2]; simp⟩]
  unfold cellX; rw [g3]; rfl
theorem resVF_sound {Pr : PM} {w : World} {fr : Fr} {ts : Array Value} {F : Nat → List Nat} (hC : Cx P T) (hF : RepF Lz Pr w fr ts F) (hP : PrOK Pr w) {x : ResultVar} {v : AV} (h : resVF T fr x = some v) :
    ∃ u, (resRead ts x).run P w = .ok u w ∧ RepA (frzF F Pr w) v u := by
  unfold resVF at h
  split at h
  · rename_i t
    refine ⟨ts.getD t undef, by simp [resRead], ?_⟩
    split at h
    · rename_i v' hv
      cases h; exact RepA.mono (frzF_le hP) _ _ (rd_sound hF hv)
    · split at h
      · rename_i d lo hi es l hv
        cases h; exact view_frzF hF hP hv
      · split at h
        · rename_i d k b es m hv
          cases h; exact map_frzF hF hP hv
        · cases h
  · obtain ⟨u, h1, h2⟩ := resV_sound hC hF h
    exact ⟨u, h1, RepA.mono (frzF_le hP) _ _ h2⟩
theorem resVsF_sound {Pr : PM} {w : World} {fr : Fr} {ts : Array Value} {F : Nat → List Nat} (hC : Cx P T) (hF : RepF Lz Pr w fr ts F) (hP : PrOK Pr w) : ∀ (rs : List ResultVar) (l : List AV), resVsF T fr rs = some l →
    ∃ us, (rs.mapM (resRead ts)).run P w = .ok us w ∧ RepAs (frzF F Pr w) l us ∧ us.length = rs.length
  | [], l, h => by simp [resVsF] at h; subst h; exact ⟨[], by simp, by simp [RepAs], rfl⟩
  | x :: rs, l, h => by
    simp only [resVsF] at h
    split at h
    · rename_i v l' h1 h2
      simp at h; subst h
      obtain ⟨u, q1, q2⟩ := resVF_sound hC hF hP h1
      obtain ⟨us, q3, q4, q5⟩ := resVsF_sound hC hF hP rs l' h2
      exact ⟨u :: us, by simp [List.mapM_cons, q1, q3], by simp only [RepAs]; exact ⟨q2, q4⟩, by simp [q5]⟩
    · cases h

theorem resOf_sound {Pr : PM} {w : World} {fr : Fr} {fn : Func} {a : Act} {F : Nat → List Nat} {sv : SV} (hC : Cx P T) (hF : RepF Lz Pr w fr a.tmps F) (hP : PrOK Pr w) (h : resOf T fn fr = some sv) :
    ∃ v B Pr2, (results fn a.tmps).run P w = .ok v w ∧ RepS Lz Pr2 w sv v B ∧ B.Nodup ∧ (∀ b ∈ B, ∃ t, b ∈ F t) ∧ sv.free = true ∧ PrOK Pr2 w ∧ PrLe Pr Pr2 ∧ ∀ b, (∀ t, b ∉ F t) → ∀ o, Pr2 b o = Pr b o := by
  have hrun : ∀ us, (fn.results.toList.mapM (resRead a.tmps)).run P w = .ok us w → (results fn a.tmps).run P w = .ok (if h : us.length = 1 then us[0] else .tuple us.toArray) w := by
    intro us hus
    rw [results_eq]
    simp [Array.mapM_eq_mapM_toList, hus]
  unfold resOf at h
  split at h
  · rename_i t hr
    have := hrun [a.tmps.getD t undef] (by rw [hr]; simp [resRead])
    simp only [List.length_singleton, dite_true, List.getElem_cons_zero] at this
    have hn : ∃ B, (∀ b ∈ B, ∃ d, b ∈ F d) ∧ B.Nodup ∧ RepS Lz Pr w (rdSV t fr) (a.tmps.getD t undef) B := rdSV_sound' hF t
    obtain ⟨B, h1, h2, h3⟩ := hn
    split at h
    · rename_i v hv
      simp at h; subst h
      rw [hv] at h3
      exact ⟨_, B, Pr, this, h3, h2, h1, rfl, hP, PrLe.refl _, fun _ _ _ => rfl⟩
    · rename_i es l hv
      simp at h; subst h
      rw [hv] at h3
      exact ⟨_, B, Pr, this, h3, h2, h1, rfl, hP, PrLe.refl _, fun _ _ _ => rfl⟩
    · cases hv : resVF T fr (.tmp t) with
      | none => rw [hv] at h; simp at h
      | some v =>
        rw [hv] at h; simp at h; subst h
        obtain ⟨u, q1, q2⟩ := resVF_sound hC hF hP hv
        have e : u = a.tmps.getD t undef := by simp [resRead] at q1; simp [q1]
        rw [e] at q2
        exact ⟨_, [], frzF F Pr w, this, by simp only [RepS]; exact ⟨q2, trivial⟩, List.nodup_nil, by simp, rfl, frzF_ok hP, frzF_le hP, fun b hb o => frzF_out hb o⟩
  · rename_i x _ hr
    cases hv : resV T fr x with
    | none => rw [hv] at h; simp at h
    | some v =>
      rw [hv] at h; simp at h; subst h
      obtain ⟨u, q1, q2⟩ := resV_sound hC hF hv
      have := hrun [u] (by rw [hr]; simp [q1])
      simp only [List.length_singleton, dite_true, List.getElem_cons_zero] at this
      exact ⟨u, [], Pr, this, by simp only [RepS]; exact ⟨q2, trivial⟩, List.nodup_nil, by simp, rfl, hP, PrLe.refl _, fun _ _ _ => rfl⟩
  · rename_i hne1 hne
    cases hv : resVsF T fr fn.results.toList with
    | none => rw [hv] at h; simp at h
    | some l =>
      rw [hv] at h; simp at h; subst h
      obtain ⟨us, q1, q2, hlen⟩ := resVsF_sound hC hF hP _ l hv
      have := hrun us q1
      rw [dif_neg] at this
      · exact ⟨_, [], frzF F Pr w, this, by simp only [RepS, RepA]; exact ⟨⟨_, rfl, by simpa using q2⟩, trivial⟩, List.nodup_nil, by simp, rfl, frzF_ok hP, frzF_le hP, fun b hb o => frzF_out hb o⟩
      · rw [hlen]
        intro e
        obtain ⟨x, hx⟩ := List.length_eq_one_iff.1 e
        exact hne x hx

/-- A function does what its code comes to. -/
theorem sat_of {g : Nat} {fn : Func} {c : Code} {S : List AV → Tr SV} (hC : Cx P T) (hE : SatE P E) (hm : P.follows .mixedOrders = true) (hf : P.funcs[g]? = some fn) (hname : (fn.name == "runtime.NumGoroutine") = false)
    (hb : fn.body = some c) (hwr : (wr c).all (fun d => Nat.blt d fn.ntmps) = true) (hev : ∀ vs sv, (S vs).Out sv → evF T E LT fn vs = some sv) (hl : LoopsOK T E LT c) : Sat P g S := by
  refine ⟨⟨fn, hf, hname, by simp [hb]⟩, fun vs sv hout => ?_⟩
  have hv := hev vs sv hout
  unfold evF at hv
  rw [hb] at hv
  simp only at hv
  intro Pr w vals hJ hr hP
  · refine calls_of_wp hf hb ?_
    have hF : RepF noL Pr w (params 0 vs) (vals.toArray ++ Array.replicate (fn.ntmps - vals.toArray.size) undef) (fun _ => []) := params_rep vs vals 0 _ hr fun j v hj => by
      have : j < vals.length := (List.getElem?_eq_some_iff.1 hj).1
      simp [Array.getD_eq_getD_getElem?, Array.getElem?_append, this, hj]
      have := (List.getElem?_eq_some_iff.1 hj).2
      exact this
    refine evC_sound hC hE (drawSound hC hE hm) (regSound hC hE hm) c hl (a := { tmps := vals.toArray ++ Array.replicate (fn.ntmps - vals.toArray.size) undef, defers := [] }) (Lz := noL) hv ⟨hJ, fun _ _ _ h => by simp at h, noL_ok w, fun _ _ h => by simp at h⟩ hF hP ?_ ?_
    · intro d hd
      have := List.all_eq_true.1 hwr d hd
      rw [Nat.blt_eq] at this
      simp; omega
    · intro e fr' Pr' w' a' F' h1 h2 h3 h4
      have key : resOf T fn fr' = some sv → a'.defers = [] ∧ ∃ v, (results fn a'.tmps).run P w' = .ok v w' ∧ ∃ v' Pr2 B, Ending.returned v = .returned v' ∧ sv.free = true ∧ RepS noL Pr2 w' sv v' B ∧ PrOK Pr2 w' ∧ Ext (fun _ => False) Pr w Pr2 w' ∧ B.Nodup ∧ ∀ b ∈ B, w.heap.size ≤ b := by
        intro h
        obtain ⟨v, B, Pr2, q1, q2, q3, q4, q5, q6, q7, q8⟩ := resOf_sound hC h2 h3 h
        have hx1 : Ext (fun _ => False) Pr w Pr' w' := h4.ext.weaken fun b ⟨t, hb⟩ => by simp at hb
        have hx2 : Ext (fun _ => False) Pr w Pr2 w' := ⟨hx1.os, hx1.tape, hx1.output, hx1.size, hx1.le.trans q7, fun b hb hn => ⟨(hx1.block b hb hn).1, fun o => (q8 b (fun t ht => by
          rcases h4.sub t b ht with ⟨_, h⟩ | h
          · simp at h
          · omega) o).trans ((hx1.block b hb hn).2 o)⟩, hx1.dr⟩
        refine ⟨h4.defers, v, q1, v, Pr2, B, rfl, q5, q2, q6, hx2, q3, fun b hb => ?_⟩
        obtain ⟨t, ht⟩ := q4 b hb
        rcases h4.sub t b ht with ⟨_, h⟩ | h
        · simp at h
        · exact h
      cases e with
      | normal => exact key h1
      | ret => exact key h1
      | exit id => cases h1
end
end Go.Proofs.Ytgcjhcefpkbheaa.Lg
end

section
namespace Go.Proofs.Ytgcjhcefpkbheaa.Lg
open Go
variable {Lz : PM}
section
variable {P : Program} {T : Tab} {E : CallS} {LT : Nat → Option LoopS}

theorem paramsO_rep {Pr : PM} {w : World} {ts : Array Value} : ∀ (vs : List SV) (vals : List Value) (Bs : List (List Nat)) (i : Nat), RepSs Lz Pr w vs vals Bs → Bs.flatten.Nodup → (∀ x ∈ vs, x.isRefl = false) → (∀ j v, vals[j]? = some v → ts.getD (i + j) undef = v) →
    ∃ F, RepF Lz Pr w (paramsO i vs) ts F ∧ (∀ t, t < i → F t = []) ∧ ∀ t b, b ∈ F t → b ∈ Bs.flatten
  | [], [], [], i, _, _, _, _ => ⟨fun _ => [], ⟨fun t => by simp [paramsO, look1, RepS], fun _ => List.nodup_nil, fun _ _ _ b hb => by simp at hb, fun t pre d rest hf => by simp [paramsO, find] at hf, fun t pre d o rest hf => by simp [paramsO, find] at hf, fun t pre d k rest hf => by simp [paramsO, find] at hf, fun t pre d o rest hf => by simp [paramsO, find] at hf⟩, by simp, by simp⟩
  | v :: vs, u :: vals, B :: Bs, i, h, hn, hr, hg => by
    simp only [RepSs] at h
    rw [List.flatten_cons, List.nodup_append] at hn
    obtain ⟨F, h1, h2, h3⟩ := paramsO_rep vs vals Bs (i + 1) h.2 hn.2.1 (fun x hx => hr x (List.mem_cons_of_mem _ hx)) (fun j x hx => by have := hg (j + 1) x (by simpa using hx); rw [← this]; congr 1; omega)
    have hu : ts.getD i undef = u := by have := hg 0 u (by simp); simpa using this
    have hv := hr v List.mem_cons_self
    refine ⟨fun t => if t = i then B else F t, h1.bind (fun _ _ => rfl) (by rw [hu]; exact h.1) hn.1 (fun t _ b hb q => hn.2.2 b hb b (h3 t b q) rfl) (fun _ => rfl) ?_ ?_ ?_ (fun d' k e => by subst e; simp [SV.isRefl] at hv), ?_, ?_⟩
    · intro d' e; subst e; simp [SV.isRefl] at hv
    · intro d' o e; subst e; simp [SV.isRefl] at hv
    · intro d' o e; subst e; simp [SV.isRefl] at hv
    · intro t ht
      show (if t = i then B else F t) = []
      rw [if_neg (by omega)]; exact h2 t (by omega)
    · intro t b hb
      rw [List.flatten_cons, List.mem_append]
      by_cases e : t = i
      · simp only [if_pos e] at hb; exact .inl hb
      · simp only [if_neg e] at hb; exact .inr (h3 t b hb)
  | [], _ :: _, _, _, h, _, _, _ => by simp [RepSs] at h
  | _ :: _, [], _, _, h, _, _, _ => by simp [RepSs] at h
  | [], [], _ :: _, _, h, _, _, _ => by simp [RepSs] at h
  | _ :: _, _ :: _, [], _, h, _, _, _ => by simp [RepSs] at h

theorem boxOuts_sound {Pr : PM} {w : World} {fr : Fr} {ts : Array Value} {F : Nat → List Nat} (hF : RepF Lz Pr w fr ts F) : ∀ (args : List SV) (vals : List Value) (i : Nat) (os : List SV), args.length = vals.length → boxOuts i args fr = some os →
    (∀ j, i + j ∈ boxIdx i args → ∀ v, vals[j]? = some v → ts.getD (i + j) undef = v) →
    RepSs Lz Pr w os (boxVals args vals) ((boxIdx i args).map F) ∧ (boxIdx i args).Nodup ∧ (∀ t ∈ boxIdx i args, i ≤ t ∧ ∀ es l, look1 t fr ≠ .app es l)
  | [], [], i, os, _, he, _ => by
    simp [boxOuts] at he; subst he
    simp [boxVals, boxIdx, RepSs]
  | [], _ :: _, _, _, hl, _, _ => by simp at hl
  | _ :: _, [], _, _, hl, _, _ => by simp at hl
  | x :: args, v :: vals, i, os, hl, he, hv => by
    have hl' : args.length = vals.length := by simpa using hl
    have rest : ∀ os', boxOuts (i + 1) args fr = some os' → (∀ t ∈ boxIdx (i + 1) args, t ∈ boxIdx i (x :: args)) → RepSs Lz Pr w os' (boxVals args vals) ((boxIdx (i + 1) args).map F) ∧ (boxIdx (i + 1) args).Nodup ∧ (∀ t ∈ boxIdx (i + 1) args, i + 1 ≤ t ∧ ∀ es l, look1 t fr ≠ .app es l) := by
      intro os' h1 h2
      refine boxOuts_sound hF args vals (i + 1) os' hl' h1 fun j hj u hu => ?_
      have := hv (j + 1) (by rw [show i + (j + 1) = i + 1 + j by omega]; exact h2 _ hj) u (by simpa using hu)
      rw [show i + 1 + j = i + (j + 1) by omega]; exact this
    cases x with
    | box nw cs =>
      simp only [boxOuts] at he
      split at he
      · rename_i nw' cs' os' hl1 ho1
        simp at he; subst he
        obtain ⟨q1, q2, q3⟩ := rest os' ho1 (fun t ht => by simp only [boxIdx]; exact List.mem_cons_of_mem _ ht)
        have hr := hF.rep i
        rw [hl1] at hr
        have hvi : ts.getD i undef = v := by have := hv 0 (by simp [boxIdx]) v (by simp); simpa using this
        rw [hvi] at hr
        refine ⟨?_, ?_, ?_⟩
        · simp only [boxIdx, boxVals, List.map_cons, RepSs]
          refine ⟨?_, q1⟩
          simp only [RepS] at hr ⊢
          exact hr
        · simp only [boxIdx]
          exact List.nodup_cons.2 ⟨fun h => by have := (q3 i h).1; omega, q2⟩
        · intro t ht
          simp only [boxIdx] at ht
          rcases List.mem_cons.1 ht with rfl | ht
          · exact ⟨Nat.le_refl _, fun es l e => by rw [hl1] at e; cases e⟩
          · exact ⟨by have := (q3 t ht).1; omega, (q3 t ht).2⟩
      · cases he
    | own es l =>
      simp only [boxOuts] at he
      split at he
      · rename_i es' l' os' hl1 ho1
        simp at he; subst he
        obtain ⟨q1, q2, q3⟩ := rest os' ho1 (fun t ht => by simp only [boxIdx]; exact List.mem_cons_of_mem _ ht)
        have hr := hF.rep i
        rw [hl1] at hr
        have hvi : ts.getD i undef = v := by have := hv 0 (by simp [boxIdx]) v (by simp); simpa using this
        rw [hvi] at hr
        refine ⟨?_, ?_, ?_⟩
        · simp only [boxIdx, boxVals, List.map_cons, RepSs]
          exact ⟨hr, q1⟩
        · simp only [boxIdx]
          exact List.nodup_cons.2 ⟨fun h => by have := (q3 i h).1; omega, q2⟩
        · intro t ht
          simp only [boxIdx] at ht
          rcases List.mem_cons.1 ht with rfl | ht
          · exact ⟨Nat.le_refl _, fun es l e => by rw [hl1] at e; cases e⟩
          · exact ⟨by have := (q3 t ht).1; omega, (q3 t ht).2⟩
      · cases he
    | _ =>
      simp only [boxOuts] at he
      obtain ⟨q1, q2, q3⟩ := rest os he (fun t ht => by simpa only [boxIdx] using ht)
      refine ⟨by simpa only [boxIdx, boxVals] using q1, by simpa only [boxIdx] using q2, fun t ht => ?_⟩
      simp only [boxIdx] at ht
      exact ⟨by have := (q3 t ht).1; omega, (q3 t ht).2⟩

theorem resO_sound {Pr : PM} {w : World} {fr : Fr} {fn : Func} {a : Act} {F : Nat → List Nat} {sv : SV} (hC : Cx P T) (hF : RepF Lz Pr w fr a.tmps F) (h : resO T fn fr = some sv) :
    ∃ v B, (results fn a.tmps).run P w = .ok v w ∧ RepS Lz Pr w sv v B ∧ sv.free = true ∧ (B = [] ∨ ∃ t es l, B = F t ∧ look1 t fr = .app es l) := by
  have hrun : ∀ us, (fn.results.toList.mapM (resRead a.tmps)).run P w = .ok us w → (results fn a.tmps).run P w = .ok (if h : us.length = 1 then us[0] else .tuple us.toArray) w := by
    intro us hus
    rw [results_eq]
    simp [Array.mapM_eq_mapM_toList, hus]
  unfold resO at h
  split at h
  · rename_i t hr
    have := hrun [a.tmps.getD t undef] (by rw [hr]; simp [resRead])
    simp only [List.length_singleton, dite_true, List.getElem_cons_zero] at this
    split at h
    · rename_i es l hl
      simp at h; subst h
      have hrep := hF.rep t
      rw [hl] at hrep
      exact ⟨_, _, this, hrep, rfl, .inr ⟨t, es, l, rfl, hl⟩⟩
    · split at h
      · rename_i v hv
        simp at h; subst h
        exact ⟨_, [], this, by simp only [RepS]; exact ⟨rd_sound hF hv, trivial⟩, rfl, .inl rfl⟩
      · cases h
  · rename_i x _ hr
    cases hv : resV T fr x with
    | none => rw [hv] at h; simp at h
    | some v =>
      rw [hv] at h; simp at h; subst h
      obtain ⟨u, q1, q2⟩ := resV_sound hC hF hv
      have := hrun [u] (by rw [hr]; simp [q1])
      simp only [List.length_singleton, dite_true, List.getElem_cons_zero] at this
      exact ⟨u, [], this, by simp only [RepS]; exact ⟨q2, trivial⟩, rfl, .inl rfl⟩
  · rename_i hne1 hne
    cases hv : resVs T fr fn.results.toList with
    | none => rw [hv] at h; simp at h
    | some l =>
      rw [hv] at h; simp at h; subst h
      obtain ⟨us, q1, q2, hlen⟩ := resVs_sound hC hF _ l hv
      have := hrun us q1
      rw [dif_neg] at this
      · exact ⟨_, [], this, by simp only [RepS, RepA]; exact ⟨⟨_, rfl, by simpa using q2⟩, trivial⟩, rfl, .inl rfl⟩
      · rw [hlen]
        intro e
        obtain ⟨x, hx⟩ := List.length_eq_one_iff.1 e
        exact hne x hx

theorem flat_nodup {F : Nat → List Nat} (hn : ∀ t, (F t).Nodup) (ha : ∀ t t', t ≠ t' → ∀ b ∈ F t, b ∉ F t') : ∀ (l : List Nat), l.Nodup → (l.map F).flatten.Nodup
  | [], _ => List.nodup_nil
  | t :: l, h => by
    rw [List.nodup_cons] at h
    rw [List.map_cons, List.flatten_cons, List.nodup_append]
    refine ⟨hn t, flat_nodup hn ha l h.2, fun x hx y hy e => ?_⟩
    subst e
    rw [List.mem_flatten] at hy
    obtain ⟨B, hB, hxB⟩ := hy
    rw [List.mem_map] at hB
    obtain ⟨t', ht', rfl⟩ := hB
    exact ha t t' (fun e => h.1 (e ▸ ht')) x hx hxB

/-- A function does what its code comes to. -/
theorem sat_ofO {g : Nat} {fn : Func} {c : Code} {sp : OSpec} (hC : Cx P T) (hE : SatE P E) (hm : P.follows .mixedOrders = true) (hf : P.funcs[g]? = some fn) (hname : (fn.name == "runtime.NumGoroutine") = false)
    (hb : fn.body = some c) (hwr : (wr c).all (fun d => Nat.blt d fn.ntmps) = true) (hev : ∀ args sv outs, (sp.f args).Out (sv, outs) → evFO T E LT fn args = some (sv, outs)) (hl : LoopsOK T E LT c) : SatO P g sp := by
  refine ⟨⟨fn, hf, hname, by simp [hb]⟩, fun args sv outs hout => ?_⟩
  have hv := hev args sv outs hout
  unfold evFO at hv
  rw [hb] at hv
  simp only at hv
  replace hv := bif_some hv; obtain ⟨hidx, hv⟩ := hv
  intro Lz Pr w vals Bs hJ hr hnd hrefl hP
  refine calls_of_wp hf hb ?_
  have hlen := RepSs.length _ _ _ hr
  have hget : ∀ j v, vals[j]? = some v → (vals.toArray ++ Array.replicate (fn.ntmps - vals.toArray.size) undef).getD j undef = v := fun j v hj => by
    have : j < vals.length := (List.getElem?_eq_some_iff.1 hj).1
    simp [Array.getD_eq_getD_getElem?, Array.getElem?_append, this]
    exact (List.getElem?_eq_some_iff.1 hj).2
  obtain ⟨F, hF, _, hsub⟩ := paramsO_rep (ts := vals.toArray ++ Array.replicate (fn.ntmps - vals.toArray.size) undef) args vals Bs 0 hr hnd hrefl (fun j v hj => by rw [Nat.zero_add]; exact hget j v hj)
  refine evC_sound hC hE (drawSound hC hE hm) (regSound hC hE hm) c hl (a := { tmps := vals.toArray ++ Array.replicate (fn.ntmps - vals.toArray.size) undef, defers := [] }) hv (hJ.sub fun t b h => ⟨0, hsub t b h⟩) hF hP ?_ ?_
  · intro d hd
    have := List.all_eq_true.1 hwr d hd
    rw [Nat.blt_eq] at this
    simp; omega
  · intro e fr' Pr' w' a' F' h1 h2 h3 h4
    have key : (match resO T fn fr', boxOuts 0 args fr' with | some sv, some os => some (sv, os) | _, _ => none) = some (sv, outs) → a'.defers = [] ∧ ∃ v, (results fn a'.tmps).run P w' = .ok v w' ∧ ∃ v' Pr2 B Bs', Ending.returned v = .returned v' ∧ sv.free = true ∧ RepS Lz Pr2 w' sv v' B ∧ RepSs Lz Pr2 w' outs (boxVals args vals) Bs' ∧ PrOK Pr2 w' ∧ Ext (fun b => b ∈ Bs.flatten) Pr w Pr2 w' ∧ (B ++ Bs'.flatten).Nodup ∧ ∀ b ∈ B ++ Bs'.flatten, b ∈ Bs.flatten ∨ w.heap.size ≤ b := by
      intro h
      split at h
      · rename_i sv1 os1 r1 r2
        simp only [Option.some.injEq, Prod.mk.injEq] at h
        obtain ⟨rfl, rfl⟩ := h
        obtain ⟨v, B, q1, q2, q3, q4⟩ := resO_sound hC h2 r1
        obtain ⟨p1, p2, p3⟩ := boxOuts_sound h2 args vals 0 os1 hlen.1.symm r2 (fun j hj v hjv => by
          rw [Nat.zero_add] at hj ⊢
          have := List.all_eq_true.1 hidx j hj
          rw [h4.same j (fun q => by
            have q2 : memN (wr c) j = true := List.any_eq_true.2 ⟨j, q, by simp⟩
            rw [q2] at this; cases this)]
          exact hget j v hjv)
        have hBs : ∀ b, b ∈ B → ∃ t, b ∈ F' t := by
          intro b hb
          rcases q4 with q | ⟨t, es, l, q, _⟩
          · rw [q] at hb; simp at hb
          · exact ⟨t, q ▸ hb⟩
        refine ⟨h4.defers, v, q1, v, Pr', B, _, rfl, q3, q2, p1, h3, h4.ext.weaken fun b ⟨t, hb⟩ => hsub t b hb, ?_, ?_⟩
        · rw [List.nodup_append]
          refine ⟨?_, flat_nodup h2.nodup h2.apart _ p2, fun x hx y hy e => ?_⟩
          · rcases q4 with q | ⟨t, es, l, q, _⟩
            · rw [q]; exact List.nodup_nil
            · rw [q]; exact h2.nodup t
          · subst e
            rw [List.mem_flatten] at hy
            obtain ⟨B', hB', hxB⟩ := hy
            rw [List.mem_map] at hB'
            obtain ⟨t', ht', rfl⟩ := hB'
            obtain ⟨_, hbx⟩ := p3 t' ht'
            rcases q4 with q | ⟨t, es, l, q, q'⟩
            · rw [q] at hx; simp at hx
            · rw [q] at hx
              exact h2.apart t t' (fun e => hbx es l (by rw [← e]; exact q')) x hx hxB
        · intro b hb
          have : ∃ t, b ∈ F' t := by
            rcases List.mem_append.1 hb with hb | hb
            · exact hBs b hb
            · rw [List.mem_flatten] at hb
              obtain ⟨B', hB', hxB⟩ := hb
              rw [List.mem_map] at hB'
              obtain ⟨t', _, rfl⟩ := hB'
              exact ⟨t', hxB⟩
          obtain ⟨t, ht⟩ := this
          rcases h4.sub t b ht with ⟨t', q⟩ | q
          · exact .inl (hsub t' b q)
          · exact .inr q
      · cases h
    cases e with
    | normal => exact key h1
    | ret => exact key h1
    | exit id => cases h1
theorem satO_lim {g : Nat} {own : List Bool} {S : Nat → List SV → Tr (SV × List SV)} {S' : List SV → Tr (SV × List SV)} (h : ∀ N, SatO P g ⟨own, S N⟩) (hS : ∀ vs x, (S' vs).Out x → ∃ N, (S N vs).Out x) : SatO P g ⟨own, S'⟩ :=
  ⟨(h 0).fn, fun vs sv outs ho => by
    obtain ⟨N, hn⟩ := hS vs _ ho
    exact (h N).calls vs sv outs hn⟩
theorem satO_zero {g : Nat} {fn : Func} {c : Code} {sp : OSpec} (hf : P.funcs[g]? = some fn) (hname : (fn.name == "runtime.NumGoroutine") = false) (hb : fn.body = some c) (h : ∀ vs x, ¬ (sp.f vs).Out x) : SatO P g sp :=
  ⟨⟨fn, hf, hname, by simp [hb]⟩, fun vs sv outs ho => absurd ho (h vs _)⟩
end
end Go.Proofs.Ytgcjhcefpkbheaa.Lg
end
