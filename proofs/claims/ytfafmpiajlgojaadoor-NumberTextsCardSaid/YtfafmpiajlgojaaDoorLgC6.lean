/- Part of a proof of the seat's statements: no statement by itself. -/
import Derived.Test.YtfafmpiajlgojaaDoorLgC5
namespace Go.Proofs.YtfafmpiajlgojaaDoor.Lg
open Go
section
variable {P : Program} {T : Tab} {E : CallE} {LT : Nat → Option LoopS}

theorem params_rep {Pr : PM} {w : World} : ∀ (vs : List AV) (vals : List Value) (i : Nat) (ts : Array Value), RepAs Pr vs vals → (∀ j v, vals[j]? = some v → ts.getD (i + j) undef = v) → RepF Pr w (params i vs) ts (fun _ => [])
  | [], vals, i, ts, _, _ => ⟨fun t => by simp [params, look1, RepS], fun _ => List.nodup_nil, fun _ _ _ b hb => by simp at hb, fun t pre d rest hf => by simp [params, find] at hf, fun t pre d o rest hf => by simp [params, find] at hf, fun t pre d o rest hf => by simp [params, find] at hf⟩
  | v :: vs, [], i, ts, h, _ => by simp [RepAs] at h
  | v :: vs, u :: vals, i, ts, h, hg => by
    simp only [RepAs] at h
    have ih := params_rep (w := w) vs vals (i + 1) ts h.2 (fun j x hx => by have := hg (j + 1) x (by simpa using hx); rw [← this]; congr 1; omega)
    have hu : RepA Pr v (ts.getD i undef) := by have := hg 0 u (by simp); simp at this; rw [show ts.getD i undef = u by simpa using this]; exact h.1
    have hs : RepS Pr w (pSV v) (ts.getD i undef) [] := by
      cases v with
      | pt cs => simp only [pSV, RepS]; simp only [RepA] at hu; exact ⟨hu, trivial⟩
      | _ => simp only [pSV, RepS]; exact ⟨hu, trivial⟩
    have := ih.plain (d := i) (ts' := ts) (sv := pSV v) (fun _ _ => rfl) hs (by cases v <;> rfl) (by cases v <;> simp [pSV]) (by cases v <;> simp [pSV])
    have e : (fun t => if t = i then [] else (fun _ : Nat => ([] : List Nat)) t) = fun _ => [] := by funext t; simp
    rw [e] at this
    exact this

theorem rdSV_sound' {Pr : PM} {w : World} {fr : Fr} {ts : Array Value} {F : Nat → List Nat} (h : RepF Pr w fr ts F) (t : Nat) :
    ∃ B, (∀ b ∈ B, ∃ d, b ∈ F d) ∧ B.Nodup ∧ RepS Pr w (rdSV t fr) (ts.getD t undef) B := by
  unfold rdSV
  cases hf : find t fr [] with
  | none => exact ⟨[], by simp, List.nodup_nil, by simp [RepS]⟩
  | some p =>
    obtain ⟨pre, sv, rest⟩ := p
    have hl := find_look t fr [] pre sv rest hf
    have hr := h.rep t
    rw [hl] at hr
    cases sv with
    | al d off =>
      simp only
      cases hb : bound d pre
      · simp only [cond_false]
        have hrest := find_rest t d fr pre _ rest hf hb
        cases off with
        | none =>
          simp only
          have hd := h.rep d
          rw [hrest] at hd
          rw [h.alias0 t pre d rest hf hb]
          exact ⟨F d, fun b hb => ⟨d, hb⟩, h.nodup d, hd⟩
        | some o =>
          have hd := h.rep d
          rw [hrest] at hd
          cases hx : look1 d rest with
          | box nw cs =>
            simp only
            rw [hx] at hd
            simp only [RepS] at hd
            obtain ⟨b, c, T, Bs, hv, hb', _, hB, hss⟩ := hd
            obtain ⟨b2, c2, T2, q1, q2, q3, q4⟩ := h.alias1 t pre d o rest hf hb
            rw [hv] at q1
            simp at q1; subst q1
            rw [hb'] at q3
            simp at q3
            obtain ⟨rfl, rfl⟩ := q3
            obtain ⟨B, h1, _, h3⟩ := RepSs.cell cs c.toList Bs hss o (ts.getD t undef) (by rw [← q4]; simp)
            have hn := h.nodup d
            rw [hB] at hn
            exact ⟨B, fun x hx => ⟨d, by rw [hB]; exact List.mem_cons_of_mem _ (List.mem_flatten.2 ⟨B, List.mem_of_getElem? h1, hx⟩)⟩, (List.pairwise_flatten.1 (List.nodup_cons.1 hn).2).1 B (List.mem_of_getElem? h1), h3⟩
          | _ => exact ⟨[], by simp, List.nodup_nil, by simp [RepS]⟩
      · exact ⟨[], by simp, List.nodup_nil, by simp [RepS]⟩
    | _ => exact ⟨F t, fun b hb => ⟨t, hb⟩, h.nodup t, hr⟩

def resRead (ts : Array Value) : ResultVar → Sem Value
  | .tmp t => pure (ts.getD t undef)
  | .cell a t => do loadVar t (← asAddr (ts.getD a undef))

theorem resV_sound {Pr : PM} {w : World} {fr : Fr} {ts : Array Value} {F : Nat → List Nat} (hC : Cx P T) (hF : RepF Pr w fr ts F) {x : ResultVar} {v : AV} (h : resV T fr x = some v) :
    ∃ u, (resRead ts x).run P w = .ok u w ∧ RepA Pr v u := by
  cases x with
  | tmp t => exact ⟨_, by simp [resRead], rd_sound hF h⟩
  | cell a t =>
    simp only [resV] at h
    replace h := withT_some h; obtain ⟨i, hi, h⟩ := h
    obtain ⟨tf⟩ := hC.facts hi
    split at h
    · rename_i d hr
      cases hbx : boxOf d fr with
      | none => simp [hbx] at h
      | some cs =>
        simp only [hbx, Option.bind_some] at h
        obtain ⟨b, c, T', nw, Bs, hv, hv0, hl, hbl, hpr, hB, hss⟩ := root_sound hF hr hbx
        cases hds : cellsD cs with
        | none => simp [hds] at h
        | some ds =>
          simp only [hds, Option.bind_some] at h
          cases ha : i.agg
          · rw [ha] at h; simp at h
          · rw [ha, cond_true] at h
            cases hb : Nat.beq ds.length i.sh.length
            · rw [hb] at h; simp at h
            · rw [hb, cond_true] at h
              simp at h; subst h
              have hb' := Nat.eq_of_beq_eq_true hb
              have h1 := RepSs.cellsD _ _ _ ds hss hds
              have hl1 := RepDs.length _ _ h1
              have := (run_loadAt (w := w) tf (b := b) (o := 0) (us := c.toList) (by rw [hl1, hb']) (fun j u hj => by
                rw [cell_cells hbl]; simpa using hj)).1 ha
              refine ⟨_, ?_, by simp only [RepA]; exact ⟨_, rfl, h1⟩⟩
              simpa [resRead, hv, Instr.loadAt, Instr.sureAddr, asAddr] using this
    · cases h

theorem resVs_sound {Pr : PM} {w : World} {fr : Fr} {ts : Array Value} {F : Nat → List Nat} (hC : Cx P T) (hF : RepF Pr w fr ts F) : ∀ (rs : List ResultVar) (l : List AV), resVs T fr rs = some l →
    ∃ us, (rs.mapM (resRead ts)).run P w = .ok us w ∧ RepAs Pr l us ∧ us.length = rs.length
  | [], l, h => by simp [resVs] at h; subst h; exact ⟨[], by simp, by simp [RepAs], rfl⟩
  | x :: rs, l, h => by
    simp only [resVs] at h
    split at h
    · rename_i v l' h1 h2
      simp at h; subst h
      obtain ⟨u, q1, q2⟩ := resV_sound hC hF h1
      obtain ⟨us, q3, q4, q5⟩ := resVs_sound hC hF rs l' h2
      exact ⟨u :: us, by simp [List.mapM_cons, q1, q3], by simp only [RepAs]; exact ⟨q2, q4⟩, by simp [q5]⟩
    · cases h

theorem results_eq (fn : Func) (ts : Array Value) : results fn ts = (do let vs ← fn.results.mapM (resRead ts); pure (if h : vs.size = 1 then vs[0] else .tuple vs)) := rfl

theorem resOf_sound {Pr : PM} {w : World} {fr : Fr} {fn : Func} {a : Act} {F : Nat → List Nat} {sv : SV} (hC : Cx P T) (hF : RepF Pr w fr a.tmps F) (h : resOf T fn fr = some sv) :
    ∃ v B, (results fn a.tmps).run P w = .ok v w ∧ RepS Pr w sv v B ∧ B.Nodup ∧ (∀ b ∈ B, ∃ t, b ∈ F t) ∧ sv.free = true := by
  have hrun : ∀ us, (fn.results.toList.mapM (resRead a.tmps)).run P w = .ok us w → (results fn a.tmps).run P w = .ok (if h : us.length = 1 then us[0] else .tuple us.toArray) w := by
    intro us hus
    rw [results_eq]
    simp [Array.mapM_eq_mapM_toList, hus]
  unfold resOf at h
  split at h
  · rename_i t hr
    have := hrun [a.tmps.getD t undef] (by rw [hr]; simp [resRead])
    simp only [List.length_singleton, dite_true, List.getElem_cons_zero] at this
    have hn : ∃ B, (∀ b ∈ B, ∃ d, b ∈ F d) ∧ B.Nodup ∧ RepS Pr w (rdSV t fr) (a.tmps.getD t undef) B := rdSV_sound' hF t
    obtain ⟨B, h1, h2, h3⟩ := hn
    split at h
    · rename_i v hv
      simp at h; subst h
      rw [hv] at h3
      exact ⟨_, B, this, h3, h2, h1, rfl⟩
    · rename_i es l hv
      simp at h; subst h
      rw [hv] at h3
      exact ⟨_, B, this, h3, h2, h1, rfl⟩
    · cases h
  · rename_i x _ hr
    cases hv : resV T fr x with
    | none => rw [hv] at h; simp at h
    | some v =>
      rw [hv] at h; simp at h; subst h
      obtain ⟨u, q1, q2⟩ := resV_sound hC hF hv
      have := hrun [u] (by rw [hr]; simp [q1])
      simp only [List.length_singleton, dite_true, List.getElem_cons_zero] at this
      exact ⟨u, [], this, by simp only [RepS]; exact ⟨q2, trivial⟩, List.nodup_nil, by simp, rfl⟩
  · rename_i hne1 hne
    cases hv : resVs T fr fn.results.toList with
    | none => rw [hv] at h; simp at h
    | some l =>
      rw [hv] at h; simp at h; subst h
      obtain ⟨us, q1, q2, hlen⟩ := resVs_sound hC hF _ l hv
      have := hrun us q1
      rw [dif_neg] at this
      · exact ⟨_, [], this, by simp only [RepS, RepA]; exact ⟨⟨_, rfl, by simpa using q2⟩, trivial⟩, List.nodup_nil, by simp, rfl⟩
      · rw [hlen]
        intro e
        obtain ⟨x, hx⟩ := List.length_eq_one_iff.1 e
        exact hne x hx

/-- A function does what its code comes to. -/
theorem sat_of {g : Nat} {fn : Func} {c : Code} {S : List AV → Tr SV} (hC : Cx P T) (hE : SatE P E) (hm : P.follows .mixedOrders = true) (hf : P.funcs[g]? = some fn) (hname : (fn.name == "runtime.NumGoroutine") = false)
    (hb : fn.body = some c) (hwr : (wr c).all (fun d => Nat.blt d fn.ntmps) = true) (hev : ∀ vs sv, (S vs).Out sv → evF T E LT fn vs = some sv) (hl : LoopsOK T E LT c) : Sat P g S := by
  refine ⟨⟨fn, hf, hname, by simp [hb]⟩, fun vs sv hout => ?_⟩
  have hv := hev vs sv hout
  unfold evF at hv
  rw [hb] at hv
  simp only at hv
  intro Pr w vals hJ hr hP
  · refine calls_of_wp hf hb ?_
    have hF : RepF Pr w (params 0 vs) (vals.toArray ++ Array.replicate (fn.ntmps - vals.toArray.size) undef) (fun _ => []) := params_rep vs vals 0 _ hr fun j v hj => by
      have : j < vals.length := (List.getElem?_eq_some_iff.1 hj).1
      simp [Array.getD_eq_getD_getElem?, Array.getElem?_append, this, hj]
      have := (List.getElem?_eq_some_iff.1 hj).2
      exact this
    refine evC_sound hC hE (drawSound hC hE hm) c hl (a := { tmps := vals.toArray ++ Array.replicate (fn.ntmps - vals.toArray.size) undef, defers := [] }) hv ⟨hJ, fun _ _ _ h => by simp at h⟩ hF hP ?_ ?_
    · intro d hd
      have := List.all_eq_true.1 hwr d hd
      rw [Nat.blt_eq] at this
      simp; omega
    · intro e fr' Pr' w' a' F' h1 h2 h3 h4
      have key : resOf T fn fr' = some sv → a'.defers = [] ∧ ∃ v, (results fn a'.tmps).run P w' = .ok v w' ∧ ∃ v' Pr2 B, Ending.returned v = .returned v' ∧ sv.free = true ∧ RepS Pr2 w' sv v' B ∧ PrOK Pr2 w' ∧ Ext (fun _ => False) Pr w Pr2 w' ∧ B.Nodup ∧ ∀ b ∈ B, w.heap.size ≤ b := by
        intro h
        obtain ⟨v, B, q1, q2, q3, q4, q5⟩ := resOf_sound hC h2 h
        refine ⟨h4.defers, v, q1, v, Pr', B, rfl, q5, q2, h3, h4.ext.weaken fun b ⟨t, hb⟩ => by simp at hb, q3, fun b hb => ?_⟩
        obtain ⟨t, ht⟩ := q4 b hb
        rcases h4.sub t b ht with ⟨_, h⟩ | h
        · simp at h
        · exact h
      cases e with
      | normal => exact key h1
      | ret => exact key h1
      | exit id => cases h1
end
end Go.Proofs.YtfafmpiajlgojaaDoor.Lg
