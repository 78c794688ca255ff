/- Part of a proof of the seat's statements: no statement by itself. -/
import Derived.Test.YtcmdlllcjpbbkaaLgC4
namespace Go.Proofs.Ytcmdlllcjpbbkaa.Lg
open Go
section
variable {P : Program} {T : Tab} {E : CallE}

/-- What is told of slots, without an order. -/
structure RepG (W : List Nat) (Pr : PM) (w : World) (cur : Nat → SV) (ts : Array Value) (F : Nat → List Nat) : Prop where
  rep : ∀ t, RepS Pr w (cur t) (ts.getD t undef) (F t)
  nodup : ∀ t, (F t).Nodup
  apart : ∀ t t', t ≠ t' → ∀ b ∈ F t, b ∉ F t'
  al0 : ∀ t d, cur t = .al d none → d ∉ W ∧ ts.getD t undef = ts.getD d undef
  al1 : ∀ t d o, cur t ≠ .al d (some o)
  ref : ∀ t d o, cur t = .ref d o → d ∉ W ∧ ∃ b, ts.getD d undef = .pointer (some ⟨b, 0, none⟩) ∧ ts.getD t undef = .pointer (some ⟨b, o, none⟩)

theorem find_none_look (t : Nat) (fr : Fr) (pre : List (Nat × Bool)) (sv : SV) (rest : Fr) (h : find t fr [] = some (pre, sv, rest)) : look1 t fr = sv := find_look t fr [] pre sv rest h

open Classical in
/-- A frame that says no more. -/
theorem RepG.frame {W : List Nat} {Pr : PM} {w : World} {cur : Nat → SV} {ts : Array Value} {F : Nat → List Nat} (h : RepG W Pr w cur ts F) (fr : Fr) (hl : ∀ t, look1 t fr = cur t ∨ look1 t fr = .unk) :
    RepF Pr w fr ts (fun t => if look1 t fr = cur t then F t else []) := by
  refine ⟨fun t => ?_, fun t => ?_, fun t t' ne b hb => ?_, fun t pre d rest hf _ => ?_, fun t pre d o rest hf _ => ?_, fun t pre d o rest hf _ => ?_⟩
  · rcases hl t with e | e
    · simp only [if_pos e]; rw [e]; exact h.rep t
    · by_cases q : look1 t fr = cur t
      · simp only [if_pos q]; rw [q]; exact h.rep t
      · simp only [if_neg q]; rw [e]; simp [RepS]
  · by_cases q : look1 t fr = cur t
    · simp only [if_pos q]; exact h.nodup t
    · simp only [if_neg q]; exact List.nodup_nil
  · by_cases q : look1 t fr = cur t
    · simp only [if_pos q] at hb
      by_cases q' : look1 t' fr = cur t'
      · simp only [if_pos q']; exact h.apart t t' ne b hb
      · simp only [if_neg q']; simp
    · simp only [if_neg q] at hb; simp at hb
  · have := find_look t fr [] _ _ _ hf
    rcases hl t with e | e
    · exact (h.al0 t d (by rw [← e, this])).2
    · rw [this] at e; cases e
  · have := find_look t fr [] _ _ _ hf
    rcases hl t with e | e
    · exact absurd (by rw [← e, this]) (h.al1 t d o)
    · rw [this] at e; cases e
  · have := find_look t fr [] _ _ _ hf
    rcases hl t with e | e
    · exact (h.ref t d o (by rw [← e, this])).2
    · rw [this] at e; cases e

theorem RepG.start {W : List Nat} {Pr : PM} {w : World} {fr : Fr} {ts : Array Value} {F : Nat → List Nat} (h : RepF Pr w fr ts F) : RepG W Pr w (fun t => lookL t fr) ts F :=
  ⟨fun t => lookL_rep h t, h.nodup, h.apart, fun t d e => absurd e ((lookL_noal t fr).1 d none), fun t d o e => (lookL_noal t fr).1 d (some o) e, fun t d o e => absurd e ((lookL_noal t fr).2 d o)⟩

theorem look1_append (t : Nat) (g : Fr) : ∀ fr : Fr, look1 t (fr ++ g) = match lookE t fr with | some sv => sv | none => look1 t g
  | [] => rfl
  | (x, sv) :: fr => by
    simp only [List.cons_append, look1, lookE]
    cases Nat.beq x t
    · simp only [cond_false]; exact look1_append t g fr
    · simp
theorem look1_mem (t : Nat) : ∀ fr : Fr, look1 t fr = .unk ∨ (t, look1 t fr) ∈ fr
  | [] => .inl rfl
  | (x, sv) :: fr => by
    simp only [look1]
    by_cases e : x = t
    · subst e; simp
    · rw [beq_false e, cond_false]
      exact (look1_mem t fr).imp id (fun h => List.mem_cons_of_mem _ h)
theorem look1_clean (t : Nat) (fr : Fr) : look1 t (clean fr) = lookL t fr ∨ look1 t (clean fr) = .unk := by
  rcases look1_mem t (clean fr) with h | h
  · exact .inr h
  · left
    have h2 : ∃ x ∈ fr, (x.1, lookL x.1 fr) = (t, look1 t (clean fr)) := List.mem_map.1 h
    obtain ⟨x, _, e⟩ := h2
    simp only [Prod.mk.injEq] at e
    rw [← e.2, e.1]
theorem look1_nobind (t : Nat) : ∀ fr : Fr, (∀ x ∈ fr, x.1 ≠ t) → look1 t fr = .unk
  | [], _ => rfl
  | (x, sv) :: fr, h => by
    simp only [look1]
    rw [beq_false (h (x, sv) List.mem_cons_self), cond_false]
    exact look1_nobind t fr fun y hy => h y (List.mem_cons_of_mem _ hy)
theorem look1_final (t : Nat) (fr0 env : Fr) : look1 t (env ++ clean fr0) = curOf fr0 env t ∨ look1 t (env ++ clean fr0) = .unk := by
  rw [look1_append]
  unfold curOf
  cases lookE t env with
  | some sv => exact .inl rfl
  | none => exact look1_clean t fr0

theorem selC_mem {fr0 : Fr} {cur : Nat → SV} {l : List Nat} {x : Nat × SV} (h : x ∈ selC fr0 cur l) : (x.1 ∈ l ∧ x.2 = cur x.1) ∨ (∃ t ∈ l, x.1 ∈ rootOf (cur t)) ∧ x.2 = lookL x.1 fr0 := by
  simp only [selC, List.mem_append, List.mem_filter, List.mem_map, List.mem_flatMap] at h
  rcases h with (⟨⟨t, ht, rfl⟩, _⟩ | ⟨⟨t, ht, rfl⟩, _⟩) | ⟨d, ⟨y, ⟨t, ht, rfl⟩, hd⟩, rfl⟩
  · exact .inl ⟨ht, rfl⟩
  · exact .inl ⟨ht, rfl⟩
  · exact .inr ⟨⟨t, ht, hd⟩, rfl⟩

theorem san_al {W : List Nat} {d x : Nat} {o : Option Nat} {fr : Fr} (h : san W d fr = .al x o) : x ∉ W ∧ look1 d fr = .al x none ∧ o = none := by
  unfold san at h
  split at h
  · rename_i y hy
    cases hb : W.any (fun z => Nat.beq z y)
    · rw [hb, cond_false] at h
      simp at h
      obtain ⟨rfl, rfl⟩ := h
      refine ⟨fun q => ?_, hy, rfl⟩
      rw [List.any_eq_false] at hb
      exact hb y q (beq_true rfl)
    · rw [hb] at h; simp at h
  · split at h <;> simp at h
  · rename_i y q _
    cases hb : W.any (fun z => Nat.beq z y) <;> rw [hb] at h <;> simp at h
  · simp at h
  · rename_i h1 h2 h3 h4
    cases o with
    | none => exact absurd h (h1 x)
    | some o => exact absurd h (h2 x o)

theorem san_sound {W : List Nat} {Pr : PM} {w : World} {d : Nat} {sv : SV} {fr : Fr} {ts : Array Value} {F : Nat → List Nat} (h : RepF Pr w ((d, sv) :: fr) ts F) (hd : d ∈ W) :
    ∃ B, (B = F d ∨ B = []) ∧ RepS Pr w (san W d ((d, sv) :: fr)) (ts.getD d undef) B ∧ (∀ x, san W d ((d, sv) :: fr) = .al x none → x ∉ W ∧ ts.getD d undef = ts.getD x undef) ∧
      (∀ x o, san W d ((d, sv) :: fr) ≠ .al x (some o)) ∧ ∀ x o, san W d ((d, sv) :: fr) = .ref x o → x ∉ W ∧ ∃ b, ts.getD x undef = .pointer (some ⟨b, 0, none⟩) ∧ ts.getD d undef = .pointer (some ⟨b, o, none⟩) := by
  have hr := h.rep d
  have hl : look1 d ((d, sv) :: fr) = sv := by simp [look1]
  have hf : find d ((d, sv) :: fr) [] = some ([(d, sv.isUpd)], sv, fr) := by simp [find]
  rw [hl] at hr
  unfold san
  rw [hl]
  split
  · rename_i x
    cases hb : W.any (fun y => Nat.beq y x)
    · simp only [cond_false]
      have hx : x ∉ W := fun q => by
        rw [List.any_eq_false] at hb
        exact hb x q (beq_true rfl)
      refine ⟨F d, .inl rfl, hr, fun y e => ?_, by simp, by simp⟩
      simp at e; subst e
      refine ⟨hx, h.alias0 d _ x _ hf ?_⟩
      simp only [bound]
      rw [beq_false (fun e : d = x => hx (by rw [← e]; exact hd))]; rfl
    · simp only [cond_true]
      exact ⟨[], .inr rfl, by simp [RepS], by simp, by simp, by simp⟩
  · rename_i x o
    split
    · rename_i v hv
      exact ⟨[], .inr rfl, by simp only [RepS]; exact ⟨rd_sound h hv, trivial⟩, by simp, by simp, by simp⟩
    · exact ⟨[], .inr rfl, by simp [RepS], by simp, by simp, by simp⟩
  · rename_i x o
    cases hb : W.any (fun y => Nat.beq y x)
    · simp only [cond_false]
      have hx : x ∉ W := fun q => by
        rw [List.any_eq_false] at hb
        exact hb x q (beq_true rfl)
      refine ⟨F d, .inl rfl, hr, by simp, by simp, fun y o' e => ?_⟩
      simp at e; obtain ⟨rfl, rfl⟩ := e
      refine ⟨hx, h.ref d _ x o _ hf ?_⟩
      simp only [remade]
      rw [beq_false (fun e : d = x => hx (by rw [← e]; exact hd))]; rfl
    · simp only [cond_true]
      exact ⟨[], .inr rfl, by simp [RepS], by simp, by simp, by simp⟩
  · rename_i nw cs
    refine ⟨F d, .inl rfl, ?_, by simp, by simp, by simp⟩
    simp only [RepS] at hr ⊢
    exact hr
  · rename_i h1 h2 h3 h4
    refine ⟨F d, .inl rfl, hr, fun x e => absurd e (h1 x), fun x o e => h2 x o e, fun x o e => absurd e (h3 x o)⟩

theorem evD_sound {R : Type} {K : Fr → Option R} {r : R} {o : Oper} {fr : Fr} {Pr : PM} {w : World} {a : Act} {F : Nat → List Nat} {next : Act → World → Prop} {Q : Exit → Act → World → Prop}
    (hC : Cx P T) (hE : SatE P E) (hev : evD T E o fr K = some r) (hF : RepF Pr w fr a.tmps F) (hP : PrOK Pr w) (hd : DOK o a) (hn : Nx K r o.dst Pr w a F next) : o.wp P a w next Q := by
  unfold evD at hev
  split at hev
  · rename_i s ho
    refine wp_value (v := a.eval (.tmp s)) (w' := w) (by simp [execOp, ho]) ?_
    show next (a.put o.dst (a.tmps.getD s undef)) w
    split at hev
    · rename_i v hv
      exact finV hF hP hd hn (rd_sound hF hv) hev
    · exact finU hF hP hd hn hev
  · replace hev := bif_some hev; obtain ⟨_, hev⟩ := hev
    exact evOp_sound hC hE hev hF hP hd hn
  · exact evOp_sound hC hE hev hF hP hd hn
theorem dstO_of {o : Oper} {t : Nat} (h : o.dst = some t) : dstO o = some t := by simp [dstO, h]

open Classical in
theorem draw_step {ops : Array Oper} {W : List Nat} {fr0 : Fr} {fin cur cur' : Nat → SV} {i : Nat} {o : Oper} {Pr : PM} {w : World} {a : Act} {F : Nat → List Nat} {next : Act → World → Prop} {Q : Exit → Act → World → Prop}
    (hC : Cx P T) (hE : SatE P E) (hi : ops[i]? = some o) (hp : pureOp o.op = true) (hfact : OpFact T E ops.toList W fr0 fin cur' o) (hG : RepG W Pr w cur a.tmps F) (hP : PrOK Pr w)
    (hl : ∀ t ∈ looked ops.toList o, cur' t = cur t) (hW : ∀ d, d ∉ W → cur d = lookL d fr0) (hgs : o.guard = none ∨ dstO o = o.dst) (hd : DOK o a) (hdW : ∀ d, (dstO o) = some d → d ∈ W)
    (hn : ∀ Pr' w' a' F', RepG W Pr' w' (fun t => if (dstO o) = some t then fin t else cur t) a'.tmps F' → PrOK Pr' w' → Step F Pr w a F' Pr' w' a' (fun d => o.dst = some d) → next a' w') :
    wpOp P ops Q i next a w := by
  unfold wpOp
  rw [hi]
  simp only
  have hgl : ∀ j want d, o.guard = some (j, want) → dstAt ops.toList j = some d → d ∈ looked ops.toList o := by
    intro j want d h1 h2
    simp only [looked, h1, List.mem_append]
    right
    unfold dstAt at h2
    rw [h2]; simp
  rcases hfact with ⟨hg, fr', hev, hfin⟩ | ⟨j, want, d, g1, g2, g3, g4⟩
  · have hwant : Region.wanted o (yielded ops a.tmps) = true := by
      rcases hg with hg | ⟨j, want, d, g1, g2, g3⟩
      · simp [Region.wanted, hg]
      · have := hG.rep d
        rw [← hl d (hgl j want d g1 g2), g3] at this
        simp only [RepS, RepA, RepD] at this
        simp [Region.wanted, g1, yielded_bool (by simpa [dstAt] using g2) this.1]
    rw [if_pos hwant]
    left
    obtain ⟨sv, hsv⟩ := evD_shape o _ fr' hp hev
    have hmem : ∀ x ∈ selC fr0 cur' (looked ops.toList o), x.2 = cur x.1 := by
      intro x hx
      rcases selC_mem hx with ⟨h1, h2⟩ | ⟨⟨t, h1, h2⟩, h3⟩
      · rw [h2, hl _ h1]
      · rw [h3, hW]
        rw [hl t h1] at h2
        cases hc : cur t with
        | al y off =>
          rw [hc] at h2; simp [rootOf] at h2
          cases off with
          | none => rw [h2]; exact (hG.al0 t y hc).1
          | some q => exact absurd hc (hG.al1 t y q)
        | ref y off => rw [hc] at h2; simp [rootOf] at h2; rw [h2]; exact (hG.ref t y off hc).1
        | _ => rw [hc] at h2; simp [rootOf] at h2
    have hlook : ∀ t, look1 t (selC fr0 cur' (looked ops.toList o)) = cur t ∨ look1 t (selC fr0 cur' (looked ops.toList o)) = .unk := by
      intro t
      rcases look1_mem t (selC fr0 cur' (looked ops.toList o)) with h | h
      · exact .inr h
      · exact .inl (hmem _ h)
    have hF := hG.frame _ hlook
    refine evD_sound hC hE hev hF hP hd fun v fr2 Pr' w' F2 hK h1 h2 h3 h4 => ?_
    simp only [Option.some.injEq] at hK
    subst hK
    have hkeep : ∀ t, look1 t (selC fr0 cur' (looked ops.toList o)) ≠ cur t → Keeps (F t) Pr w Pr' w' := fun t ht => h3.keeps fun b hb => ⟨RepS.lt _ _ _ (hG.rep t) b hb, fun ⟨t', hb'⟩ => by
      by_cases q : look1 t' (selC fr0 cur' (looked ops.toList o)) = cur t'
      · rw [if_pos q] at hb'
        exact hG.apart t t' (fun e => ht (e ▸ q)) b hb hb'
      · rw [if_neg q] at hb'; simp at hb'⟩
    have hold : ∀ t b, b ∈ F2 t → (∃ t', b ∈ F t' ∧ look1 t' (selC fr0 cur' (looked ops.toList o)) = cur t') ∨ w.heap.size ≤ b := fun t b hb => (h4 t b hb).imp (fun ⟨t', q⟩ => by
      by_cases e : look1 t' (selC fr0 cur' (looked ops.toList o)) = cur t'
      · rw [if_pos e] at q; exact ⟨t', q, e⟩
      · rw [if_neg e] at q; simp at q) id
    -- what was told stays told
    have hstay : ∀ t, (dstO o) ≠ some t → RepS Pr' w' (cur t) ((a.put o.dst v).tmps.getD t undef) (if look1 t (selC fr0 cur' (looked ops.toList o)) = cur t then F2 t else F t) := by
      intro t ht
      by_cases e : look1 t (selC fr0 cur' (looked ops.toList o)) = cur t
      · rw [if_pos e]
        have := h1.rep t
        rw [hsv] at this
        have e2 : look1 t (dset (dstO o) sv (selC fr0 cur' (looked ops.toList o))) = cur t := by
          cases hdst : (dstO o) with
          | none => exact e
          | some d =>
            simp only [dset, look1]
            rw [beq_false (fun q => ht (by rw [hdst, q])), cond_false]; exact e
        rw [e2] at this
        exact this
      · rw [if_neg e, put_same a o.dst v t (fun q => ht (dstO_of q))]
        exact RepS.mono h3.le _ _ _ (hkeep t e) (hG.rep t)
    -- the new slot's own
    have hnew : ∃ B, ∀ d, (dstO o) = some d → (B = F2 d ∨ B = []) ∧ RepS Pr' w' (fin d) ((a.put o.dst v).tmps.getD d undef) B ∧ (∀ x, fin d = .al x none → x ∉ W ∧ (a.put o.dst v).tmps.getD d undef = (a.put o.dst v).tmps.getD x undef) ∧
        (∀ x q, fin d ≠ .al x (some q)) ∧ ∀ x q, fin d = .ref x q → x ∉ W ∧ ∃ b, (a.put o.dst v).tmps.getD x undef = .pointer (some ⟨b, 0, none⟩) ∧ (a.put o.dst v).tmps.getD d undef = .pointer (some ⟨b, q, none⟩) := by
      cases hdst : (dstO o) with
      | none => exact ⟨[], by simp⟩
      | some d =>
        have := h1
        rw [hsv, hdst] at this
        obtain ⟨B, q⟩ := san_sound (W := W) this (hdW d hdst)
        refine ⟨B, fun d' e => ?_⟩
        simp at e; subst e
        have e2 := hfin d hdst
        rw [hsv, hdst] at e2
        simp only [dset] at e2
        rw [e2]
        exact q
    obtain ⟨B, hnew⟩ := hnew
    let F' : Nat → List Nat := fun t => if (dstO o) = some t then B else if look1 t (selC fr0 cur' (looked ops.toList o)) = cur t then F2 t else F t
    have hF' : ∀ t b, b ∈ F' t → (b ∈ F2 t ∧ ((dstO o) = some t ∨ look1 t (selC fr0 cur' (looked ops.toList o)) = cur t)) ∨ (b ∈ F t ∧ look1 t (selC fr0 cur' (looked ops.toList o)) ≠ cur t) := by
      intro t b hb
      by_cases e : (dstO o) = some t
      · simp only [F', if_pos e] at hb
        rcases (hnew t e).1 with q | q
        · exact .inl ⟨q ▸ hb, .inl e⟩
        · rw [q] at hb; simp at hb
      · by_cases e2 : look1 t (selC fr0 cur' (looked ops.toList o)) = cur t
        · simp only [F', if_neg e, if_pos e2] at hb; exact .inl ⟨hb, .inr e2⟩
        · simp only [F', if_neg e, if_neg e2] at hb; exact .inr ⟨hb, e2⟩
    have hx : ∀ t t' b, b ∈ F2 t → b ∈ F t' → look1 t' (selC fr0 cur' (looked ops.toList o)) ≠ cur t' → False := by
      intro t t' b h5 h6 h7
      rcases hold t b h5 with ⟨t2, q1, q2⟩ | q
      · exact hG.apart t2 t' (fun e => h7 (e ▸ q2)) b q1 h6
      · have := RepS.lt _ _ _ (hG.rep t') b h6; omega
    refine hn Pr' w' _ F' ⟨fun t => ?_, fun t => ?_, fun t t' ne b hb hb' => ?_, fun t d e => ?_, fun t d q e => ?_, fun t d q e => ?_⟩ h2
      ⟨h3.weaken fun b ⟨t, hb⟩ => ?_, fun t b hb => ?_, put_defers _ _ _, put_size _ _ _, fun t ht => put_same a o.dst v t fun q => ht q⟩
    · by_cases e : (dstO o) = some t
      · simp only [F', if_pos e]; exact (hnew t e).2.1
      · simp only [F', if_neg e]; exact hstay t e
    · by_cases e : (dstO o) = some t
      · simp only [F', if_pos e]
        rcases (hnew t e).1 with q | q
        · rw [q]; exact h1.nodup t
        · rw [q]; exact List.nodup_nil
      · simp only [F', if_neg e]
        by_cases e2 : look1 t (selC fr0 cur' (looked ops.toList o)) = cur t
        · rw [if_pos e2]; exact h1.nodup t
        · rw [if_neg e2]; exact hG.nodup t
    · rcases hF' t b hb with ⟨p1, p2⟩ | ⟨p1, p2⟩ <;> rcases hF' t' b hb' with ⟨q1, q2⟩ | ⟨q1, q2⟩
      · exact h1.apart t t' ne b p1 q1
      · exact hx t t' b p1 q1 q2
      · exact hx t' t b q1 p1 p2
      · exact hG.apart t t' ne b p1 q1
    · by_cases e2 : (dstO o) = some t
      · rw [if_pos e2] at e; exact (hnew t e2).2.2.1 d e
      · rw [if_neg e2] at e
        obtain ⟨q1, q2⟩ := hG.al0 t d e
        rw [put_same a o.dst v t (fun q => e2 (dstO_of q)), put_same a o.dst v d (fun q => q1 (hdW d (dstO_of q)))]
        exact ⟨q1, q2⟩
    · by_cases e2 : (dstO o) = some t
      · rw [if_pos e2] at e; exact (hnew t e2).2.2.2.1 d q e
      · rw [if_neg e2] at e; exact hG.al1 t d q e
    · by_cases e2 : (dstO o) = some t
      · rw [if_pos e2] at e; exact (hnew t e2).2.2.2.2 d q e
      · rw [if_neg e2] at e
        obtain ⟨q1, q2⟩ := hG.ref t d q e
        rw [put_same a o.dst v t (fun q => e2 (dstO_of q)), put_same a o.dst v d (fun q => q1 (hdW d (dstO_of q)))]
        exact ⟨q1, q2⟩
    · by_cases q : look1 t (selC fr0 cur' (looked ops.toList o)) = cur t
      · rw [if_pos q] at hb; exact ⟨t, hb⟩
      · rw [if_neg q] at hb; simp at hb
    · rcases hF' t b hb with ⟨p1, _⟩ | ⟨p1, _⟩
      · exact (hold t b p1).imp (fun ⟨t', q, _⟩ => ⟨t', q⟩) id
      · exact .inl ⟨t, p1⟩
  · have hwant : ¬ Region.wanted o (yielded ops a.tmps) = true := by
      have := hG.rep d
      rw [← hl d (hgl j want d g1 g2)] at this
      rcases g3 with g3 | g3
      · rw [g3] at this
        simp only [RepS] at this
        simp [Region.wanted, g1, yielded_und (by simpa [dstAt] using g2) this.1]
      · rw [g3] at this
        simp only [RepS, RepA, RepD] at this
        simp [Region.wanted, g1, yielded_bool (by simpa [dstAt] using g2) this.1]
    rw [if_neg hwant]
    let F' : Nat → List Nat := fun t => if (dstO o) = some t then [] else F t
    have hF' : ∀ t b, b ∈ F' t → b ∈ F t := by
      intro t b hb
      by_cases e : (dstO o) = some t
      · simp [F', e] at hb
      · simpa [F', e] using hb
    refine hn Pr w _ F' ⟨fun t => ?_, fun t => ?_, fun t t' ne b hb hb' => hG.apart t t' ne b (hF' t b hb) (hF' t' b hb'), fun t d' e => ?_, fun t d' q e => ?_, fun t d' q e => ?_⟩ hP
      ⟨Ext.refl _ _ _, fun t b hb => .inl ⟨t, hF' t b hb⟩, put_defers _ _ _, put_size _ _ _, fun t ht => put_same a o.dst undef t fun q => ht q⟩
    · by_cases e : (dstO o) = some t
      · simp only [F', if_pos e]
        have e' : o.dst = some t := by rw [← hgs.resolve_left (by simp [g1])]; exact e
        rw [g4 t e, e']
        simp only [Act.put]
        rw [getD_set _ _ _ _ (hd t e'), if_pos rfl]
        simp [RepS]
      · simp only [F', if_neg e]
        rw [put_same a o.dst undef t (fun q => e (dstO_of q))]
        exact hG.rep t
    · by_cases e : (dstO o) = some t
      · simp only [F', if_pos e]; exact List.nodup_nil
      · simp only [F', if_neg e]; exact hG.nodup t
    · by_cases e2 : (dstO o) = some t
      · rw [if_pos e2, g4 t e2] at e; cases e
      · rw [if_neg e2] at e
        obtain ⟨q1, q2⟩ := hG.al0 t d' e
        rw [put_same a o.dst undef t (fun q => e2 (dstO_of q)), put_same a o.dst undef d' (fun q => q1 (hdW d' (dstO_of q)))]
        exact ⟨q1, q2⟩
    · by_cases e2 : (dstO o) = some t
      · rw [if_pos e2, g4 t e2] at e; cases e
      · rw [if_neg e2] at e; exact hG.al1 t d' q e
    · by_cases e2 : (dstO o) = some t
      · rw [if_pos e2, g4 t e2] at e; cases e
      · rw [if_neg e2] at e
        obtain ⟨q1, q2⟩ := hG.ref t d' q e
        rw [put_same a o.dst undef t (fun q => e2 (dstO_of q)), put_same a o.dst undef d' (fun q => q1 (hdW d' (dstO_of q)))]
        exact ⟨q1, q2⟩

theorem nodupB_sound : ∀ l : List Nat, nodupB l = true → l.Nodup
  | [], _ => List.nodup_nil
  | x :: l, h => by
    simp only [nodupB, Bool.and_eq_true, Bool.not_eq_true', List.any_eq_false] at h
    exact List.nodup_cons.2 ⟨fun hx => h.1 x hx (beq_true rfl), nodupB_sound l h.2⟩

theorem depB_spec {ops : Array Oper} {i j : Nat} {o : Oper} (ho : ops[i]? = some o) (h : depB ops.toList i j = true) : ∃ e ∈ o.after, Region.binds .any e = true ∧ e.on = j := by
  unfold depB at h
  rw [Array.getElem?_toList, ho] at h
  simp only [List.any_eq_true, Bool.and_eq_true] at h
  obtain ⟨e, h1, h2, h3⟩ := h
  exact ⟨e, by simpa using h1, h2, Nat.eq_of_beq_eq_true h3⟩

theorem dsts_mem {l : List Oper} {t : Nat} : t ∈ dsts l ↔ ∃ (j : Nat) (o : Oper), l[j]? = some o ∧ dstO o = some t := by
  simp only [dsts, List.mem_filterMap]
  constructor
  · rintro ⟨o, h1, h2⟩
    obtain ⟨j, hj⟩ := List.getElem?_of_mem h1
    exact ⟨j, o, hj, h2⟩
  · rintro ⟨j, o, h1, h2⟩
    exact ⟨o, List.mem_of_getElem? h1, h2⟩
/-- One slot, one operation. -/
theorem dsts_inj : ∀ {l : List Oper}, (dsts l).Nodup → ∀ {i j : Nat} {o o' : Oper} {t : Nat}, l[i]? = some o → l[j]? = some o' → dstO o = some t → dstO o' = some t → i = j
  | [], _, i, j, o, o', t, h1, _, _, _ => by simp at h1
  | x :: l, hn, i, j, o, o', t, h1, h2, h3, h4 => by
    have hn' : (dsts l).Nodup := by
      have : dsts (x :: l) = dsts [x] ++ dsts l := dsts_append [x] l
      rw [this] at hn
      exact (List.nodup_append.1 hn).2.1
    have hd : ∀ (k : Nat) (y : Oper), l[k]? = some y → dstO y = some t → dstO x = some t → False := by
      intro k y hk hy hx
      have : dsts (x :: l) = [t] ++ dsts l := by simp [dsts, hx]
      rw [this] at hn
      exact (List.nodup_append.1 hn).2.2 t (by simp) t (dsts_mem.2 ⟨k, y, hk, hy⟩) rfl
    cases i with
    | zero =>
      cases j with
      | zero => rfl
      | succ j => simp at h1 h2; subst h1; exact (hd j o' h2 h4 h3).elim
    | succ i =>
      cases j with
      | zero => simp at h1 h2; subst h2; exact (hd i o h1 h3 h4).elim
      | succ j => simp at h1 h2; rw [dsts_inj hn' h1 h2 h3 h4]

theorem countP_lt {p q : Nat → Bool} {i : Nat} (hp : p i = true) (hq : q i = false) (h : ∀ j, q j = true → p j = true) : ∀ l : List Nat, i ∈ l → l.countP q < l.countP p
  | [], hi => by simp at hi
  | x :: l, hi => by
    have hle : l.countP q ≤ l.countP p := List.countP_mono_left fun j _ => h j
    rw [List.countP_cons, List.countP_cons]
    rcases List.mem_cons.1 hi with e | e
    · subst e
      rw [hp, hq]; simp; omega
    · have := countP_lt hp hq h l e
      have := h x
      cases hqx : q x <;> cases hpx : p x <;> simp_all <;> omega

open Classical in
theorem drawSound (hC : Cx P T) (hE : SatE P E) (hm : P.follows .mixedOrders = true) : DrawSound P T E := by
  intro R K r Q id ops fr0 Pr0 w0 a0 F0 hok hev hF hP hb hk
  simp only [drawOK, Bool.and_eq_true, List.all_eq_true] at hok
  obtain ⟨⟨hpure0, hnd⟩, hdep⟩ := hok
  have hpure : ∀ o ∈ ops.toList, pureOp o.op = true := fun o ho => (hpure0 o ho).1
  have hgst : ∀ o ∈ ops.toList, o.guard = none ∨ dstO o = o.dst := by
    intro o ho
    have := (hpure0 o ho).2
    simp only [Bool.or_eq_true, Option.isNone_iff_eq_none] at this
    refine this.imp (fun q => q) fun q => ?_
    simp only [dstO]
    cases hd : o.dst with
    | some d => rfl
    | none =>
      simp only
      split
      · rename_i t s x h1; rw [h1] at q; cases q
      · rfl
  have hnd : (dsts ops.toList).Nodup := nodupB_sound _ hnd
  obtain ⟨envF, hK, hout, _, hfact⟩ := evDraw_fact hnd (fun o ho => hpure o ho) ops.toList [] [] rfl hev (fun t _ => rfl)
  simp only [List.length_nil, Nat.zero_add] at hfact
  -- what the text's dependencies come to
  have hat : ∀ (i : Nat) (o : Oper), ops[i]? = some o → (∀ e ∈ o.after, Region.binds .any e = true → e.on < i) ∧
      ∀ t ∈ looked ops.toList o, ∀ j o', ops[j]? = some o' → dstO o' = some t → i = j ∨ (j < i ∧ depB ops.toList i j = true) ∨ (i < j ∧ depB ops.toList j i = true) := by
    intro i o hi
    have hlt : i < ops.size := (Array.getElem?_eq_some_iff.1 hi).1
    have := hdep i (List.mem_range.2 (by simpa using hlt))
    rw [Array.getElem?_toList, hi] at this
    simp only [Bool.and_eq_true, List.all_eq_true, List.mem_range, Bool.or_eq_true, Bool.not_eq_true'] at this
    obtain ⟨h1, h2⟩ := this
    refine ⟨fun e he hbe => ?_, fun t ht j o' hj hdt => ?_⟩
    · rcases h1 e (by simpa using he) with q | q
      · rw [hbe] at q; cases q
      · simpa using q
    · have hjlt : j < ops.size := (Array.getElem?_eq_some_iff.1 hj).1
      have := h2 t ht j (by simpa using hjlt)
      have e1 : dstOAt ops.toList j = some t := by simp [dstOAt, hj, hdt]
      simp only [e1, beq_true rfl, Bool.not_true, Bool.false_or, Bool.or_eq_true] at this
      rcases this with q | q
      · exact .inl (Nat.eq_of_beq_eq_true q)
      · cases hlt2 : Nat.blt j i
        · rw [hlt2, cond_false] at q
          by_cases e : i = j
          · exact .inl e
          · refine .inr (.inr ⟨?_, q⟩)
            have : ¬ j < i := fun q => by
              rw [show Nat.blt j i = true by rw [Nat.blt_eq]; exact q] at hlt2; cases hlt2
            omega
        · rw [hlt2, cond_true] at q
          exact .inr (.inl ⟨by simpa using hlt2, q⟩)
  let W := dsts ops.toList
  let fin := curOf fr0 envF
  let cur : Array Bool → Nat → SV := fun L t => if ∃ j o, ops[j]? = some o ∧ dstO o = some t ∧ L.getD j false = true then fin t else lookL t fr0
  have hcurW : ∀ L d, d ∉ W → cur L d = lookL d fr0 := fun L d hd => if_neg fun ⟨j, o, h1, h2, _⟩ => hd (dsts_mem.2 ⟨j, o, by simpa using h1, h2⟩)
  -- any order
  have any : ∀ (n : Nat) (L : Array Bool) (Pr : PM) (w : World) (a : Act) (F : Nat → List Nat), RepG W Pr w (cur L) a.tmps F → PrOK Pr w → Step F0 Pr0 w0 a0 F Pr w a (fun d => d ∈ ops.toList.filterMap (·.dst)) →
      L.size = ops.size → (List.range ops.size).countP (fun j => !L.getD j true) ≤ n → (∀ (i : Nat) (o : Oper), ops[i]? = some o → L.getD i false = true → ∀ e ∈ o.after, Region.binds .any e = true → L.getD e.on false = true) →
      wpAny P .any ops Q n L a w := by
    intro n
    -- none left
    have last : ∀ (L : Array Bool) (Pr : PM) (w : World) (a : Act) (F : Nat → List Nat), RepG W Pr w (cur L) a.tmps F → PrOK Pr w → Step F0 Pr0 w0 a0 F Pr w a (fun d => d ∈ ops.toList.filterMap (·.dst)) → (∀ i, i < ops.size → L.getD i false = true) → Q .normal a w := by
      intro L Pr w a F h1 h2 h3 h4
      have hcur : cur L = fin := by
        funext t
        by_cases e : t ∈ W
        · obtain ⟨j, o, q1, q2⟩ := dsts_mem.1 e
          have q1' : ops[j]? = some o := by simpa using q1
          exact if_pos ⟨j, o, q1', q2, h4 j (Array.getElem?_eq_some_iff.1 q1').1⟩
        · rw [hcurW L t e]; exact (hout t e).symm
      rw [hcur] at h1
      have := h1.frame (envF ++ clean fr0) fun t => look1_final t fr0 envF
      refine hk _ Pr w a _ hK this h2 ⟨h3.ext, fun t b hb => ?_, h3.defers, h3.size, h3.same⟩
      by_cases q : look1 t (envF ++ clean fr0) = fin t
      · simp only [if_pos q] at hb; exact h3.sub t b hb
      · simp only [if_neg q] at hb; simp at hb
    have least : ∀ (L : Array Bool), L.size = ops.size → Region.ready .any ops L = [] → ∀ i, i < ops.size → L.getD i false = true := by
      intro L hs hr i
      induction i using Nat.strongRecOn with
      | _ i ih =>
        intro hlt
        by_cases e : L.getD i false = true
        · exact e
        · exfalso
          have : i ∈ Region.ready .any ops L := by
            rw [mem_ready]
            refine ⟨?_, ops[i], by simp [hlt], fun e' he hbe => ?_⟩
            · have : i < L.size := by omega
              simp [this] at e ⊢
              exact e
            · have := (hat i ops[i] (by simp [hlt])).1 e' he hbe
              exact ih e'.on this (by omega)
          rw [hr] at this; cases this
    induction n with
    | zero =>
      intro L Pr w a F h1 h2 h3 hs hc hcl
      have hall : ∀ i, i < ops.size → L.getD i true = true := by
        intro i hi
        have := List.countP_eq_zero.1 (Nat.le_zero.1 hc) i (List.mem_range.2 hi)
        simpa using this
      have hall' : ∀ i, i < ops.size → L.getD i false = true := by
        intro i hi
        have := hall i hi
        have hi' : i < L.size := by omega
        simpa [hi'] using this
      refine ⟨?_, last L Pr w a F h1 h2 h3 hall'⟩
      rw [List.eq_nil_iff_forall_not_mem]
      intro i hi
      rw [mem_ready] at hi
      obtain ⟨q1, o, q2, _⟩ := hi
      rw [hall i (Array.getElem?_eq_some_iff.1 q2).1] at q1
      cases q1
    | succ n ih =>
      intro L Pr w a F h1 h2 h3 hs hc hcl
      refine ⟨fun hr => last L Pr w a F h1 h2 h3 (least L hs hr), fun i hi => ?_⟩
      rw [mem_ready] at hi
      obtain ⟨hun, o, ho, hafter⟩ := hi
      have hlt : i < ops.size := (Array.getElem?_eq_some_iff.1 ho).1
      have hun' : ¬ L.getD i false = true := by
        have hi' : i < L.size := by omega
        simp [hi'] at hun ⊢
        exact hun
      have hmem : o ∈ ops.toList := by simpa using Array.mem_of_getElem? ho
      refine draw_step (fr0 := fr0) (fin := fin) (cur' := curAt fr0 ops.toList fin i) hC hE ho (hpure o hmem) (hfact i o (by simpa using ho)) h1 h2 ?_ (hcurW L) (hgst o hmem) (fun d hd => by rw [h3.size]; exact hb o hmem d hd) (fun d hd => dsts_mem.2 ⟨i, o, by simpa using ho, hd⟩) ?_
      · intro t ht
        have hiff : t ∈ dsts (ops.toList.take i) ↔ ∃ j o, ops[j]? = some o ∧ dstO o = some t ∧ L.getD j false = true := by
          constructor
          · intro q
            obtain ⟨j, o', q1, q2⟩ := dsts_mem.1 q
            rw [List.getElem?_take] at q1
            by_cases hj : j < i
            · rw [if_pos hj] at q1
              have q1' : ops[j]? = some o' := by simpa using q1
              refine ⟨j, o', q1', q2, ?_⟩
              rcases (hat i o ho).2 t ht j o' q1' q2 with e | ⟨_, e⟩ | ⟨e, _⟩
              · omega
              · obtain ⟨e', p1, p2, p3⟩ := depB_spec ho e
                rw [← p3]; exact hafter e' p1 p2
              · omega
            · rw [if_neg hj] at q1; cases q1
          · rintro ⟨j, o', q1, q2, q3⟩
            rcases (hat i o ho).2 t ht j o' q1 q2 with e | ⟨e, _⟩ | ⟨_, e⟩
            · exact absurd (e ▸ q3) hun'
            · exact dsts_mem.2 ⟨j, o', by rw [List.getElem?_take, if_pos e]; simpa using q1, q2⟩
            · obtain ⟨e', p1, p2, p3⟩ := depB_spec q1 e
              have := hcl j o' q1 q3 e' p1 p2
              rw [p3] at this
              exact absurd this hun'
        show (if _ then _ else _) = if _ then _ else _
        by_cases e : t ∈ dsts (ops.toList.take i)
        · rw [if_pos e, if_pos (hiff.1 e)]
        · rw [if_neg e, if_neg fun q => e (hiff.2 q)]
      · intro Pr' w' a' F' g1 g2 g3
        have hset : ∀ j, (L.setIfInBounds i true).getD j false = (if j = i then true else L.getD j false) := by
          intro j
          have hi' : i < L.size := by omega
          by_cases e : j = i
          · subst e; simp [hi']
          · rw [if_neg e]; exact getD_set_ne false (Ne.symm e)
        have hcur : (fun t => if dstO o = some t then fin t else cur L t) = cur (L.setIfInBounds i true) := by
          funext t
          show (if _ then _ else if _ then _ else _) = if _ then _ else _
          by_cases e : dstO o = some t
          · rw [if_pos e, if_pos ⟨i, o, ho, e, by rw [hset, if_pos rfl]⟩]
          · rw [if_neg e]
            by_cases q : ∃ j o, ops[j]? = some o ∧ dstO o = some t ∧ L.getD j false = true
            · obtain ⟨j, o', q1, q2, q3⟩ := q
              rw [if_pos ⟨j, o', q1, q2, q3⟩, if_pos ⟨j, o', q1, q2, by rw [hset]; by_cases z : j = i <;> simp [z]; simpa using q3⟩]
            · rw [if_neg q, if_neg]
              rintro ⟨j, o', q1, q2, q3⟩
              rw [hset] at q3
              by_cases z : j = i
              · subst z; rw [ho] at q1; simp at q1; subst q1; exact e q2
              · rw [if_neg z] at q3; exact q ⟨j, o', q1, q2, q3⟩
        rw [hcur] at g1
        refine ih _ Pr' w' a' F' g1 g2 (h3.trans (g3.weaken fun d hd => List.mem_filterMap.2 ⟨o, hmem, hd⟩)) (by simp [hs]) ?_ ?_
        · have hlt2 : (List.range ops.size).countP (fun j => !(L.setIfInBounds i true).getD j true) < (List.range ops.size).countP (fun j => !L.getD j true) := by
            refine countP_lt (i := i) (by simp [hun]) (by have hi' : i < L.size := by omega
                                                          simp [hi']) (fun j hj => ?_) _ (List.mem_range.2 hlt)
            by_cases z : j = i
            · subst z; simp [hun]
            · rw [getD_set_ne true (Ne.symm z)] at hj; exact hj
          omega
        · intro j o' q1 q2 e he hbe
          rw [hset] at q2 ⊢
          by_cases z : e.on = i
          · rw [if_pos z]
          · rw [if_neg z]
            by_cases y : j = i
            · subst y; rw [ho] at q1; simp at q1; subst q1; exact hafter e he hbe
            · rw [if_neg y] at q2; exact hcl j o' q1 q2 e he hbe
  refine wp_region_any hm ?_
  refine any ops.size (Array.replicate ops.size false) Pr0 _ a0 F0 ?_ ?_ ?_ (by simp) ?_ ?_
  · have h0 : cur (Array.replicate ops.size false) = fun t => lookL t fr0 := by
      funext t
      refine if_neg ?_
      rintro ⟨j, o, q1, q2, q3⟩
      have hlt : j < ops.size := (Array.getElem?_eq_some_iff.1 q1).1
      simp [hlt] at q3
    rw [h0]
    exact RepG.start (hF.mono (PrLe.refl _) fun t b _ => ⟨rfl, fun _ => rfl⟩)
  · exact hP
  · exact ⟨⟨rfl, rfl, rfl, Nat.le_refl _, PrLe.refl _, fun _ _ _ => ⟨rfl, fun _ => rfl⟩⟩, fun t b hb => .inl ⟨t, hb⟩, rfl, rfl, fun _ _ => rfl⟩
  · have := List.countP_le_length (l := List.range ops.size) (p := fun j => !(Array.replicate ops.size false).getD j true)
    simpa using this
  · intro i o hi h
    have hlt : i < ops.size := (Array.getElem?_eq_some_iff.1 hi).1
    simp [hlt] at h
end
end Go.Proofs.Ytcmdlllcjpbbkaa.Lg
