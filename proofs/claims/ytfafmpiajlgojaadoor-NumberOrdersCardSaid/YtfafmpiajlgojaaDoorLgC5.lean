/- Part of a proof of the seat's statements: no statement by itself. -/
import Derived.Test.YtfafmpiajlgojaaDoorLgC4
namespace Go.Proofs.YtfafmpiajlgojaaDoor.Lg
open Go
section
variable {P : Program} {T : Tab} {E : CallE}

/-- What is told of slots, without an order. -/
structure RepG (W V : List Nat) (Pr : PM) (w : World) (cur : Nat → SV) (ts : Array Value) (F : Nat → List Nat) : Prop where
  rep : ∀ t, RepS Pr w (cur t) (ts.getD t undef) (F t)
  nodup : ∀ t, (F t).Nodup
  apart : ∀ t t', t ≠ t' → ∀ b ∈ F t, b ∉ F t'
  al0 : ∀ t d, cur t = .al d none → d ∉ W ∧ ts.getD t undef = ts.getD d undef
  al1 : ∀ t d o, cur t ≠ .al d (some o)
  ref : ∀ t d o, cur t = .ref d o → d ∉ V ∧ ∃ b, ts.getD d undef = .pointer (some ⟨b, 0, none⟩) ∧ ts.getD t undef = .pointer (some ⟨b, o, none⟩)

theorem find_none_look (t : Nat) (fr : Fr) (pre : List (Nat × Bool)) (sv : SV) (rest : Fr) (h : find t fr [] = some (pre, sv, rest)) : look1 t fr = sv := find_look t fr [] pre sv rest h

open Classical in
/-- A frame that says no more. -/
theorem RepG.frame {W V : List Nat} {Pr : PM} {w : World} {cur : Nat → SV} {ts : Array Value} {F : Nat → List Nat} (h : RepG W V Pr w cur ts F) (fr : Fr) (hl : ∀ t, look1 t fr = cur t ∨ look1 t fr = .unk) :
    RepF Pr w fr ts (fun t => if look1 t fr = cur t then F t else []) := by
  refine ⟨fun t => ?_, fun t => ?_, fun t t' ne b hb => ?_, fun t pre d rest hf _ => ?_, fun t pre d o rest hf _ => ?_, fun t pre d o rest hf _ => ?_⟩
  · rcases hl t with e | e
    · simp only [if_pos e]; rw [e]; exact h.rep t
    · by_cases q : look1 t fr = cur t
      · simp only [if_pos q]; rw [q]; exact h.rep t
      · simp only [if_neg q]; rw [e]; simp [RepS]
  · by_cases q : look1 t fr = cur t
    · simp only [if_pos q]; exact h.nodup t
    · simp only [if_neg q]; exact List.nodup_nil
  · by_cases q : look1 t fr = cur t
    · simp only [if_pos q] at hb
      by_cases q' : look1 t' fr = cur t'
      · simp only [if_pos q']; exact h.apart t t' ne b hb
      · simp only [if_neg q']; simp
    · simp only [if_neg q] at hb; simp at hb
  · have := find_look t fr [] _ _ _ hf
    rcases hl t with e | e
    · exact (h.al0 t d (by rw [← e, this])).2
    · rw [this] at e; cases e
  · have := find_look t fr [] _ _ _ hf
    rcases hl t with e | e
    · exact absurd (by rw [← e, this]) (h.al1 t d o)
    · rw [this] at e; cases e
  · have := find_look t fr [] _ _ _ hf
    rcases hl t with e | e
    · exact (h.ref t d o (by rw [← e, this])).2
    · rw [this] at e; cases e

theorem RepG.start {W V : List Nat} {Pr : PM} {w : World} {fr : Fr} {ts : Array Value} {F : Nat → List Nat} (h : RepF Pr w fr ts F) : RepG W V Pr w (fun t => lookL t fr) ts F :=
  ⟨fun t => lookL_rep h t, h.nodup, h.apart, fun t d e => absurd e ((lookL_noal t fr).1 d none), fun t d o e => (lookL_noal t fr).1 d (some o) e, fun t d o e => absurd e ((lookL_noal t fr).2 d o)⟩

theorem look1_append (t : Nat) (g : Fr) : ∀ fr : Fr, look1 t (fr ++ g) = match lookE t fr with | some sv => sv | none => look1 t g
  | [] => rfl
  | (x, sv) :: fr => by
    simp only [List.cons_append, look1, lookE]
    cases Nat.beq x t
    · simp only [cond_false]; exact look1_append t g fr
    · simp
theorem look1_mem (t : Nat) : ∀ fr : Fr, look1 t fr = .unk ∨ (t, look1 t fr) ∈ fr
  | [] => .inl rfl
  | (x, sv) :: fr => by
    simp only [look1]
    by_cases e : x = t
    · subst e; simp
    · rw [beq_false e, cond_false]
      exact (look1_mem t fr).imp id (fun h => List.mem_cons_of_mem _ h)
theorem look1_clean (t : Nat) (fr : Fr) : look1 t (clean fr) = lookL t fr ∨ look1 t (clean fr) = .unk := by
  rcases look1_mem t (clean fr) with h | h
  · exact .inr h
  · left
    have h2 : ∃ x ∈ fr, (x.1, lookL x.1 fr) = (t, look1 t (clean fr)) := List.mem_map.1 h
    obtain ⟨x, _, e⟩ := h2
    simp only [Prod.mk.injEq] at e
    rw [← e.2, e.1]
theorem look1_nobind (t : Nat) : ∀ fr : Fr, (∀ x ∈ fr, x.1 ≠ t) → look1 t fr = .unk
  | [], _ => rfl
  | (x, sv) :: fr, h => by
    simp only [look1]
    rw [beq_false (h (x, sv) List.mem_cons_self), cond_false]
    exact look1_nobind t fr fun y hy => h y (List.mem_cons_of_mem _ hy)
theorem look1_final (t : Nat) (fr0 env : Fr) : look1 t (env ++ clean fr0) = curOf fr0 env t ∨ look1 t (env ++ clean fr0) = .unk := by
  rw [look1_append]
  unfold curOf
  cases lookE t env with
  | some sv => exact .inl rfl
  | none => exact look1_clean t fr0

theorem selC_mem {W : List Nat} {fr0 : Fr} {cur : Nat → SV} {l : List Nat} {x : Nat × SV} (h : x ∈ selC W fr0 cur l) : (x.1 ∈ l ∧ x.2 = cur x.1) ∨ (x.1 ∉ W ∧ x.2 = lookL x.1 fr0) := by
  simp only [selC, List.mem_append, List.mem_filter, List.mem_map, List.mem_filterMap] at h
  rcases h with (⟨⟨t, ht, rfl⟩, _⟩ | ⟨⟨t, ht, rfl⟩, _⟩) | ⟨d, _, hd⟩
  · exact .inl ⟨ht, rfl⟩
  · exact .inl ⟨ht, rfl⟩
  · right
    cases hb : W.any (fun y => Nat.beq y d)
    · rw [hb, cond_false] at hd
      simp at hd; subst hd
      exact ⟨fun q => by rw [List.any_eq_false] at hb; exact hb d q (beq_true rfl), rfl⟩
    · rw [hb, cond_true] at hd; cases hd

theorem san_al {W V : List Nat} {d x : Nat} {o : Option Nat} {fr : Fr} (h : san W V d fr = .al x o) : x ∉ W ∧ look1 d fr = .al x none ∧ o = none := by
  unfold san at h
  split at h
  · rename_i y hy
    cases hb : W.any (fun z => Nat.beq z y)
    · rw [hb, cond_false] at h
      simp at h
      obtain ⟨rfl, rfl⟩ := h
      refine ⟨fun q => ?_, hy, rfl⟩
      rw [List.any_eq_false] at hb
      exact hb y q (beq_true rfl)
    · rw [hb] at h; simp at h
  · split at h <;> simp at h
  · rename_i y q _
    cases hb : (V.any (fun z => Nat.beq z y) || Nat.beq d y) <;> rw [hb] at h <;> simp at h
  · simp at h
  · rename_i h1 h2 h3 h4
    cases o with
    | none => exact absurd h (h1 x)
    | some o => exact absurd h (h2 x o)

theorem san_sound {W V : List Nat} {Pr : PM} {w : World} {d : Nat} {sv : SV} {fr : Fr} {ts : Array Value} {F : Nat → List Nat} (h : RepF Pr w ((d, sv) :: fr) ts F) (hd : d ∈ W) :
    ∃ B, (B = F d ∨ B = []) ∧ RepS Pr w (san W V d ((d, sv) :: fr)) (ts.getD d undef) B ∧ (∀ x, san W V d ((d, sv) :: fr) = .al x none → x ∉ W ∧ ts.getD d undef = ts.getD x undef) ∧
      (∀ x o, san W V d ((d, sv) :: fr) ≠ .al x (some o)) ∧ ∀ x o, san W V d ((d, sv) :: fr) = .ref x o → x ∉ V ∧ ∃ b, ts.getD x undef = .pointer (some ⟨b, 0, none⟩) ∧ ts.getD d undef = .pointer (some ⟨b, o, none⟩) := by
  have hr := h.rep d
  have hl : look1 d ((d, sv) :: fr) = sv := by simp [look1]
  have hf : find d ((d, sv) :: fr) [] = some ([(d, sv.isUpd)], sv, fr) := by simp [find]
  rw [hl] at hr
  unfold san
  rw [hl]
  split
  · rename_i x
    cases hb : W.any (fun y => Nat.beq y x)
    · simp only [cond_false]
      have hx : x ∉ W := fun q => by
        rw [List.any_eq_false] at hb
        exact hb x q (beq_true rfl)
      refine ⟨F d, .inl rfl, hr, fun y e => ?_, by simp, by simp⟩
      simp at e; subst e
      refine ⟨hx, h.alias0 d _ x _ hf ?_⟩
      simp only [bound]
      rw [beq_false (fun e : d = x => hx (by rw [← e]; exact hd))]; rfl
    · simp only [cond_true]
      exact ⟨[], .inr rfl, by simp [RepS], by simp, by simp, by simp⟩
  · rename_i x o
    split
    · rename_i v hv
      exact ⟨[], .inr rfl, by simp only [RepS]; exact ⟨rd_sound h hv, trivial⟩, by simp, by simp, by simp⟩
    · exact ⟨[], .inr rfl, by simp [RepS], by simp, by simp, by simp⟩
  · rename_i x o
    cases hb : (V.any (fun y => Nat.beq y x) || Nat.beq d x)
    · simp only [cond_false]
      rw [Bool.or_eq_false_iff] at hb
      obtain ⟨hb, hb2⟩ := hb
      have hx : x ∉ V := fun q => by
        rw [List.any_eq_false] at hb
        exact hb x q (beq_true rfl)
      refine ⟨F d, .inl rfl, hr, by simp, by simp, fun y o' e => ?_⟩
      simp at e; obtain ⟨rfl, rfl⟩ := e
      refine ⟨hx, h.ref d _ x o _ hf ?_⟩
      simp only [remade]
      rw [hb2]; rfl
    · simp only [cond_true]
      exact ⟨[], .inr rfl, by simp [RepS], by simp, by simp, by simp⟩
  · rename_i nw cs
    refine ⟨F d, .inl rfl, ?_, by simp, by simp, by simp⟩
    simp only [RepS] at hr ⊢
    exact hr
  · rename_i h1 h2 h3 h4
    refine ⟨F d, .inl rfl, hr, fun x e => absurd e (h1 x), fun x o e => h2 x o e, fun x o e => absurd e (h3 x o)⟩

theorem evD_sound {R : Type} {ops : List Oper} {K : Fr → Option R} {r : R} {o : Oper} {fr : Fr} {Pr : PM} {w : World} {a : Act} {F : Nat → List Nat} {next : Act → World → Prop} {Q : Exit → Act → World → Prop}
    (hC : Cx P T) (hE : SatE P E) (hev : evD T E ops o fr K = some r) (hJ : JT P w F) (hF : RepF Pr w fr a.tmps F) (hP : PrOK Pr w) (hd : DOK o a) (hn : Nx K r o.dst Pr w a F next) : o.wp P a w next Q := by
  unfold evD at hev
  split at hev
  · rename_i s ho
    refine wp_value (v := a.eval (.tmp s)) (w' := w) (by simp [execOp, ho]) ?_
    show next (a.put o.dst (a.tmps.getD s undef)) w
    split at hev
    · rename_i v hv
      exact finV hF hP hd hn (rd_sound hF hv) hev
    · exact finU hF hP hd hn hev
  · replace hev := bif_some hev; obtain ⟨_, hev⟩ := hev
    exact evOp_sound hC hE hev hJ hF hP hd hn
  · exact evOp_sound hC hE hev hJ hF hP hd hn
theorem dstO_of {ops : List Oper} {o : Oper} {t : Nat} (h : o.dst = some t) : dstO ops o = some t := by simp [dstO, h]

open Classical in
theorem draw_step {ops : Array Oper} {W V : List Nat} {fr0 : Fr} {fin cur cur' : Nat → SV} {i : Nat} {o : Oper} {Pr : PM} {w : World} {a : Act} {F : Nat → List Nat} {next : Act → World → Prop} {Q : Exit → Act → World → Prop}
    (hC : Cx P T) (hE : SatE P E) (hi : ops[i]? = some o) (hp : pureOp o.op = true) (hfact : OpFact T E ops.toList W V fr0 fin cur' o) (hJ : JT P w F) (hG : RepG W V Pr w cur a.tmps F) (hP : PrOK Pr w)
    (hl : ∀ t ∈ looked ops.toList o, cur' t = cur t) (hW : ∀ d, d ∉ W → cur d = lookL d fr0) (hgs : o.guard = none ∨ dstO ops.toList o = o.dst) (hd : DOK o a) (hdW : ∀ d, (dstO ops.toList o) = some d → d ∈ W) (hdV : ∀ d, o.dst = some d → d ∈ V)
    (hn : ∀ Pr' w' a' F', RepG W V Pr' w' (fun t => if (dstO ops.toList o) = some t then fin t else cur t) a'.tmps F' → PrOK Pr' w' → Step F Pr w a F' Pr' w' a' (fun d => o.dst = some d) → next a' w') :
    wpOp P ops Q i next a w := by
  unfold wpOp
  rw [hi]
  simp only
  have hgl : ∀ j want d, o.guard = some (j, want) → dstAt ops.toList j = some d → d ∈ looked ops.toList o := by
    intro j want d h1 h2
    simp only [looked, h1, List.mem_append]
    right
    unfold dstAt at h2
    rw [h2]; simp
  rcases hfact with ⟨hg, fr', hev, hfin⟩ | ⟨j, want, d, g1, g2, g3, g4⟩
  · have hwant : Region.wanted o (yielded ops a.tmps) = true := by
      rcases hg with hg | ⟨j, want, d, g1, g2, g3⟩
      · simp [Region.wanted, hg]
      · have := hG.rep d
        rw [← hl d (hgl j want d g1 g2), g3] at this
        simp only [RepS, RepA, RepD] at this
        simp [Region.wanted, g1, yielded_bool (by simpa [dstAt] using g2) this.1]
    rw [if_pos hwant]
    left
    obtain ⟨sv, hsv⟩ := evD_shape (ops := ops.toList) o _ fr' hp hev
    have hmem : ∀ x ∈ selC W fr0 cur' (looked ops.toList o), x.2 = cur x.1 := by
      intro x hx
      rcases selC_mem hx with ⟨h1, h2⟩ | ⟨h1, h3⟩
      · rw [h2, hl _ h1]
      · rw [h3, hW _ h1]
    have hlook : ∀ t, look1 t (selC W fr0 cur' (looked ops.toList o)) = cur t ∨ look1 t (selC W fr0 cur' (looked ops.toList o)) = .unk := by
      intro t
      rcases look1_mem t (selC W fr0 cur' (looked ops.toList o)) with h | h
      · exact .inr h
      · exact .inl (hmem _ h)
    have hF := hG.frame _ hlook
    refine evD_sound hC hE hev (hJ.sub fun t b hb => ⟨t, by by_cases q : look1 t (selC W fr0 cur' (looked ops.toList o)) = cur t <;> simp [q] at hb; exact hb⟩) hF hP hd fun v fr2 Pr' w' F2 hK h1 h2 h3 h4 => ?_
    simp only [Option.some.injEq] at hK
    subst hK
    have hkeep : ∀ t, look1 t (selC W fr0 cur' (looked ops.toList o)) ≠ cur t → Keeps (F t) Pr w Pr' w' := fun t ht => h3.keeps fun b hb => ⟨RepS.lt _ _ _ (hG.rep t) b hb, fun ⟨t', hb'⟩ => by
      by_cases q : look1 t' (selC W fr0 cur' (looked ops.toList o)) = cur t'
      · rw [if_pos q] at hb'
        exact hG.apart t t' (fun e => ht (e ▸ q)) b hb hb'
      · rw [if_neg q] at hb'; simp at hb'⟩
    have hold : ∀ t b, b ∈ F2 t → (∃ t', b ∈ F t' ∧ look1 t' (selC W fr0 cur' (looked ops.toList o)) = cur t') ∨ w.heap.size ≤ b := fun t b hb => (h4 t b hb).imp (fun ⟨t', q⟩ => by
      by_cases e : look1 t' (selC W fr0 cur' (looked ops.toList o)) = cur t'
      · rw [if_pos e] at q; exact ⟨t', q, e⟩
      · rw [if_neg e] at q; simp at q) id
    -- what was told stays told
    have hstay : ∀ t, (dstO ops.toList o) ≠ some t → RepS Pr' w' (cur t) ((a.put o.dst v).tmps.getD t undef) (if look1 t (selC W fr0 cur' (looked ops.toList o)) = cur t then F2 t else F t) := by
      intro t ht
      by_cases e : look1 t (selC W fr0 cur' (looked ops.toList o)) = cur t
      · rw [if_pos e]
        have := h1.rep t
        rw [hsv] at this
        have e2 : look1 t (dset (dstO ops.toList o) sv (selC W fr0 cur' (looked ops.toList o))) = cur t := by
          cases hdst : (dstO ops.toList o) with
          | none => exact e
          | some d =>
            simp only [dset, look1]
            rw [beq_false (fun q => ht (by rw [hdst, q])), cond_false]; exact e
        rw [e2] at this
        exact this
      · rw [if_neg e, put_same a o.dst v t (fun q => ht (dstO_of q))]
        exact RepS.mono h3.le _ _ _ (hkeep t e) (hG.rep t)
    -- the new slot's own
    have hnew : ∃ B, ∀ d, (dstO ops.toList o) = some d → (B = F2 d ∨ B = []) ∧ RepS Pr' w' (fin d) ((a.put o.dst v).tmps.getD d undef) B ∧ (∀ x, fin d = .al x none → x ∉ W ∧ (a.put o.dst v).tmps.getD d undef = (a.put o.dst v).tmps.getD x undef) ∧
        (∀ x q, fin d ≠ .al x (some q)) ∧ ∀ x q, fin d = .ref x q → x ∉ V ∧ ∃ b, (a.put o.dst v).tmps.getD x undef = .pointer (some ⟨b, 0, none⟩) ∧ (a.put o.dst v).tmps.getD d undef = .pointer (some ⟨b, q, none⟩) := by
      cases hdst : (dstO ops.toList o) with
      | none => exact ⟨[], by simp⟩
      | some d =>
        have := h1
        rw [hsv, hdst] at this
        obtain ⟨B, q⟩ := san_sound (W := W) (V := V) this (hdW d hdst)
        refine ⟨B, fun d' e => ?_⟩
        simp at e; subst e
        have e2 := hfin d hdst
        rw [hsv, hdst] at e2
        simp only [dset] at e2
        rw [e2]
        exact q
    obtain ⟨B, hnew⟩ := hnew
    let F' : Nat → List Nat := fun t => if (dstO ops.toList o) = some t then B else if look1 t (selC W fr0 cur' (looked ops.toList o)) = cur t then F2 t else F t
    have hF' : ∀ t b, b ∈ F' t → (b ∈ F2 t ∧ ((dstO ops.toList o) = some t ∨ look1 t (selC W fr0 cur' (looked ops.toList o)) = cur t)) ∨ (b ∈ F t ∧ look1 t (selC W fr0 cur' (looked ops.toList o)) ≠ cur t) := by
      intro t b hb
      by_cases e : (dstO ops.toList o) = some t
      · simp only [F', if_pos e] at hb
        rcases (hnew t e).1 with q | q
        · exact .inl ⟨q ▸ hb, .inl e⟩
        · rw [q] at hb; simp at hb
      · by_cases e2 : look1 t (selC W fr0 cur' (looked ops.toList o)) = cur t
        · simp only [F', if_neg e, if_pos e2] at hb; exact .inl ⟨hb, .inr e2⟩
        · simp only [F', if_neg e, if_neg e2] at hb; exact .inr ⟨hb, e2⟩
    have hx : ∀ t t' b, b ∈ F2 t → b ∈ F t' → look1 t' (selC W fr0 cur' (looked ops.toList o)) ≠ cur t' → False := by
      intro t t' b h5 h6 h7
      rcases hold t b h5 with ⟨t2, q1, q2⟩ | q
      · exact hG.apart t2 t' (fun e => h7 (e ▸ q2)) b q1 h6
      · have := RepS.lt _ _ _ (hG.rep t') b h6; omega
    refine hn Pr' w' _ F' ⟨fun t => ?_, fun t => ?_, fun t t' ne b hb hb' => ?_, fun t d e => ?_, fun t d q e => ?_, fun t d q e => ?_⟩ h2
      ⟨h3.weaken fun b ⟨t, hb⟩ => ?_, fun t b hb => ?_, put_defers _ _ _, put_size _ _ _, fun t ht => put_same a o.dst v t fun q => ht q⟩
    · by_cases e : (dstO ops.toList o) = some t
      · simp only [F', if_pos e]; exact (hnew t e).2.1
      · simp only [F', if_neg e]; exact hstay t e
    · by_cases e : (dstO ops.toList o) = some t
      · simp only [F', if_pos e]
        rcases (hnew t e).1 with q | q
        · rw [q]; exact h1.nodup t
        · rw [q]; exact List.nodup_nil
      · simp only [F', if_neg e]
        by_cases e2 : look1 t (selC W fr0 cur' (looked ops.toList o)) = cur t
        · rw [if_pos e2]; exact h1.nodup t
        · rw [if_neg e2]; exact hG.nodup t
    · rcases hF' t b hb with ⟨p1, p2⟩ | ⟨p1, p2⟩ <;> rcases hF' t' b hb' with ⟨q1, q2⟩ | ⟨q1, q2⟩
      · exact h1.apart t t' ne b p1 q1
      · exact hx t t' b p1 q1 q2
      · exact hx t' t b q1 p1 p2
      · exact hG.apart t t' ne b p1 q1
    · by_cases e2 : (dstO ops.toList o) = some t
      · rw [if_pos e2] at e; exact (hnew t e2).2.2.1 d e
      · rw [if_neg e2] at e
        obtain ⟨q1, q2⟩ := hG.al0 t d e
        rw [put_same a o.dst v t (fun q => e2 (dstO_of q)), put_same a o.dst v d (fun q => q1 (hdW d (dstO_of q)))]
        exact ⟨q1, q2⟩
    · by_cases e2 : (dstO ops.toList o) = some t
      · rw [if_pos e2] at e; exact (hnew t e2).2.2.2.1 d q e
      · rw [if_neg e2] at e; exact hG.al1 t d q e
    · by_cases e2 : (dstO ops.toList o) = some t
      · rw [if_pos e2] at e; exact (hnew t e2).2.2.2.2 d q e
      · rw [if_neg e2] at e
        obtain ⟨q1, q2⟩ := hG.ref t d q e
        rw [put_same a o.dst v t (fun q => e2 (dstO_of q)), put_same a o.dst v d (fun q => q1 (hdV d q))]
        exact ⟨q1, q2⟩
    · by_cases q : look1 t (selC W fr0 cur' (looked ops.toList o)) = cur t
      · rw [if_pos q] at hb; exact ⟨t, hb⟩
      · rw [if_neg q] at hb; simp at hb
    · rcases hF' t b hb with ⟨p1, _⟩ | ⟨p1, _⟩
      · exact (hold t b p1).imp (fun ⟨t', q, _⟩ => ⟨t', q⟩) id
      · exact .inl ⟨t, p1⟩
  · have hwant : ¬ Region.wanted o (yielded ops a.tmps) = true := by
      have := hG.rep d
      rw [← hl d (hgl j want d g1 g2)] at this
      rcases g3 with g3 | g3
      · rw [g3] at this
        simp only [RepS] at this
        simp [Region.wanted, g1, yielded_und (by simpa [dstAt] using g2) this.1]
      · rw [g3] at this
        simp only [RepS, RepA, RepD] at this
        simp [Region.wanted, g1, yielded_bool (by simpa [dstAt] using g2) this.1]
    rw [if_neg hwant]
    let F' : Nat → List Nat := fun t => if (dstO ops.toList o) = some t then [] else F t
    have hF' : ∀ t b, b ∈ F' t → b ∈ F t := by
      intro t b hb
      by_cases e : (dstO ops.toList o) = some t
      · simp [F', e] at hb
      · simpa [F', e] using hb
    refine hn Pr w _ F' ⟨fun t => ?_, fun t => ?_, fun t t' ne b hb hb' => hG.apart t t' ne b (hF' t b hb) (hF' t' b hb'), fun t d' e => ?_, fun t d' q e => ?_, fun t d' q e => ?_⟩ hP
      ⟨Ext.refl _ _ _, fun t b hb => .inl ⟨t, hF' t b hb⟩, put_defers _ _ _, put_size _ _ _, fun t ht => put_same a o.dst undef t fun q => ht q⟩
    · by_cases e : (dstO ops.toList o) = some t
      · simp only [F', if_pos e]
        have e' : o.dst = some t := by rw [← hgs.resolve_left (by simp [g1])]; exact e
        rw [g4 t e, e']
        simp only [Act.put]
        rw [getD_set _ _ _ _ (hd t e'), if_pos rfl]
        simp [RepS]
      · simp only [F', if_neg e]
        rw [put_same a o.dst undef t (fun q => e (dstO_of q))]
        exact hG.rep t
    · by_cases e : (dstO ops.toList o) = some t
      · simp only [F', if_pos e]; exact List.nodup_nil
      · simp only [F', if_neg e]; exact hG.nodup t
    · by_cases e2 : (dstO ops.toList o) = some t
      · rw [if_pos e2, g4 t e2] at e; cases e
      · rw [if_neg e2] at e
        obtain ⟨q1, q2⟩ := hG.al0 t d' e
        rw [put_same a o.dst undef t (fun q => e2 (dstO_of q)), put_same a o.dst undef d' (fun q => q1 (hdW d' (dstO_of q)))]
        exact ⟨q1, q2⟩
    · by_cases e2 : (dstO ops.toList o) = some t
      · rw [if_pos e2, g4 t e2] at e; cases e
      · rw [if_neg e2] at e; exact hG.al1 t d' q e
    · by_cases e2 : (dstO ops.toList o) = some t
      · rw [if_pos e2, g4 t e2] at e; cases e
      · rw [if_neg e2] at e
        obtain ⟨q1, q2⟩ := hG.ref t d' q e
        rw [put_same a o.dst undef t (fun q => e2 (dstO_of q)), put_same a o.dst undef d' (fun q => q1 (hdV d' q))]
        exact ⟨q1, q2⟩

theorem depB_spec {ops : Array Oper} {i j : Nat} {o : Oper} (ho : ops[i]? = some o) (h : depB ops.toList i j = true) : ∃ e ∈ o.after, Region.binds .any e = true ∧ e.on = j := by
  unfold depB at h
  rw [Array.getElem?_toList, ho] at h
  simp only [List.any_eq_true, Bool.and_eq_true] at h
  obtain ⟨e, h1, h2, h3⟩ := h
  exact ⟨e, by simpa using h1, h2, Nat.eq_of_beq_eq_true h3⟩

theorem dsts_mem {ops l : List Oper} {t : Nat} : t ∈ dsts ops l ↔ ∃ (j : Nat) (o : Oper), l[j]? = some o ∧ dstO ops o = some t := by
  simp only [dsts, List.mem_filterMap]
  constructor
  · rintro ⟨o, h1, h2⟩
    obtain ⟨j, hj⟩ := List.getElem?_of_mem h1
    exact ⟨j, o, hj, h2⟩
  · rintro ⟨j, o, h1, h2⟩
    exact ⟨o, List.mem_of_getElem? h1, h2⟩
open Classical in
/-- What a slot is, of the operations that have run. -/
noncomputable def drawVal (ops : List Oper) (H : Nat → Nat → SV) (L : Nat → Bool) (t : Nat) : Nat → SV
  | 0 => H 0 t
  | n + 1 => if (∃ o, ops[n]? = some o ∧ dstO ops o = some t) ∧ L n = true then H (n + 1) t else drawVal ops H L t n
theorem drawVal_at {ops : List Oper} {H : Nat → Nat → SV} {L : Nat → Bool} {t i : Nat} (hs : ∀ i o, ops[i]? = some o → ∀ t, dstO ops o ≠ some t → H (i + 1) t = H i t)
    (h1 : ∀ j o, j < i → ops[j]? = some o → dstO ops o = some t → L j = true) (h2 : ∀ j o, i ≤ j → ops[j]? = some o → dstO ops o = some t → ¬ L j = true) : ∀ n, n ≤ ops.length → drawVal ops H L t n = H (min n i) t
  | 0, _ => by simp [drawVal]
  | n + 1, hn => by
    have ih := drawVal_at hs h1 h2 n (by omega)
    have ho : ops[n]? = some ops[n] := by simp
    simp only [drawVal]
    by_cases q : n < i
    · rw [show min (n + 1) i = n + 1 by omega]
      rw [show min n i = n by omega] at ih
      by_cases e : dstO ops ops[n] = some t
      · rw [if_pos ⟨⟨_, ho, e⟩, h1 n _ q ho e⟩]
      · rw [if_neg (fun ⟨⟨o, z, y⟩, _⟩ => e (by rw [ho] at z; simp at z; rw [z]; exact y)), ih, hs n _ ho t e]
    · rw [show min (n + 1) i = min n i by omega]
      rw [if_neg (fun ⟨⟨o, z, y⟩, x⟩ => h2 n o (by omega) z y x), ih]
theorem drawVal_none {ops : List Oper} {H : Nat → Nat → SV} {L : Nat → Bool} {t : Nat} (h : ∀ (j : Nat) (o : Oper), ops[j]? = some o → dstO ops o ≠ some t) : ∀ n, drawVal ops H L t n = H 0 t
  | 0 => rfl
  | n + 1 => by
    simp only [drawVal]
    rw [if_neg (fun ⟨⟨o, z, y⟩, _⟩ => h n o z y), drawVal_none h n]
theorem drawVal_off {ops : List Oper} {H : Nat → Nat → SV} {L L' : Nat → Bool} {t i : Nat} {o : Oper} (ho : ops[i]? = some o) (hd : dstO ops o ≠ some t) (h : ∀ j, j ≠ i → L' j = L j) : ∀ n, drawVal ops H L' t n = drawVal ops H L t n
  | 0 => rfl
  | n + 1 => by
    simp only [drawVal]
    rw [drawVal_off ho hd h n]
    by_cases e : n = i
    · subst e
      rw [if_neg (fun ⟨⟨o', z, y⟩, _⟩ => hd (by rw [ho] at z; simp at z; rw [z]; exact y)), if_neg (fun ⟨⟨o', z, y⟩, _⟩ => hd (by rw [ho] at z; simp at z; rw [z]; exact y))]
    · rw [h n e]
theorem countP_lt {p q : Nat → Bool} {i : Nat} (hp : p i = true) (hq : q i = false) (h : ∀ j, q j = true → p j = true) : ∀ l : List Nat, i ∈ l → l.countP q < l.countP p
  | [], hi => by simp at hi
  | x :: l, hi => by
    have hle : l.countP q ≤ l.countP p := List.countP_mono_left fun j _ => h j
    rw [List.countP_cons, List.countP_cons]
    rcases List.mem_cons.1 hi with e | e
    · subst e
      rw [hp, hq]; simp; omega
    · have := countP_lt hp hq h l e
      have := h x
      cases hqx : q x <;> cases hpx : p x <;> simp_all <;> omega

open Classical in
theorem drawSound (hC : Cx P T) (hE : SatE P E) (hm : P.follows .mixedOrders = true) : DrawSound P T E := by
  intro R K r Q id ops fr0 Pr0 w0 a0 F0 hok hev hJ hF hP hb hk
  simp only [drawOK, Bool.and_eq_true, List.all_eq_true] at hok
  obtain ⟨hpure0, hdep⟩ := hok
  have hpure : ∀ o ∈ ops.toList, pureOp o.op = true := fun o ho => (hpure0 o ho).1
  have hgst : ∀ o ∈ ops.toList, o.guard = none ∨ dstO ops.toList o = o.dst := by
    intro o ho
    have := (hpure0 o ho).2
    simp only [Bool.or_eq_true, Option.isNone_iff_eq_none] at this
    refine this.imp (fun q => q) fun q => ?_
    simp only [dstO]
    cases hd : o.dst with
    | some d => rfl
    | none =>
      simp only
      split
      · rename_i t s x h1; rw [h1] at q; cases q
      · rfl
  obtain ⟨H, envF, hK, hH0, hHn, hfact⟩ := evDraw_fact ops.toList [] (fun o ho => hpure o ho) hev
  have hstep : ∀ i o, ops.toList[i]? = some o → ∀ t, dstO ops.toList o ≠ some t → H (i + 1) t = H i t := fun i o h => (hfact i o h).1
  have hH0 : ∀ t, H 0 t = lookL t fr0 := fun t => by rw [hH0]; rfl
  -- what the text's dependencies come to
  have hat : ∀ (i : Nat) (o : Oper), ops[i]? = some o → (∀ e ∈ o.after, Region.binds .any e = true → e.on < i) ∧
      ∀ t ∈ (dstO ops.toList o).toList ++ looked ops.toList o, ∀ j o', ops[j]? = some o' → dstO ops.toList o' = some t → i = j ∨ (j < i ∧ depB ops.toList i j = true) ∨ (i < j ∧ depB ops.toList j i = true) := by
    intro i o hi
    have hlt : i < ops.size := (Array.getElem?_eq_some_iff.1 hi).1
    have := hdep i (List.mem_range.2 (by simpa using hlt))
    rw [Array.getElem?_toList, hi] at this
    simp only [Bool.and_eq_true, List.all_eq_true, List.mem_range, Bool.or_eq_true, Bool.not_eq_true'] at this
    obtain ⟨h1, h2⟩ := this
    refine ⟨fun e he hbe => ?_, fun t ht j o' hj hdt => ?_⟩
    · rcases h1 e (by simpa using he) with q | q
      · rw [hbe] at q; cases q
      · simpa using q
    · have hjlt : j < ops.size := (Array.getElem?_eq_some_iff.1 hj).1
      have := h2 t ht j (by simpa using hjlt)
      have e1 : dstOAt ops.toList j = some t := by simp [dstOAt, hj, hdt]
      simp only [e1, beq_true rfl, Bool.not_true, Bool.false_or, Bool.or_eq_true] at this
      rcases this with q | q
      · exact .inl (Nat.eq_of_beq_eq_true q)
      · cases hlt2 : Nat.blt j i
        · rw [hlt2, cond_false] at q
          by_cases e : i = j
          · exact .inl e
          · refine .inr (.inr ⟨?_, q⟩)
            have : ¬ j < i := fun q => by
              rw [show Nat.blt j i = true by rw [Nat.blt_eq]; exact q] at hlt2; cases hlt2
            omega
        · rw [hlt2, cond_true] at q
          exact .inr (.inl ⟨by simpa using hlt2, q⟩)
  let W := dsts ops.toList ops.toList
  let V := ops.toList.filterMap (·.dst)
  let cur : Array Bool → Nat → SV := fun L t => drawVal ops.toList H (fun j => L.getD j false) t ops.toList.length
  have hcurW : ∀ L d, d ∉ W → cur L d = lookL d fr0 := fun L d hd => (drawVal_none (fun j o h1 h2 => hd (dsts_mem.2 ⟨j, o, h1, h2⟩)) _).trans (hH0 d)
  -- any order
  have any : ∀ (n : Nat) (L : Array Bool) (Pr : PM) (w : World) (a : Act) (F : Nat → List Nat), RepG W V Pr w (cur L) a.tmps F → PrOK Pr w → Step F0 Pr0 w0 a0 F Pr w a (fun d => d ∈ ops.toList.filterMap (·.dst)) →
      L.size = ops.size → (List.range ops.size).countP (fun j => !L.getD j true) ≤ n → (∀ (i : Nat) (o : Oper), ops[i]? = some o → L.getD i false = true → ∀ e ∈ o.after, Region.binds .any e = true → L.getD e.on false = true) →
      wpAny P .any ops Q n L a w := by
    intro n
    -- none left
    have last : ∀ (L : Array Bool) (Pr : PM) (w : World) (a : Act) (F : Nat → List Nat), RepG W V Pr w (cur L) a.tmps F → PrOK Pr w → Step F0 Pr0 w0 a0 F Pr w a (fun d => d ∈ ops.toList.filterMap (·.dst)) → (∀ i, i < ops.size → L.getD i false = true) → Q .normal a w := by
      intro L Pr w a F h1 h2 h3 h4
      have hcur : cur L = curOf fr0 envF := by
        funext t
        have := drawVal_at (ops := ops.toList) (H := H) (L := fun j => L.getD j false) (t := t) (i := ops.toList.length) hstep (fun j o hj _ _ => h4 j (by simpa using hj)) (fun j o hj h => by rw [List.getElem?_eq_none hj] at h; cases h) ops.toList.length (Nat.le_refl _)
        rw [Nat.min_self] at this
        rw [hHn]; exact this
      rw [hcur] at h1
      have := h1.frame (envF ++ clean fr0) fun t => look1_final t fr0 envF
      refine hk _ Pr w a _ hK this h2 ⟨h3.ext, fun t b hb => ?_, h3.defers, h3.size, h3.same⟩
      by_cases q : look1 t (envF ++ clean fr0) = curOf fr0 envF t
      · simp only [if_pos q] at hb; exact h3.sub t b hb
      · simp only [if_neg q] at hb; simp at hb
    have least : ∀ (L : Array Bool), L.size = ops.size → Region.ready .any ops L = [] → ∀ i, i < ops.size → L.getD i false = true := by
      intro L hs hr i
      induction i using Nat.strongRecOn with
      | _ i ih =>
        intro hlt
        by_cases e : L.getD i false = true
        · exact e
        · exfalso
          have : i ∈ Region.ready .any ops L := by
            rw [mem_ready]
            refine ⟨?_, ops[i], by simp [hlt], fun e' he hbe => ?_⟩
            · have : i < L.size := by omega
              simp [this] at e ⊢
              exact e
            · have := (hat i ops[i] (by simp [hlt])).1 e' he hbe
              exact ih e'.on this (by omega)
          rw [hr] at this; cases this
    induction n with
    | zero =>
      intro L Pr w a F h1 h2 h3 hs hc hcl
      have hall : ∀ i, i < ops.size → L.getD i true = true := by
        intro i hi
        have := List.countP_eq_zero.1 (Nat.le_zero.1 hc) i (List.mem_range.2 hi)
        simpa using this
      have hall' : ∀ i, i < ops.size → L.getD i false = true := by
        intro i hi
        have := hall i hi
        have hi' : i < L.size := by omega
        simpa [hi'] using this
      refine ⟨?_, last L Pr w a F h1 h2 h3 hall'⟩
      rw [List.eq_nil_iff_forall_not_mem]
      intro i hi
      rw [mem_ready] at hi
      obtain ⟨q1, o, q2, _⟩ := hi
      rw [hall i (Array.getElem?_eq_some_iff.1 q2).1] at q1
      cases q1
    | succ n ih =>
      intro L Pr w a F h1 h2 h3 hs hc hcl
      refine ⟨fun hr => last L Pr w a F h1 h2 h3 (least L hs hr), fun i hi => ?_⟩
      rw [mem_ready] at hi
      obtain ⟨hun, o, ho, hafter⟩ := hi
      have hlt : i < ops.size := (Array.getElem?_eq_some_iff.1 ho).1
      have hun' : ¬ L.getD i false = true := by
        have hi' : i < L.size := by omega
        simp [hi'] at hun ⊢
        exact hun
      have hmem : o ∈ ops.toList := by simpa using Array.mem_of_getElem? ho
      have hi' : i < L.size := by omega
      have before : ∀ t ∈ (dstO ops.toList o).toList ++ looked ops.toList o, ∀ j o', j < i → ops.toList[j]? = some o' → dstO ops.toList o' = some t → L.getD j false = true := by
        intro t ht j o' hj q1 q2
        rcases (hat i o ho).2 t ht j o' (by simpa using q1) q2 with e | ⟨_, e⟩ | ⟨e, _⟩
        · omega
        · obtain ⟨e', p1, p2, p3⟩ := depB_spec ho e
          rw [← p3]; exact hafter e' p1 p2
        · omega
      have behind : ∀ t ∈ (dstO ops.toList o).toList ++ looked ops.toList o, ∀ j o', i ≤ j → ops.toList[j]? = some o' → dstO ops.toList o' = some t → ¬ L.getD j false = true := by
        intro t ht j o' hj q1 q2 q3
        have q1' : ops[j]? = some o' := by simpa using q1
        rcases (hat i o ho).2 t ht j o' q1' q2 with e | ⟨e, _⟩ | ⟨_, e⟩
        · exact hun' (e ▸ q3)
        · omega
        · obtain ⟨e', p1, p2, p3⟩ := depB_spec q1' e
          have := hcl j o' q1' q3 e' p1 p2
          rw [p3] at this
          exact hun' this
      refine draw_step (fr0 := fr0) (fin := H (i + 1)) (cur' := H i) hC hE ho (hpure o hmem) (hfact i o (by simpa using ho)).2 (hJ.step h3) h1 h2 ?_ (hcurW L) (hgst o hmem) (fun d hd => by rw [h3.size]; exact hb o hmem d hd) (fun d hd => dsts_mem.2 ⟨i, o, by simpa using ho, hd⟩) (fun d hd => List.mem_filterMap.2 ⟨o, hmem, hd⟩) ?_
      · intro t ht
        have ht' := List.mem_append_right (dstO ops.toList o).toList ht
        have := drawVal_at (ops := ops.toList) (H := H) (L := fun j => L.getD j false) (t := t) (i := i) hstep (before t ht') (behind t ht') ops.toList.length (Nat.le_refl _)
        rw [show min ops.toList.length i = i by simp; omega] at this
        exact this.symm
      · intro Pr' w' a' F' g1 g2 g3
        have hset : ∀ j, (L.setIfInBounds i true).getD j false = (if j = i then true else L.getD j false) := by
          intro j
          by_cases e : j = i
          · subst e; simp [hi']
          · rw [if_neg e]; exact getD_set_ne false (Ne.symm e)
        have hcur : (fun t => if dstO ops.toList o = some t then H (i + 1) t else cur L t) = cur (L.setIfInBounds i true) := by
          funext t
          by_cases e : dstO ops.toList o = some t
          · rw [if_pos e]
            have ht' : t ∈ (dstO ops.toList o).toList ++ looked ops.toList o := List.mem_append_left _ (by rw [e]; simp)
            have := drawVal_at (ops := ops.toList) (H := H) (L := fun j => (L.setIfInBounds i true).getD j false) (t := t) (i := i + 1) hstep
              (fun j o' hj q1 q2 => by
                simp only [hset]
                by_cases z : j = i
                · rw [if_pos z]
                · rw [if_neg z]; exact before t ht' j o' (by omega) q1 q2)
              (fun j o' hj q1 q2 => by
                simp only [hset]
                rw [if_neg (by omega)]
                exact behind t ht' j o' (by omega) q1 q2) ops.toList.length (Nat.le_refl _)
            rw [show min ops.toList.length (i + 1) = i + 1 by simp; omega] at this
            exact this.symm
          · rw [if_neg e]
            exact (drawVal_off (by simpa using ho) e (fun j hj => by simp only [hset]; rw [if_neg hj]) _).symm
        rw [hcur] at g1
        refine ih _ Pr' w' a' F' g1 g2 (h3.trans (g3.weaken fun d hd => List.mem_filterMap.2 ⟨o, hmem, hd⟩)) (by simp [hs]) ?_ ?_
        · have hlt2 : (List.range ops.size).countP (fun j => !(L.setIfInBounds i true).getD j true) < (List.range ops.size).countP (fun j => !L.getD j true) := by
            refine countP_lt (i := i) (by simp [hun]) (by have hi' : i < L.size := by omega
                                                          simp [hi']) (fun j hj => ?_) _ (List.mem_range.2 hlt)
            by_cases z : j = i
            · subst z; simp [hun]
            · rw [getD_set_ne true (Ne.symm z)] at hj; exact hj
          omega
        · intro j o' q1 q2 e he hbe
          rw [hset] at q2 ⊢
          by_cases z : e.on = i
          · rw [if_pos z]
          · rw [if_neg z]
            by_cases y : j = i
            · subst y; rw [ho] at q1; simp at q1; subst q1; exact hafter e he hbe
            · rw [if_neg y] at q2; exact hcl j o' q1 q2 e he hbe
  refine wp_region_any hm ?_
  refine any ops.size (Array.replicate ops.size false) Pr0 _ a0 F0 ?_ ?_ ?_ (by simp) ?_ ?_
  · have h0 : cur (Array.replicate ops.size false) = fun t => lookL t fr0 := by
      funext t
      have := drawVal_at (ops := ops.toList) (H := H) (L := fun j => (Array.replicate ops.size false).getD j false) (t := t) (i := 0) hstep (fun j _ hj => by omega) (fun j o' _ q1 _ => by
        have hlt : j < ops.size := (Array.getElem?_eq_some_iff.1 (show ops[j]? = some o' by simpa using q1)).1
        simp [hlt]) ops.toList.length (Nat.le_refl _)
      rw [Nat.min_zero] at this
      exact this.trans (hH0 t)
    rw [h0]
    exact RepG.start (hF.mono (PrLe.refl _) fun t b _ => ⟨rfl, fun _ => rfl⟩)
  · exact hP
  · exact ⟨⟨rfl, rfl, rfl, Nat.le_refl _, PrLe.refl _, fun _ _ _ => ⟨rfl, fun _ => rfl⟩⟩, fun t b hb => .inl ⟨t, hb⟩, rfl, rfl, fun _ _ => rfl⟩
  · have := List.countP_le_length (l := List.range ops.size) (p := fun j => !(Array.replicate ops.size false).getD j true)
    simpa using this
  · intro i o hi h
    have hlt : i < ops.size := (Array.getElem?_eq_some_iff.1 hi).1
    simp [hlt] at h
end
end Go.Proofs.YtfafmpiajlgojaaDoor.Lg
