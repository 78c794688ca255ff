/- Part of a proof of the seat's statements: no statement by itself. -/
import Derived.Test.YtfafmpiajlgojaaDoorLgC2
import Derived.Scope
namespace Go.Proofs.YtfafmpiajlgojaaDoor.Lg
open Go
/-- What a region with an open order comes to (shown in LgC4). -/
def DrawSound (P : Program) (T : Tab) (E : CallE) : Prop :=
  ∀ {R : Type} {K : Fr → Option R} {r : R} {Q : Exit → Act → World → Prop} {id : Nat} {ops : Array Oper} {fr : Fr} {Pr : PM} {w : World} {a : Act} {F : Nat → List Nat},
    drawOK ops.toList = true → evDraw T E ops.toList (ops.toList.filterMap (dstO ops.toList)) (ops.toList.filterMap (·.dst)) fr ops.toList [] (fun env => K (env ++ clean fr)) = some r → JT P w F → RepF Pr w fr a.tmps F → PrOK Pr w → (∀ o ∈ ops.toList, ∀ d, o.dst = some d → d < a.tmps.size) →
    (∀ fr' Pr' w' a' F', K fr' = some r → RepF Pr' w' fr' a'.tmps F' → PrOK Pr' w' → Step F Pr w a F' Pr' w' a' (fun d => d ∈ ops.toList.filterMap (·.dst)) → Q .normal a' w') → (Code.region id ops true).wp P Q a w

section
variable {P : Program} {T : Tab} {E : CallE} {LT : Nat → Option LoopS}

theorem evC_sound (hC : Cx P T) (hE : SatE P E) (hDr : DrawSound P T E) : ∀ (c : Code), LoopsOK T E LT c → ∀ {R : Type} {K : Ex → Fr → Option R} {r : R} {fr : Fr} {Pr : PM} {w : World} {a : Act} {F : Nat → List Nat} {Q : Exit → Act → World → Prop},
    evC T E LT c fr K = some r → JT P w F → RepF Pr w fr a.tmps F → PrOK Pr w → (∀ d ∈ wr c, d < a.tmps.size) →
    (∀ e fr' Pr' w' a' F', K e fr' = some r → RepF Pr' w' fr' a'.tmps F' → PrOK Pr' w' → Step F Pr w a F' Pr' w' a' (fun d => d ∈ wr c) → Q (exOf e) a' w') → c.wp P Q a w
  | .skip, _, R, K, r, fr, Pr, w, a, F, Q, hev, hJ, hF, hP, hd, hk => wp_skip (hk .normal fr Pr w a F hev hF hP (Step.refl fun t b hb => ⟨t, hb⟩))
  | .exit id, _, R, K, r, fr, Pr, w, a, F, Q, hev, hJ, hF, hP, hd, hk => wp_exit (hk (.exit id) fr Pr w a F hev hF hP (Step.refl fun t b hb => ⟨t, hb⟩))
  | .ret, _, R, K, r, fr, Pr, w, a, F, Q, hev, hJ, hF, hP, hd, hk => wp_ret (hk .ret fr Pr w a F hev hF hP (Step.refl fun t b hb => ⟨t, hb⟩))
  | .region id ops draw, _, R, K, r, fr, Pr, w, a, F, Q, hev, hJ, hF, hP, hd, hk => by
    have hdst : ∀ o ∈ ops.toList, ∀ d, o.dst = some d → d ∈ wr (.region id ops draw) := fun o ho d h => by
      simp only [wr, List.mem_filterMap]; exact ⟨o, ho, h⟩
    cases draw
    · simp only [evC, cond_false] at hev
      refine wp_region_list (evOps_sound hC hE (D := fun d => d ∈ wr (.region id ops false)) ops.toList fr Pr w a F hev hJ hF hP (fun o ho d h => ⟨hd d (hdst o ho d h), hdst o ho d h⟩) fun fr' Pr' w' a' F' h1 h2 h3 h4 => hk .normal fr' Pr' w' a' F' h1 h2 h3 h4)
    · simp only [evC, cond_true] at hev
      replace hev := bif_some hev; obtain ⟨hok, hev⟩ := hev
      exact hDr (K := K .normal) hok hev hJ hF hP (fun o ho d h => hd d (hdst o ho d h)) fun fr' Pr' w' a' F' h1 h2 h3 h4 => hk .normal fr' Pr' w' a' F' h1 h2 h3 (h4.weaken fun t ht => by simpa [wr] using ht)
  | .seq x y, hl, R, K, r, fr, Pr, w, a, F, Q, hev, hJ, hF, hP, hd, hk => by
    simp only [evC] at hev
    simp only [LoopsOK] at hl
    refine wp_seq (evC_sound hC hE hDr x hl.1 hev hJ hF hP (fun d h => hd d (by simp [wr, h])) fun e fr' Pr' w' a' F' h1 h2 h3 h4 => ?_)
    have h4' : Step F Pr w a F' Pr' w' a' (fun d => d ∈ wr (.seq x y)) := h4.weaken fun t ht => by simp [wr, ht]
    cases e with
    | normal =>
      show y.wp P Q a' w'
      exact evC_sound hC hE hDr y hl.2 h1 (hJ.step h4) h2 h3 (fun d h => by rw [h4.size]; exact hd d (by simp [wr, h])) fun e2 fr2 Pr2 w2 a2 F2 q1 q2 q3 q4 => hk e2 fr2 Pr2 w2 a2 F2 q1 q2 q3 (h4'.trans (q4.weaken fun t ht => by simp [wr, ht]))
    | exit id => exact hk (.exit id) fr' Pr' w' a' F' h1 h2 h3 h4'
    | ret => exact hk .ret fr' Pr' w' a' F' h1 h2 h3 h4'
  | .cond c x y, hl, R, K, r, fr, Pr, w, a, F, Q, hev, hJ, hF, hP, hd, hk => by
    simp only [evC] at hev
    simp only [LoopsOK] at hl
    split at hev
    · rename_i t hc
      have hb := rdO_sound hF hc
      simp only [RepA, RepD] at hb
      refine wp_cond hb ?_
      rcases br_some hev with ⟨ht, h⟩ | ⟨ht, h⟩
      · rw [ht]
        exact evC_sound hC hE hDr x hl.1 h hJ hF hP (fun d h => hd d (by simp [wr, h])) fun e fr' Pr' w' a' F' h1 h2 h3 h4 => hk e fr' Pr' w' a' F' h1 h2 h3 (h4.weaken fun t ht => by simp [wr, ht])
      · rw [ht]
        exact evC_sound hC hE hDr y hl.2 h hJ hF hP (fun d h => hd d (by simp [wr, h])) fun e fr' Pr' w' a' F' h1 h2 h3 h4 => hk e fr' Pr' w' a' F' h1 h2 h3 (h4.weaken fun t ht => by simp [wr, ht])
    · cases hev
  | .block id c, hl, R, K, r, fr, Pr, w, a, F, Q, hev, hJ, hF, hP, hd, hk => by
    simp only [evC] at hev
    simp only [LoopsOK] at hl
    refine wp_block (evC_sound hC hE hDr c hl hev hJ hF hP hd fun e fr' Pr' w' a' F' h1 h2 h3 h4 => ?_)
    cases e with
    | normal => exact hk .normal fr' Pr' w' a' F' h1 h2 h3 h4
    | ret => exact hk .ret fr' Pr' w' a' F' h1 h2 h3 h4
    | exit j =>
      simp only [exOf, Exit.inBlock]
      by_cases e : j = id
      · rw [if_pos e]
        simp only [e, Nat.beq_refl, cond_true] at h1
        exact hk .normal fr' Pr' w' a' F' h1 h2 h3 h4
      · rw [if_neg e]
        simp only [beq_false e, cond_false] at h1
        exact hk (.exit j) fr' Pr' w' a' F' h1 h2 h3 h4
  | .loop c, hl, R, K, r, fr, Pr, w, a, F, Q, hev, hJ, hF, hP, hd, hk => by
    simp only [evC] at hev
    simp only [LoopsOK] at hl
    split at hev
    · rename_i ls hls
      split at hev
      · obtain ⟨x, hout, hK⟩ := Tr.run_some hev
        obtain ⟨n, hn⟩ := hl.2 ls hls _ x hout
        refine wp_loop_rounds n ?_
        -- the rounds
        have rounds : ∀ (n : Nat) (vs : List SV) (Pr1 : PM) (w1 : World) (a1 : Act) (F1 : Nat → List Nat), iter T E LT c ls n vs = some x → RepF Pr1 w1 (binds ls.live vs) a1.tmps F1 → PrOK Pr1 w1 →
            Step (fun t => if t ∈ ls.live then F t else []) Pr w a F1 Pr1 w1 a1 (fun d => d ∈ wr c) → Code.rounds P c Q n a1 w1 := by
          intro n
          induction n with
          | zero => intro vs Pr1 w1 a1 F1 h; simp [iter] at h
          | succ n ih =>
            intro vs Pr1 w1 a1 F1 hit hF1 hP1 hst
            rw [rounds_succ]
            simp only [iter] at hit
            cases hr : evRound T E LT c ls vs with
            | none => simp [hr] at hit
            | some rnd =>
              rw [hr] at hit
              unfold evRound at hr
              refine evC_sound hC hE hDr c hl.1 hr (JT.step (hJ.sub (F' := fun t => if t ∈ ls.live then F t else []) (fun t b hb => ⟨t, by by_cases q : t ∈ ls.live <;> simp [q] at hb; exact hb⟩)) hst) hF1 hP1 (fun d h => by rw [hst.size]; exact hd d (by simpa [wr] using h)) fun e fr' Pr' w' a' F' h1 h2 h3 h4 => ?_
              have hst' := hst.trans h4
              have out : ∀ (e : Ex), some (Rnd.out e (looks fr' (ls.oe e))) = some rnd → Q (exOf e) a' w' := by
                intro e h1
                simp at h1
                rw [← h1] at hit
                simp at hit
                -- the frame behind the loop
                have hkeep : ∀ t, t ∉ ls.live → Keeps (F t) Pr w Pr' w' := fun t ht => hst'.ext.keeps fun b hb => ⟨hF.lt t b hb, fun ⟨t', hb'⟩ => by
                  by_cases q : t' ∈ ls.live
                  · rw [if_pos q] at hb'
                    exact hF.apart t t' (fun e => ht (e ▸ q)) b hb hb'
                  · rw [if_neg q] at hb'; simp at hb'⟩
                have g1 := RepF_unks ls.live a.tmps a.tmps F hF rfl (fun _ _ => rfl)
                have g2 : RepF Pr' w' (unks ls.live fr) a.tmps (fun t => if t ∈ ls.live then [] else F t) := g1.mono hst'.ext.le fun t => by
                  by_cases q : t ∈ ls.live
                  · simp only [if_pos q]; intro b hb; simp at hb
                  · simp only [if_neg q]; exact hkeep t q
                have g3 := RepF_unks (wr c) a.tmps a'.tmps _ g2 hst'.size (fun t ht => hst'.same t ht)
                obtain ⟨F3, g4, g5⟩ := RepF_binds (G := fun t => if t ∈ (ls.oe e) then F' t else []) (fun t => by
                  by_cases q : t ∈ (ls.oe e)
                  · simp only [if_pos q]; exact h2.nodup t
                  · simp only [if_neg q]; exact List.nodup_nil) (fun t t' hne b hb q => by
                    by_cases q1 : t ∈ (ls.oe e)
                    · simp only [if_pos q1] at hb
                      by_cases q2 : t' ∈ (ls.oe e)
                      · simp only [if_pos q2] at q; exact h2.apart t t' hne b hb q
                      · simp only [if_neg q2] at q; simp at q
                    · simp only [if_neg q1] at hb; simp at hb) (ls.oe e) (looks fr' (ls.oe e)) _ g3 (fun y hy => by
                      have e1 := binds_looks_mem fr' (ls.oe e) y hy
                      have e2 : y.1 ∈ (ls.oe e) := by
                        have : ∀ (l : List Nat) y, y ∈ binds l (looks fr' l) → y.1 ∈ l := by
                          intro l
                          induction l with
                          | nil => intro y h; simp [binds] at h
                          | cons s l ih =>
                            intro y h
                            simp only [looks, binds, List.mem_cons] at h
                            rcases h with rfl | h
                            · exact List.mem_cons_self
                            · exact List.mem_cons_of_mem _ (ih y h)
                        exact this _ y hy
                      rw [e1]
                      refine ⟨?_, lookL_noal _ _⟩
                      simp only [if_pos e2]
                      exact lookL_rep h2 y.1) (fun t t' b hb q => by
                    by_cases q1 : t ∈ (ls.oe e)
                    · simp only [if_pos q1] at hb
                      by_cases q2 : t' ∈ wr c
                      · simp only [if_pos q2] at q; simp at q
                      · simp only [if_neg q2] at q
                        by_cases q3 : t' ∈ ls.live
                        · simp only [if_pos q3] at q; simp at q
                        · simp only [if_neg q3] at q
                          rcases hst'.sub t b hb with ⟨t2, h⟩ | h
                          · by_cases q4 : t2 ∈ ls.live
                            · simp only [if_pos q4] at h
                              exact hF.apart t2 t' (fun e => q3 (e ▸ q4)) b h q
                            · simp only [if_neg q4] at h; simp at h
                          · have := hF.lt t' b q; omega
                    · simp only [if_neg q1] at hb; simp at hb)
                have hK' : K e (binds (ls.oe e) (looks fr' (ls.oe e)) ++ unks (wr c) (unks ls.live fr)) = some r := by
                  rw [← hit] at hK; exact hK
                refine hk e _ Pr' w' a' F3 hK' g4 h3 ⟨hst'.ext.weaken fun b ⟨t, hb⟩ => ?_, fun t b hb => ?_, hst'.defers, hst'.size, fun t ht => hst'.same t (by simpa [wr] using ht)⟩
                · by_cases q : t ∈ ls.live
                  · rw [if_pos q] at hb; exact ⟨t, hb⟩
                  · rw [if_neg q] at hb; simp at hb
                · rcases g5 t b hb with q | q
                  · by_cases q2 : t ∈ wr c
                    · simp only [if_pos q2] at q; simp at q
                    · simp only [if_neg q2] at q
                      by_cases q3 : t ∈ ls.live
                      · simp only [if_pos q3] at q; simp at q
                      · simp only [if_neg q3] at q; exact .inl ⟨t, q⟩
                  · by_cases q1 : t ∈ (ls.oe e)
                    · simp only [if_pos q1] at q
                      refine (hst'.sub t b q).imp (fun ⟨t2, h⟩ => ?_) id
                      by_cases q4 : t2 ∈ ls.live
                      · simp only [if_pos q4] at h; exact ⟨t2, h⟩
                      · simp only [if_neg q4] at h; simp at h
                    · simp only [if_neg q1] at q; simp at q
              cases e with
              | normal =>
                simp at h1
                rw [← h1] at hit
                exact ih _ Pr' w' a' _ hit (RepF_looks h2 ls.live) h3 ⟨hst'.ext, fun t b hb => by
                  by_cases q : t ∈ ls.live
                  · rw [if_pos q] at hb; exact hst'.sub t b hb
                  · rw [if_neg q] at hb; simp at hb, hst'.defers, hst'.size, hst'.same⟩
              | exit id => exact out (.exit id) h1
              | ret => exact out .ret h1
        exact rounds n _ Pr w a _ hn (RepF_looks hF ls.live) hP (Step.refl fun t b hb => ⟨t, hb⟩)
      · rename_i n0 _
        refine wp_loop_rounds (n0 + 1) ?_
        have rounds : ∀ (n : Nat) (fr1 : Fr) (Pr1 : PM) (w1 : World) (a1 : Act) (F1 : Nat → List Nat), unroll (fun fr K => evC T E LT c fr K) n fr1 K = some r → RepF Pr1 w1 fr1 a1.tmps F1 → PrOK Pr1 w1 →
            Step F Pr w a F1 Pr1 w1 a1 (fun d => d ∈ wr c) → Code.rounds P c Q n a1 w1 := by
          intro n
          induction n with
          | zero => intro fr1 Pr1 w1 a1 F1 h; simp [unroll] at h
          | succ n ih =>
            intro fr1 Pr1 w1 a1 F1 h hF1 hP1 hst
            rw [rounds_succ]
            simp only [unroll] at h
            refine evC_sound hC hE hDr c hl.1 h (hJ.step hst) hF1 hP1 (fun d h => by rw [hst.size]; exact hd d (by simpa [wr] using h)) fun e fr' Pr' w' a' F' h1 h2 h3 h4 => ?_
            have hst' := hst.trans h4
            cases e with
            | normal => exact ih fr' Pr' w' a' F' h1 h2 h3 hst'
            | exit id => exact hk (.exit id) fr' Pr' w' a' F' h1 h2 h3 (hst'.weaken fun t ht => by simpa [wr] using ht)
            | ret => exact hk .ret fr' Pr' w' a' F' h1 h2 h3 (hst'.weaken fun t ht => by simpa [wr] using ht)
        exact rounds (n0 + 1) fr Pr w a F hev hF hP (Step.refl fun t b hb => ⟨t, hb⟩)
    · cases hev
  | .rangeFunc .., _, R, K, r, fr, Pr, w, a, F, Q, hev, hJ, hF, hP, hd, hk => by simp [evC] at hev
  | .scope c, hl, R, K, r, fr, Pr, w, a, F, Q, hev, hJ, hF, hP, hd, hk => by
    simp only [evC] at hev
    simp only [LoopsOK] at hl
    refine wp_scope_straight (evC_sound hC hE hDr c hl hev hJ hF hP hd fun e fr' Pr' w' a' F' h1 h2 h3 h4 => ?_)
    have := hk e fr' Pr' w' a' F' h1 h2 h3 h4
    cases e <;> exact this
  | .label l, _, R, K, r, fr, Pr, w, a, F, Q, hev, hJ, hF, hP, hd, hk => by
    simp only [evC] at hev
    exact wp_label (hk .normal fr Pr w a F hev hF hP (Step.refl fun t b hb => ⟨t, hb⟩))
  | .goto .., _, R, K, r, fr, Pr, w, a, F, Q, hev, hJ, hF, hP, hd, hk => by simp [evC] at hev
  | .refuse .., _, R, K, r, fr, Pr, w, a, F, Q, hev, hJ, hF, hP, hd, hk => by simp [evC] at hev
end
end Go.Proofs.YtfafmpiajlgojaaDoor.Lg
