/- An operation of an open region may be taken first, if what it looks at is written only by operations that wait for it. -/
import Derived.Test.YtgcjhcefpkbheaaLgA
import Derived.OrdersHeld
import Derived.Test.YtgcjhcefpkbheaaLgC1
section
namespace Go.Proofs.Ytgcjhcefpkbheaa.Lg
open Go
section
variable {P : Program} {ops : Array Oper} {Q : Exit → Act → World → Prop} {md : Region.Mode} {S : World → Prop} {G : Nat → Bool}

/-- Whatever comes up; behind each operation of G what S says holds. -/
def wpG (P : Program) (md : Region.Mode) (ops : Array Oper) (Q : Exit → Act → World → Prop) (S : World → Prop) (G : Nat → Bool) : Nat → Array Bool → Act → World → Prop
  | 0, listed, a, w => Region.ready md ops listed = [] ∧ Q .normal a w
  | fuel + 1, listed, a, w =>
    (Region.ready md ops listed = [] → Q .normal a w) ∧
    ∀ i ∈ Region.ready md ops listed, wpOp P ops Q i (fun a' w' => (G i = true → S w → S w') ∧ wpG P md ops Q S G fuel (listed.setIfInBounds i true) a' w') a w
theorem wpAny_of_G : ∀ (fuel : Nat) (listed : Array Bool) (a : Act) (w : World), wpG P md ops Q S G fuel listed a w → wpAny P md ops Q fuel listed a w
  | 0, _, _, _, h => h
  | fuel + 1, _, _, _, h => ⟨h.1, fun i hi => wpOp_mono (fun a' w' h' => wpAny_of_G fuel _ a' w' h'.2) (h.2 i hi)⟩

/-- What came up had what it waits for behind it. -/
def Shut (md : Region.Mode) (ops : Array Oper) (listed : Array Bool) : Prop :=
  ∀ k o, ops[k]? = some o → listed.getD k false = true → ∀ e ∈ o.after, Region.binds md e = true → listed.getD e.on false = true
def Aft (md : Region.Mode) (ops : Array Oper) (i j : Nat) : Prop :=
  ∀ listed, Shut md ops listed → (∃ o, ops[j]? = some o ∧ ∀ e ∈ o.after, Region.binds md e = true → listed.getD e.on false = true) → listed.getD i false = true
theorem aftF_spec {i : Nat} : ∀ (l S : List Nat), (∀ j ∈ S, j = i ∨ ((∃ o, ops[j]? = some o) ∧ Aft md ops i j)) → ∀ j ∈ aftF md ops l S, j = i ∨ ((∃ o, ops[j]? = some o) ∧ Aft md ops i j)
  | [], S, h => h
  | x :: l, S, h => by
    simp only [aftF]
    refine aftF_spec l _ ?_
    split
    · rename_i o ho
      cases hc : o.after.any fun e => Region.binds md e && S.any fun k => Nat.beq e.on k
      · simpa using h
      · simp only [cond_true]
        intro j hj
        rcases List.mem_cons.1 hj with rfl | hj
        · refine .inr ⟨⟨o, ho⟩, ?_⟩
          intro listed hs ⟨o', ho', hd⟩
          rw [ho] at ho'; cases ho'
          rw [Array.any_eq_true'] at hc
          obtain ⟨e, he, hc⟩ := hc
          rw [Bool.and_eq_true, List.any_eq_true] at hc
          obtain ⟨hb, k, hk, hek⟩ := hc
          have hek := Nat.eq_of_beq_eq_true hek
          have hl := hd e he hb
          rw [hek] at hl
          rcases h k hk with rfl | ⟨⟨ok, hko⟩, q⟩
          · exact hl
          · exact q listed hs ⟨ok, hko, hs k ok hko hl⟩
        · exact h j hj
    · exact h
theorem Shut.step {listed : Array Bool} (hs : Shut md ops listed) {i : Nat} (h : i ∈ Region.ready md ops listed) : Shut md ops (listed.setIfInBounds i true) := by
  intro k o hk hl e he hb
  refine getD_set_true ?_
  by_cases q : i = k
  · subst q
    obtain ⟨_, o', ho', hd⟩ := mem_ready.1 h
    rw [hk] at ho'
    cases ho'
    exact hd e he hb
  · rw [getD_set_ne false q] at hl
    exact hs k o hk hl e he hb
theorem Shut.init : Shut md ops (Array.replicate ops.size false) := by
  intro k o hk hl
  simp [Array.getD_eq_getD_getElem?, Array.getElem?_replicate] at hl
  split at hl <;> simp at hl

theorem wpG_first {i : Nat} {oi : Oper} {v : Value} (hi : ops[i]? = some oi) (hsel : ∀ (j : Nat) (o : Oper) cs b, ops[j]? = some o → o.op ≠ .select cs b)
    (hQ : ∀ c a w, Q (.panic c) (a.put oi.dst v) w → Q (.panic c) a w) {S' : World → Prop} (hSS : ∀ w, S w → S' w) (hG : (∀ w, S' w) ∨ ∀ j, j < ops.size → G j = true ∨ j = i ∨ Aft md ops i j) :
    ∀ (fuel : Nat) (listed : Array Bool) (a : Act) (w : World), Shut md ops listed →
      (∀ j oj, ops[j]? = some oj → j ≠ i → listed.getD j true = false → (∀ e ∈ oj.after, Region.binds md e = true → e.on ≠ i) → oi.apart ops oj = true) →
      i ∈ Region.ready md ops listed → YieldsIf P ops S' oi v a → ((∀ w, S' w) ∨ S w) →
      wpG P md ops Q S G fuel (listed.setIfInBounds i true) (a.put oi.dst v) w → wpG P md ops Q S G (fuel + 1) listed a w := by
  intro fuel
  induction fuel with
  | zero =>
    intro listed a w _ _ hr hy hS H
    refine ⟨fun h => (by rw [h] at hr; cases hr), fun j hj => ?_⟩
    by_cases hji : j = i
    · subst hji; exact hy.wpOp hi (hS.elim (fun h => h w) (hSS w)) ⟨fun _ h => h, H⟩
    · have := ready_mono hj hji
      rw [H.1] at this
      cases this
  | succ fuel ih =>
    intro listed a w hsh hfree hr hy hS H
    refine ⟨fun h => (by rw [h] at hr; cases hr), fun j hj => ?_⟩
    by_cases hji : j = i
    · subst hji; exact hy.wpOp hi (hS.elim (fun h => h w) (hSS w)) ⟨fun _ h => h, H⟩
    · have h1 := H.2 j (ready_mono hj hji)
      obtain ⟨hjun, oj, hoj, hall⟩ := mem_ready.1 hj
      have hnot : ∀ e ∈ oj.after, Region.binds md e = true → e.on ≠ i := fun e he hb heq => by
        have h1 := hall e he hb
        have h0 := (mem_ready.1 hr).1
        rw [heq] at h1
        rcases Nat.lt_or_ge i listed.size with h' | h'
        · simp [h'] at h0 h1; rw [h0] at h1; cases h1
        · simp [Array.getElem?_eq_none h'] at h1
      have hGj : (∀ w, S' w) ∨ G j = true := by
        refine hG.imp id fun hG => ?_
        rcases hG j (Array.getElem?_eq_some_iff.1 hoj).1 with h | h | h
        · exact h
        · exact absurd h hji
        · have := h listed hsh ⟨oj, hoj, hall⟩
          have h0 := (mem_ready.1 hr).1
          rw [Array.getD_eq_getD_getElem?] at h0 this
          cases hk : listed[i]? with
          | none => simp [hk] at this
          | some x => simp [hk] at this h0; rw [this] at h0; cases h0
      have h2 := wpOp_putIf hoj (hfree j oj hoj hji hjun hnot) (fun cs b => hsel i oi cs b hi) (fun cs b => hsel j oj cs b hoj) hQ hy h1
      have hfree' : ∀ k ok, ops[k]? = some ok → k ≠ i → (listed.setIfInBounds j true).getD k true = false →
          (∀ e ∈ ok.after, Region.binds md e = true → e.on ≠ i) → oi.apart ops ok = true := fun k ok hk hki hun hno => by
        refine hfree k ok hk hki ?_ hno
        by_cases hjk : j = k
        · subst hjk; exact hjun
        · rw [getD_set_ne true hjk] at hun; exact hun
      refine wpOp_mono (fun a' w' h3 => ⟨h3.2.1, ih (listed.setIfInBounds j true) a' w' (hsh.step hj) hfree' (ready_mono hr (Ne.symm hji)) h3.1 (hGj.elim .inl fun hg => hS.imp id fun h => h3.2.1 hg h) ?_⟩) h2
      rw [Array.setIfInBounds_comm _ _ hji]
      exact h3.2.2

theorem wpG_take {i : Nat} {oi : Oper} {v : Value} {fuel : Nat} {listed : Array Bool} {a : Act} {w : World} {S' : World → Prop} (hSS : ∀ w, S w → S' w) (hi : ops[i]? = some oi)
    (hs : Region.noSelect ops = true) (hf : Region.free md ops listed i = true) (hr : (Region.ready md ops listed).contains i = true) (hsh : Shut md ops listed)
    (hG : (∀ w, S' w) ∨ ∀ j, j < ops.size → G j = true ∨ j = i ∨ Aft md ops i j)
    (hQ : ∀ c a w, Q (.panic c) (a.put oi.dst v) w → Q (.panic c) a w) (hy : YieldsIf P ops S' oi v a) (hS : (∀ w, S' w) ∨ S w)
    (h : wpG P md ops Q S G fuel (listed.setIfInBounds i true) (a.put oi.dst v) w) : wpG P md ops Q S G (fuel + 1) listed a w :=
  wpG_first hi (Region.noSelect_spec hs) hQ hSS hG fuel listed a w hsh (Region.free_spec hi hf) (by simpa using hr) hy hS h
theorem wpG_all {rs : List Nat} {fuel : Nat} {listed : Array Bool} {a : Act} {w : World} (hr : Region.ready md ops listed = rs) (hne : rs ≠ [])
    (h : ∀ i ∈ rs, wpOp P ops Q i (fun a' w' => (G i = true → S w → S w') ∧ wpG P md ops Q S G fuel (listed.setIfInBounds i true) a' w') a w) : wpG P md ops Q S G (fuel + 1) listed a w :=
  ⟨fun h0 => absurd (hr ▸ h0) hne, hr ▸ h⟩
theorem wpG_done {listed : Array Bool} {a : Act} {w : World} (hr : Region.ready md ops listed = []) (h : Q .normal a w) : ∀ fuel, wpG P md ops Q S G fuel listed a w
  | 0 => ⟨hr, h⟩
  | _ + 1 => ⟨fun _ => h, by rw [hr]; simp⟩
theorem wp_region_G {id : Nat} {a : Act} {w : World} (hm : P.follows .mixedOrders = true)
    (h : wpG P .any ops Q S G ops.size (Array.replicate ops.size false) a { w with drawn := w.drawn + 1 }) : (Code.region id ops true).wp P Q a w :=
  wp_region_any hm (wpAny_of_G _ _ _ _ h)
end
end Go.Proofs.Ytgcjhcefpkbheaa.Lg
end

section
namespace Go.Proofs.Ytgcjhcefpkbheaa.Lg
open Go
variable {Lz : PM}

/-- An operation that yields one value in every world that meets S. -/
def Tk (P : Program) (o : Oper) (a : Act) (w : World) (S : World → Prop) (next : Act → World → Prop) : Prop :=
  ∃ v, (∀ w', S w' → (execOp a.eval o).run P w' = .ok (.value v) w') ∧ next (a.put o.dst v) w
/-- What must be shown behind an operation that turns no memory. -/
def NxT {R : Type} (Lz : PM) (K : Fr → Option R) (r : R) (dst : Option Tmp) (Pr : PM) (w : World) (a : Act) (F : Nat → List Nat) (next : Act → World → Prop) : Prop :=
  ∀ v fr' F', K fr' = some r → RepF Lz Pr w fr' (a.put dst v).tmps F' → (∀ t b, b ∈ F' t → (∃ t', b ∈ F t') ∨ w.heap.size ≤ b) → (∀ t, dst ≠ some t → (F' t).head? = (F t).head?) → next (a.put dst v) w
section
variable {R : Type} {P : Program} {T : Tab} {E : CallS} {o : Oper} {fr : Fr} {K : Fr → Option R} {r : R} {Pr : PM} {w : World} {a : Act} {F : Nat → List Nat}
  {next : Act → World → Prop}
theorem finT2 {F0 : Nat → List Nat} {sv : SV} {v : Value} {B : List Nat} (hd : ∀ d, o.dst = some d → d < a.tmps.size) (hn : NxT Lz K r o.dst Pr w a F0 next)
    (h1 : RepF Lz Pr w fr a.tmps F) (hP1 : PrOK Pr w) (hF1 : ∀ t b, b ∈ F t → (∃ t', b ∈ F0 t') ∨ w.heap.size ≤ b) (hhd : ∀ t, (F t).head? = (F0 t).head?)
    (hr : RepS Lz Pr w sv v B) (hnd : B.Nodup) (hap : ∀ t, ∀ b ∈ B, b ∉ F t) (hB : ∀ b ∈ B, (∃ t', b ∈ F0 t') ∨ w.heap.size ≤ b) (hu : sv.isUpd = false)
    (h0 : ∀ d', sv = .al d' none → v = a.tmps.getD d' undef)
    (hal : ∀ d' o', sv = .al d' (some o') → ∃ b c T, a.tmps.getD d' undef = .pointer (some ⟨b, 0, none⟩) ∧ b ∈ F d' ∧ w.heap[b]? = some (.cells c T (0, 0)) ∧ c[o']? = some v)
    (hrf : ∀ d' o', sv = .ref d' o' → ∃ b, a.tmps.getD d' undef = .pointer (some ⟨b, 0, none⟩) ∧ v = .pointer (some ⟨b, o', none⟩))
    (hK : K (dset o.dst sv fr) = some r) (how : ∀ d' k, sv = .ow d' k → OWv k (a.tmps.getD d' undef) v := by simp) : next (a.put o.dst v) w := by
  cases hdst : o.dst with
  | none =>
    rw [hdst] at hn hK
    exact hn v fr F hK (by simpa [Act.put] using h1) hF1 (fun t _ => hhd t)
  | some d =>
    rw [hdst] at hn hK
    have hlt := hd d hdst
    have ht : (a.put (some d) v).tmps = a.tmps.setIfInBounds d v := rfl
    refine hn v _ (fun t => if some d = some t then B else F t) hK (?_ : RepF Lz Pr w ((d, sv) :: fr) _ (fun t => if some d = some t then B else F t)) (fun t b hb => by
      by_cases q : some d = some t
      · simp only [if_pos q] at hb; exact hB b hb
      · simp only [if_neg q] at hb; exact hF1 t b hb) (fun t q => by simp only [if_neg q]; exact hhd t)
    have e : (fun t => if some d = some t then B else F t) = (fun t => if t = d then B else F t) := by
      funext t
      by_cases q : t = d
      · subst q; simp
      · rw [if_neg q, if_neg (fun z => q (by cases z; rfl))]
    rw [e, ht]
    refine h1.bind (fun t hne => by rw [getD_set _ _ _ _ hlt, if_neg hne]) (by rw [getD_set _ _ _ _ hlt, if_pos rfl]; exact hr) hnd (fun t _ b hb => hap t b hb) (fun q => by rw [hu] at q; cases q) ?_ ?_ ?_ (fun d' k hs _ => by rw [getD_set _ _ _ _ hlt, if_pos rfl]; exact how d' k hs)
    · intro d' hs hne; rw [getD_set _ _ _ _ hlt, if_pos rfl]; exact h0 d' hs
    · intro d' o' hs hne; rw [getD_set _ _ _ _ hlt, if_pos rfl]; exact hal d' o' hs
    · intro d' o' hs hne
      obtain ⟨b, q1, q2⟩ := hrf d' o' hs
      exact ⟨b, q1, by rw [getD_set _ _ _ _ hlt, if_pos rfl]; exact q2⟩
theorem finT {sv : SV} {v : Value} {B : List Nat} (hd : ∀ d, o.dst = some d → d < a.tmps.size) (hn : NxT Lz K r o.dst Pr w a F next)
    (h1 : RepF Lz Pr w fr a.tmps F) (hP1 : PrOK Pr w) (hx : Ext (fun b => ∃ t, b ∈ F t) Pr w Pr w) (hF1 : ∀ t b, b ∈ F t → (∃ t', b ∈ F t') ∨ w.heap.size ≤ b)
    (hr : RepS Lz Pr w sv v B) (hnd : B.Nodup) (hap : ∀ t, ∀ b ∈ B, b ∉ F t) (hB : ∀ b ∈ B, (∃ t', b ∈ F t') ∨ w.heap.size ≤ b) (hu : sv.isUpd = false)
    (h0 : ∀ d', sv = .al d' none → v = a.tmps.getD d' undef)
    (hal : ∀ d' o', sv = .al d' (some o') → ∃ b c T, a.tmps.getD d' undef = .pointer (some ⟨b, 0, none⟩) ∧ b ∈ F d' ∧ w.heap[b]? = some (.cells c T (0, 0)) ∧ c[o']? = some v)
    (hrf : ∀ d' o', sv = .ref d' o' → ∃ b, a.tmps.getD d' undef = .pointer (some ⟨b, 0, none⟩) ∧ v = .pointer (some ⟨b, o', none⟩))
    (hK : K (dset o.dst sv fr) = some r) (how : ∀ d' k, sv = .ow d' k → OWv k (a.tmps.getD d' undef) v := by simp) : next (a.put o.dst v) w :=
  finT2 hd hn h1 hP1 hF1 (fun _ => rfl) hr hnd hap hB hu h0 hal hrf hK how
theorem finVT {x : AV} {v : Value} (hF : RepF Lz Pr w fr a.tmps F) (hP : PrOK Pr w) (hd : ∀ d, o.dst = some d → d < a.tmps.size) (hn : NxT Lz K r o.dst Pr w a F next)
    (hr : RepA Pr x v) (hK : K (dset o.dst (.val x) fr) = some r) : next (a.put o.dst v) w :=
  finT hd hn hF hP (Ext.refl _ _ _) sub_self (B := []) (by simp only [RepS]; exact ⟨hr, trivial⟩) List.nodup_nil (by simp) (by simp) rfl (by simp) (by simp) (by simp) hK
theorem finUT {v : Value} (hF : RepF Lz Pr w fr a.tmps F) (hP : PrOK Pr w) (hd : ∀ d, o.dst = some d → d < a.tmps.size) (hn : NxT Lz K r o.dst Pr w a F next)
    (hK : K (dset o.dst .unk fr) = some r) : next (a.put o.dst v) w :=
  finT hd hn hF hP (Ext.refl _ _ _) sub_self (B := []) (by simp [RepS]) List.nodup_nil (by simp) (by simp) rfl (by simp) (by simp) (by simp) hK
theorem finRefT {d off : Nat} {b : Nat} (hF : RepF Lz Pr w fr a.tmps F) (hP : PrOK Pr w) (hd : DOK o a) (hn : NxT Lz K r o.dst Pr w a F next)
    (hv0 : a.tmps.getD d undef = .pointer (some ⟨b, 0, none⟩)) (hK : K (dset o.dst (.ref d off) fr) = some r) : next (a.put o.dst (.pointer (some ⟨b, off, none⟩))) w :=
  finT hd hn hF hP (Ext.refl _ _ _) sub_self (B := []) (by simp [RepS]) List.nodup_nil (by simp) (by simp) rfl (by simp) (by simp) (by intro d' o' h; cases h; exact ⟨b, hv0, rfl⟩) hK
theorem finAtT {cs : List D} {v : Value} (hF : RepF Lz Pr w fr a.tmps F) (hP : PrOK Pr w) (hd : DOK o a) (hn : NxT Lz K r o.dst Pr w a F next)
    (hr : ∃ b o, v = .pointer (some ⟨b, o, none⟩) ∧ ∀ j x, cs[j]? = some x → ∃ u, Pr b (o + j) = some u ∧ RepD Pr x u) (hK : K (dset o.dst (.at cs) fr) = some r) : next (a.put o.dst v) w :=
  finT hd hn hF hP (Ext.refl _ _ _) sub_self (B := []) (by simp only [RepS]; exact ⟨hr, trivial⟩) List.nodup_nil (by simp) (by simp) rfl (by simp) (by simp) (by simp) hK
end
theorem part_all {P : Program} {Pr : PM} {t : Nat} {j : TI} (tf : TyF P t j) {off : Nat} {cs : List D} {vs : Array Value} {v : AV} (h : Lg.part j.agg off j.sh.length cs = some v) (hr : RepDs Pr cs vs.toList) :
    ∃ u, (∀ w, (Go.part t vs off).run P w = .ok u w) ∧ RepA Pr v u := by
  unfold Lg.part at h
  have hl := RepDs.length _ _ hr
  cases ha : j.agg
  · rw [ha, cond_false] at h
    split at h
    · rename_i x rest hx
      simp at h; subst h
      have h1 : cs[off]? = some x := by have := congrArg (·[0]?) hx; simpa using this
      have hlt : off < vs.size := by have := (List.getElem?_eq_some_iff.1 h1).1; simp at hl; omega
      refine ⟨vs[off], fun _ => run_part_one tf ha (by simp [hlt]), ?_⟩
      simp only [RepA]
      exact RepDs.get cs vs.toList hr off x _ h1 (by simp [hlt])
    · cases h
  · rw [ha, cond_true] at h
    cases hb : Nat.ble (off + j.sh.length) cs.length
    · rw [hb] at h; simp at h
    · rw [hb, cond_true] at h
      simp at h; subst h
      refine ⟨_, fun _ => run_part_agg tf ha vs off, ?_⟩
      simp only [RepA]
      refine ⟨_, rfl, ?_⟩
      have := (hr.drop off).take j.sh.length
      rw [Array.toList_extract, List.extract_eq_take_drop, Nat.add_sub_cancel_left]
      exact this
theorem tk_value {P : Program} {o : Oper} {a : Act} {w : World} {S : World → Prop} {next : Act → World → Prop} {v : Value}
    (h : ∀ w', S w' → (execOp a.eval o).run P w' = .ok (.value v) w') (hn : next (a.put o.dst v) w) : Tk P o a w S next := ⟨v, h, hn⟩
section
variable {R : Type} {P : Program} {T : Tab} {E : CallS} {o : Oper} {fr : Fr} {K : Fr → Option R} {r : R} {Pr : PM} {w : World} {a : Act} {F : Nat → List Nat}
  {next : Act → World → Prop} {S : World → Prop}
theorem tk_move {x : Operand} (hC : Cx P T) (ho : o.op = .move x) (hev : evOp0 T E o fr K = some r) (hF : RepF Lz Pr w fr a.tmps F) (hP : PrOK Pr w) (hd : DOK o a) (hn : NxT Lz K r o.dst Pr w a F next) : Tk P o a w S next := by
  refine tk_value (v := a.eval x) (fun _ _ => by simp [execOp, ho]) ?_
  simp only [evOp0, ho] at hev
  split at hev
  · rename_i s
    show next (a.put o.dst (a.tmps.getD s undef)) w
    split at hev
    · rename_i pre v rest hf
      have hr := hF.rep s
      rw [find_look s fr [] _ _ _ hf] at hr
      exact finVT hF hP hd hn (hr.av rfl) hev
    · rename_i pre es l rest hf
      exact finT hd hn hF hP (Ext.refl _ _ _) sub_self (B := []) (by simp [RepS]) List.nodup_nil (by simp) (by simp) rfl (by intro d' h; cases h; rfl) (by simp) (by simp) hev
    · rename_i pre nw cs rest hf
      have hr := hF.rep s
      rw [find_look s fr [] _ _ _ hf] at hr
      simp only [RepS] at hr
      obtain ⟨b, c, T', Bs, hv, _⟩ := hr
      rw [hv]
      exact finRefT hF hP hd hn hv hev
    · rename_i pre d off rest hf
      cases hb : remade d pre
      · rw [hb, cond_false] at hev
        obtain ⟨b, hv0, hv⟩ := hF.ref s pre d off rest hf hb
        rw [hv]
        exact finRefT hF hP hd hn hv0 hev
      · rw [hb, cond_true] at hev
        exact finUT hF hP hd hn hev
    · rename_i pre d off rest hf
      cases hb : bound d pre
      · rw [hb, cond_false] at hev
        refine finT hd hn hF hP (Ext.refl _ _ _) sub_self (B := []) (by simp [RepS]) List.nodup_nil (by simp) (by simp) rfl ?_ ?_ (by simp) hev
        · intro d' h; cases h; exact hF.alias0 s pre d rest hf hb
        · intro d' o' h; cases h; exact hF.alias1 s pre d o' rest hf hb
      · rw [hb, cond_true] at hev
        exact finUT hF hP hd hn hev
    · rename_i pre cs rest hf
      have hr := hF.rep s
      rw [find_look s fr [] _ _ _ hf] at hr
      have hr' : RepS Lz Pr w (.at cs) (a.tmps.getD s undef) [] := by simp only [RepS] at hr ⊢; exact ⟨hr.1, trivial⟩
      exact finT hd hn hF hP (Ext.refl _ _ _) sub_self (B := []) hr' List.nodup_nil (by simp) (by simp) rfl (by simp) (by simp) (by simp) hev
    · rename_i pre cs rest hf
      have hr := hF.rep s
      rw [find_look s fr [] _ _ _ hf] at hr
      exact finVT hF hP hd hn (hr.av rfl) hev
    · rename_i pre es l rest hf
      exact finT hd hn hF hP (Ext.refl _ _ _) sub_self (B := []) (by simp [RepS]) List.nodup_nil (by simp) (by simp) rfl (by intro d' h; cases h; rfl) (by simp) (by simp) hev
    · exact finT hd hn hF hP (Ext.refl _ _ _) sub_self (B := []) (by simp [RepS]) List.nodup_nil (by simp) (by simp) rfl (by intro d' h; cases h; rfl) (by simp) (by simp) hev
    · exact finT hd hn hF hP (Ext.refl _ _ _) sub_self (B := []) (by simp [RepS]) List.nodup_nil (by simp) (by simp) rfl (by intro d' h; cases h; rfl) (by simp) (by simp) hev
    · rename_i pre d k rest hf
      cases hb : bound d pre
      · rw [hb, cond_false] at hev
        exact finT hd hn hF hP (Ext.refl _ _ _) sub_self (B := []) (by simp [RepS]) List.nodup_nil (by simp) (by simp) rfl (by simp) (by simp) (by simp) hev (by intro d' k' h; cases h; exact hF.own s pre d k rest hf hb)
      · rw [hb, cond_true] at hev
        exact finUT hF hP hd hn hev
    · exact finUT hF hP hd hn hev
  · replace hev := withT_some hev; obtain ⟨i, hi, hev⟩ := hev
    exact finT hd hn hF hP (Ext.refl _ _ _) sub_self (B := []) (RepS_nil i.es Pr w) List.nodup_nil (by simp) (by simp) rfl (by simp) (by simp) (by simp) hev
  · split at hev
    · rename_i v hv
      exact finVT hF hP hd hn (rdO_sound hF hv) hev
    · exact finUT hF hP hd hn hev


theorem tk_pick {c x y : Operand} (ho : o.op = .pick c x y) (hev : evOp0 T E o fr K = some r) (hF : RepF Lz Pr w fr a.tmps F) (hP : PrOK Pr w) (hd : DOK o a) (hn : NxT Lz K r o.dst Pr w a F next) : Tk P o a w S next := by
  simp only [evOp0, ho] at hev
  split at hev
  · rename_i t hc
    have hb := rdO_sound hF hc
    simp only [RepA, RepD] at hb
    rcases br_some hev with ⟨ht, h1⟩ | ⟨ht, h1⟩
    · subst ht
      clear hev
      split at h1
      · rename_i v hv
        exact tk_value (v := a.eval x) (fun _ _ => by simp [execOp, ho, hb, asBool]) (finVT hF hP hd hn (rdO_sound hF hv) h1)
      · cases h1
    · subst ht
      clear hev
      split at h1
      · rename_i v hv
        exact tk_value (v := a.eval y) (fun _ _ => by simp [execOp, ho, hb, asBool]) (finVT hF hP hd hn (rdO_sound hF hv) h1)
      · cases h1
  · cases hev


theorem tk_nilCheck {x : Operand} (ho : o.op = .nilCheck x) (hev : evOp0 T E o fr K = some r) (hF : RepF Lz Pr w fr a.tmps F) (hP : PrOK Pr w) (hd : DOK o a) (hn : NxT Lz K r o.dst Pr w a F next) : Tk P o a w S next := by
  simp only [evOp0, ho] at hev
  split at hev
  · rename_i s
    split at hev
    · rename_i pre nw cs rest hf
      have hr := hF.rep s
      rw [find_look s fr [] _ _ _ hf] at hr
      simp only [RepS] at hr
      obtain ⟨b, c, T', Bs, hv, _⟩ := hr
      refine tk_value (v := .pointer (some ⟨b, 0, none⟩)) (fun w' hw' => by simp only [execOp, ho, Act.eval, hv]; rfl) ?_
      exact finRefT hF hP hd hn hv hev
    · rename_i pre d off rest hf
      cases hb : remade d pre
      · rw [hb, cond_false] at hev
        obtain ⟨b, hv0, hv⟩ := hF.ref s pre d off rest hf hb
        refine tk_value (v := .pointer (some ⟨b, off, none⟩)) (fun w' hw' => by simp only [execOp, ho, Act.eval, hv]; rfl) ?_
        exact finRefT hF hP hd hn hv0 hev
      · rw [hb, cond_true] at hev; cases hev
    · rename_i pre d rest hf
      cases hb : bound d pre
      · rw [hb, cond_false] at hev
        have ha := hF.alias0 s pre d rest hf hb
        have hl := find_rest s d fr pre _ rest hf hb
        split at hev
        · rename_i nw cs hl2
          have hr := hF.rep d
          rw [hl2] at hr
          simp only [RepS] at hr
          obtain ⟨b, c, T', Bs, hv, _⟩ := hr
          refine tk_value (v := .pointer (some ⟨b, 0, none⟩)) (fun w' hw' => by simp only [execOp, ho, Act.eval, ha, hv]; rfl) ?_
          exact finRefT hF hP hd hn hv hev
        · cases hev
      · rw [hb, cond_true] at hev; cases hev
    · cases hev
  · cases hev

theorem tk_load {t : TypeId} {x : Operand} {BS : List Nat} (hSB : ∀ w', S w' → ∀ d ∈ BS, ∀ b, (F d).head? = some b → w'.heap[b]? = w.heap[b]?) (hbs : ∀ s d off, x = .tmp s → root s fr = some (d, off) → d ∈ BS) (hno : ∀ s, x = .tmp s → rowAt s fr = none) (hC : Cx P T) (ho : o.op = .load t x) (hev : evOp0 T E o fr K = some r) (hF : RepF Lz Pr w fr a.tmps F) (hP : PrOK Pr w) (hS : ∀ w', S w' → PrOK Pr w') (hd : DOK o a) (hn : NxT Lz K r o.dst Pr w a F next) : Tk P o a w S next := by
  simp only [evOp0, ho] at hev
  replace hev := withT_some hev; obtain ⟨i, hi, hev⟩ := hev
  obtain ⟨tf⟩ := hC.facts hi
  split at hev
  · rename_i s
    split at hev
    · rename_i pre cs rest hf
      have hr := hF.rep s
      rw [find_look s fr [] _ _ _ hf] at hr
      simp only [RepS] at hr
      obtain ⟨⟨b, off, hv, hat⟩, _⟩ := hr
      obtain ⟨us, hus, hcell⟩ := at_vals cs b off hat
      have hlen := RepDs.length cs us hus
      unfold part at hev
      cases ha : i.agg
      · rw [ha, cond_false] at hev
        cases hcs : cs with
        | nil => simp [hcs] at hev
        | cons c cs' =>
          simp [hcs] at hev
          cases hu : us with
          | nil => rw [hu, hcs] at hlen; simp at hlen
          | cons u us' =>
            rw [hu, hcs] at hus
            have h1 : ∀ w', S w' → w'.cell? ⟨b, off, none⟩ = some u := fun w' hw' => (hS w' hw').cell (by have := hcell 0 u (by simp [hu]); simpa using this) hus.1.tup
            refine tk_value (v := u) ?_ (finVT hF hP hd hn (x := .d c) (by simp only [RepA]; exact hus.1) hev)
            intro w' hw'
            simp [execOp, ho, Act.eval, hv, Instr.loadAt, Instr.sureAddr, loadVar, tf.run_isAgg, ha, h1 w' hw']
      · rw [ha, cond_true] at hev
        cases hb : Nat.ble (0 + i.sh.length) cs.length
        · rw [hb] at hev; simp at hev
        · rw [hb] at hev
          have hb' := Nat.le_of_ble_eq_true hb
          simp at hev
          have := fun w' (hw' : S w') => (run_loadAt (w := w') tf (b := b) (o := off) (us := us.take i.sh.length) (by simp [hlen]; omega) (fun j u hj => by
            rw [List.getElem?_take] at hj
            split at hj
            · exact (hS w' hw').cell (hcell j u hj) (hus.tup j u hj)
            · cases hj)).1 ha
          refine tk_value (v := .agg (us.take i.sh.length).toArray) (fun w' hw' => by simp [execOp, ho, Act.eval, hv, this w' hw']) (finVT hF hP hd hn (x := .agg (cs.take i.sh.length)) ?_ hev)
          simp only [RepA]
          exact ⟨_, rfl, by simpa using hus.take i.sh.length⟩
    · rw [hno s rfl] at hev; cases hev
    · rename_i d off hr _ _
      cases hbx : boxOf d fr with
      | none => simp [hbx] at hev
      | some cs =>
        simp only [hbx] at hev
        obtain ⟨b, c, T', nw, Bs, hv, hv0, hl, hbl, hpr, hB, hss⟩ := root_sound hF hr hbx
        have hbl' : ∀ w', S w' → w'.heap[b]? = some (.cells c T' (0, 0)) := fun w' hw' => (hSB w' hw' d (hbs s d off rfl hr) b (by rw [hB]; rfl)).trans hbl
        cases ha : i.agg
        · simp only [ha, cond_false] at hev
          have plain : (match cellAt off cs with | .val v => K (dset o.dst (.val v) fr) | .app _ _ => K (dset o.dst (.al d (some off)) fr) | _ => none) = some r → Tk P o a w S next := by
            intro hev
            split at hev
            · rename_i v hcv
              have hlt := cellAt_lt off cs (by rw [hcv]; simp)
              have hlen := RepSs.length cs c.toList Bs hss
              have hoff : off < c.size := by have := hlen.1; simp at this; omega
              have hu : c[off]? = some c[off] := by simp [hoff]
              obtain ⟨B, _, _, h3⟩ := RepSs.cell cs c.toList Bs hss off c[off] (by simp)
              rw [hcv] at h3
              refine tk_value (v := c[off]) ?_ (finVT hF hP hd hn (h3.av rfl) hev)
              intro w' hw'
              simp [execOp, ho, Act.eval, hv, Instr.loadAt, Instr.sureAddr, loadVar, tf.run_isAgg, ha, cell_cells (hbl' w' hw'), hu]
            · rename_i es l hcv
              have hlt := cellAt_lt off cs (by rw [hcv]; simp)
              have hlen := RepSs.length cs c.toList Bs hss
              have hoff : off < c.size := by have := hlen.1; simp at this; omega
              have hu : c[off]? = some c[off] := by simp [hoff]
              refine tk_value (v := c[off]) ?_ (finT hd hn hF hP (Ext.refl _ _ _) sub_self (B := []) (by simp [RepS]) List.nodup_nil (by simp) (by simp) rfl (by simp) ?_ (by simp) hev)
              · intro w' hw'
                simp [execOp, ho, Act.eval, hv, Instr.loadAt, Instr.sureAddr, loadVar, tf.run_isAgg, ha, cell_cells (hbl' w' hw'), hu]
              · intro d' o' h; cases h
                exact ⟨b, c, T', hv0, by rw [hB]; exact List.mem_cons_self, hbl, hu⟩
            · cases hev
          cases hbig : Nat.blt 16 cs.length
          · rw [hbig, cond_false] at hev; exact plain hev
          · rw [hbig, cond_true] at hev
            split at hev
            · rename_i ds hds
              obtain ⟨hlt, hev⟩ := chk_some hev
              split at hev
              · rename_i v hi2
                have hdr := RepSs.cellsD _ _ _ ds hss hds
                have hl1 := RepDs.length _ _ hdr
                have hoff : off < c.size := by simp at hl1; omega
                have hu : c[off]? = some c[off] := by simp [hoff]
                have hpt := idxD_part hlt hi2
                have hpa : RepA Pr v c[off] := by
                  simp only [Lg.part, Nat.mul_one, cond_false] at hpt
                  rw [List.drop_eq_getElem_cons hlt] at hpt
                  simp at hpt
                  subst hpt
                  simp only [RepA]
                  exact RepDs.get ds c.toList hdr off _ _ (by simp [hlt]) (by simp [hoff])
                refine tk_value (v := c[off]) ?_ (finVT hF hP hd hn hpa hev)
                intro w' hw'
                simp [execOp, ho, Act.eval, hv, Instr.loadAt, Instr.sureAddr, loadVar, tf.run_isAgg, ha, cell_cells (hbl' w' hw'), hu]
              · cases hev
            · exact plain hev
        · simp only [ha, cond_true] at hev
          split at hev
          · rename_i ds hds
            cases hb : Nat.beq ds.length i.sh.length
            · rw [hb] at hev; simp at hev
            · rw [hb, cond_true] at hev
              have hb' := Nat.eq_of_beq_eq_true hb
              have h1 := RepSs.cellsD _ _ _ ds (RepSs.take i.sh.length _ _ _ (RepSs.drop off _ _ _ hss)) hds
              have hl1 := RepDs.length _ _ h1
              have := fun w' (hw' : S w') => (run_loadAt (w := w') tf (b := b) (o := off) (us := (c.toList.drop off).take i.sh.length) (by rw [hl1, hb']) (fun j u hj => by
                rw [cell_cells (hbl' w' hw')]
                rw [List.getElem?_take] at hj
                split at hj
                · rw [List.getElem?_drop] at hj; simpa using hj
                · cases hj)).1 ha
              refine tk_value (v := .agg ((c.toList.drop off).take i.sh.length).toArray) (fun w' hw' => by simp only [execOp, ho, Act.eval, hv]; simp [this w' hw']) (finVT hF hP hd hn (x := .agg ds) ?_ hev)
              simp only [RepA]
              exact ⟨_, rfl, h1⟩
          · cases hev
    · cases hev
  · cases hev


theorem tk_fieldAddr {t : TypeId} {x : Operand} {f : Nat} (hC : Cx P T) (ho : o.op = .fieldAddr t x f) (hev : evOp0 T E o fr K = some r) (hF : RepF Lz Pr w fr a.tmps F) (hP : PrOK Pr w) (hd : DOK o a) (hn : NxT Lz K r o.dst Pr w a F next) : Tk P o a w S next := by
  simp only [evOp0, ho] at hev
  replace hev := withT_some hev; obtain ⟨i, hi, hev⟩ := hev
  obtain ⟨tf⟩ := hC.facts hi
  have run : ∀ {off n b o'} (s : Nat), i.flds[f]? = some (off, n) → a.tmps.getD s undef = .pointer (some ⟨b, o', none⟩) → x = .tmp s → ∀ w, S w → (execOp a.eval o).run P w = .ok (.value (.pointer (some ⟨b, o' + off, none⟩))) w := by
    intro off n b o' s hfl hv hx w _
    obtain ⟨fs, fld, h1, h2, h3, h4, h5, ⟨g, h6, h7⟩, h8⟩ := tf.field hfl
    subst hx
    simp [execOp, ho, Act.eval, Instr.fieldAt, run_underlying h1, h2, hv, Instr.sureAddr, fieldPlace, Go.sizeOf, run_typeInfo w h6, h7, h8, Addr.add_lit, h3]
  split at hev
  · rename_i s
    split at hev
    · rename_i pre cs rest off n hf hfl
      have hr := hF.rep s
      rw [find_look s fr [] _ _ _ hf] at hr
      simp only [RepS] at hr
      obtain ⟨⟨b, o', hv, hat⟩, _⟩ := hr
      refine tk_value (run s hfl hv rfl) (finAtT hF hP hd hn ⟨b, o' + off, rfl, fun j x hj => ?_⟩ hev)
      rw [List.getElem?_take] at hj
      split at hj
      · rw [List.getElem?_drop] at hj
        obtain ⟨u, h1, h2⟩ := hat _ x hj
        exact ⟨u, by rw [Nat.add_assoc]; exact h1, h2⟩
      · cases hj
    · rename_i pre d n' i' o' rest off n hf hfl
      cases hb : bound d pre
      · rw [hb, cond_false] at hev
        obtain ⟨b, off0, len, cap, q1, q2, q3⟩ := hF.own s pre d _ rest hf hb
        refine tk_value (run s hfl q3 rfl) (finT hd hn hF hP (Ext.refl _ _ _) sub_self (B := []) (by simp [RepS]) List.nodup_nil (by simp) (by simp) rfl (by simp) (by simp) (by simp) hev (fun d' k h => ?_))
        cases h
        exact ⟨b, off0, len, cap, q1, q2, by rw [Nat.add_assoc _ o' off]⟩
      · rw [hb, cond_true] at hev; cases hev
    · rename_i off n d o' hfl hr _ _
      obtain ⟨b, hv, hv0⟩ := root_ptr hF hr
      exact tk_value (run s hfl hv rfl) (finRefT hF hP hd hn hv0 hev)
    · cases hev
  · cases hev


theorem tk_field {t : TypeId} {x : Operand} {f : Nat} (hC : Cx P T) (ho : o.op = .field t x f) (hev : evOp0 T E o fr K = some r) (hF : RepF Lz Pr w fr a.tmps F) (hP : PrOK Pr w) (hd : DOK o a) (hn : NxT Lz K r o.dst Pr w a F next) : Tk P o a w S next := by
  simp only [evOp0, ho] at hev
  replace hev := withT_some hev; obtain ⟨i, hi, hev⟩ := hev
  replace hev := withT_some hev; obtain ⟨j, hj, hev⟩ := hev
  obtain ⟨tf⟩ := hC.facts hi
  obtain ⟨tj⟩ := hC.facts hj
  split at hev
  · rename_i cs off n ft hx hfl hft
    replace hev := bif_some hev; obtain ⟨e1, hev⟩ := hev
    replace hev := bif_some hev; obtain ⟨e2, hev⟩ := hev
    have e1 := Nat.eq_of_beq_eq_true e1
    have e2 := Nat.eq_of_beq_eq_true e2
    subst e1; subst e2
    split at hev
    · rename_i v hv
      obtain ⟨fs, fld, h1, h2, h3, h4, _⟩ := tf.field hfl
      rw [hft] at h4; simp at h4
      have hr := rdO_sound hF hx
      simp only [RepA] at hr
      obtain ⟨vs, hvs, hds⟩ := hr
      obtain ⟨u, hu, hru⟩ := part_all tj hv hds
      refine tk_value (v := u) ?_ (finVT hF hP hd hn hru hev)
      intro w' hw'
      simp only [execOp, ho, Instr.field, Sem.run_bind, run_underlying h1, Result.andThen_ok, h2, asAgg, hvs, Sem.run_pure, h3, ← h4, hu w']
    · cases hev
  · cases hev


theorem tk_indexAddr {t : TypeId} {x y : Operand} (hC : Cx P T) (ho : o.op = .indexAddr t x y) (hev : evOp0 T E o fr K = some r) (hF : RepF Lz Pr w fr a.tmps F) (hP : PrOK Pr w) (hd : DOK o a) (hn : NxT Lz K r o.dst Pr w a F next) : Tk P o a w S next := by
  simp only [evOp0, ho] at hev
  replace hev := withT_some hev; obtain ⟨i, hi, hev⟩ := hev
  obtain ⟨tf⟩ := hC.facts hi
  cases hvw : viewO fr x with
  | some vw =>
    obtain ⟨d, lo, hi', es, l⟩ := vw
    rw [hvw] at hev
    obtain ⟨s, rfl, hvw⟩ := viewO_tmp hvw
    obtain ⟨v, k, h1, h2, h3⟩ := own_index tf ho hF hvw hev
    exact tk_value (v := v) (fun w' _ => h1 w') (finT hd hn hF hP (Ext.refl _ _ _) sub_self (B := []) (by simp [RepS]) List.nodup_nil (by simp) (by simp) rfl (by simp) (by simp) (by simp) h3 (by intro d' k' h; cases h; exact h2))
  | none =>
  rw [hvw] at hev
  dsimp only at hev
  split at hev
  · rename_i s k n hy
    have hyr := rdO_sound hF hy
    simp only [RepA, RepD] at hyr
    split at hev
    · rename_i len m d o' harr hr
      obtain ⟨⟨h0, h1⟩, hev⟩ := chk_some hev
      obtain ⟨b, hv, hv0⟩ := root_ptr hF hr
      obtain ⟨e, g, hu, hg, hgs, hm, _⟩ := tf.array harr
      refine tk_value (v := .pointer (some ⟨b, o' + n.toNat * m, none⟩)) ?_ (finRefT hF hP hd hn hv0 hev)
      intro w' hw'
      simp [execOp, ho, (show a.eval (.tmp s) = _ from hv), hyr, Instr.indexAt, asIntOf, run_underlying hu, Instr.sureAddr, h0, h1, Go.sizeOf, run_typeInfo w' hg, hgs, Addr.add_lit]
    · rename_i harr
      split at hev
      · rename_i es l hx
        split at hev
        · rename_i hes _
          cases ha : i.agg
          · rw [ha, cond_false] at hev
            replace hev := bif_some hev; obtain ⟨hpos, hev⟩ := hev
            obtain ⟨hlt, hev⟩ := chk_some hev
            have hxr := rd_sound hF hx
            have hes' := hes.down
            subst hes'
            simp only [RepA, RepD, RepC] at hxr
            obtain ⟨p, len, cap, hv, hl, hc, hrow⟩ := hxr
            have hne : l ≠ [] := by rintro rfl; simp at hlt; omega
            replace hrow := hrow.resolve_left hne; obtain ⟨b, off, rfl, hrow⟩ := hrow
            have hine : i.es ≠ [] ∨ ∃ es, i.sh = [.sl es] := .inl (by rintro q; simp [q] at hpos)
            obtain ⟨ef⟩ := tf.slice ha hine
            refine tk_value (v := .pointer (some ⟨b, off + n.toNat * i.es.length, none⟩)) ?_ (finAtT hF hP hd hn ⟨b, _, rfl, rowD_rep _ _ _ _ (hrow _ _ (getR_get hlt))⟩ hev)
            simp [execOp, ho, (show a.eval (.tmp s) = _ from hv), hyr, Instr.indexAt, asIntOf, run_underlying ef.hd, hl, hlt.1, hlt.2, ef.run_size, Addr.add_lit]
          · rw [ha, cond_true] at hev; cases hev
        · cases hev
      · cases hev
    · cases hev
  · cases hev

theorem tk_index {t : TypeId} {x y : Operand} (hC : Cx P T) (ho : o.op = .index t x y) (hev : evOp0 T E o fr K = some r) (hF : RepF Lz Pr w fr a.tmps F) (hP : PrOK Pr w) (hd : DOK o a) (hn : NxT Lz K r o.dst Pr w a F next) : Tk P o a w S next := by
  simp only [evOp0, ho] at hev
  replace hev := withT_some hev; obtain ⟨i, hi, hev⟩ := hev
  obtain ⟨tf⟩ := hC.facts hi
  split at hev
  · rename_i s k n ha hs hx hy
    have hxr := rdO_sound hF hx
    have hyr := rdO_sound hF hy
    simp only [RepA, RepD] at hxr hyr
    obtain ⟨⟨h0, h1⟩, hev⟩ := chk_some hev
    have hlt : n.toNat < s.length := by omega
    refine tk_value (v := .int .u8 (byteAt s n)) ?_ (finVT hF hP hd hn (x := .d (.int .u8 (byteAt s n))) (by simp [RepA, RepD]) hev)
    intro w' hw'
    simp [execOp, ho, hxr, hyr, Instr.index, asIntOf, run_underlying (tf.str ha hs), h0, str_get, hlt, byteAt]
  · rename_i cs k n ha hx hy
    replace hev := withT_some hev; obtain ⟨j, hj, hev⟩ := hev
    obtain ⟨tj⟩ := hC.facts hj
    split at hev
    · rename_i len m ft harr hft
      replace hev := bif_some hev; obtain ⟨e1, hev⟩ := hev
      replace hev := bif_some hev; obtain ⟨e2, hev⟩ := hev
      obtain ⟨⟨h0, h1⟩, hev⟩ := chk_some hev
      have e1 := Nat.eq_of_beq_eq_true e1
      have e2 := Nat.eq_of_beq_eq_true e2
      subst e1; subst e2
      split at hev
      · rename_i v hv
        have hv := idxD_part (show n.toNat < len by omega) hv
        obtain ⟨e, g, hu, hg, hgs, hm, hfe⟩ := tf.array harr
        rw [hft] at hfe; simp at hfe
        have hxr := rdO_sound hF hx
        have hyr := rdO_sound hF hy
        simp only [RepA, RepD] at hxr hyr
        obtain ⟨vs, hvs, hds⟩ := hxr
        obtain ⟨u, hpu, hru⟩ := part_all tj hv hds
        refine tk_value (v := u) ?_ (finVT hF hP hd hn hru hev)
        rw [hfe] at hpu
        intro w' hw'
        simp [execOp, ho, hyr, Instr.index, asIntOf, run_underlying hu, hvs, h0, h1, Go.sizeOf, run_typeInfo w' hg, hgs, hpu w']
      · cases hev
    · cases hev
  · cases hev


theorem tk_extract {x : Operand} {n : Nat} (ho : o.op = .extract x n) (hev : evOp0 T E o fr K = some r) (hF : RepF Lz Pr w fr a.tmps F) (hP : PrOK Pr w) (hd : DOK o a) (hn : NxT Lz K r o.dst Pr w a F next) : Tk P o a w S next := by
  simp only [evOp0, ho] at hev
  split at hev
  · rename_i vs hx
    split at hev
    · rename_i v hv
      have hr := rdO_sound hF hx
      simp only [RepA] at hr
      obtain ⟨us, hus, hr⟩ := hr
      have get : ∀ (l : List AV) (us : List Value), RepAs Pr l us → ∀ (n : Nat) (v : AV), l[n]? = some v → ∃ u, us[n]? = some u ∧ RepA Pr v u := by
        intro l
        induction l with
        | nil => intro us _ n v h; simp at h
        | cons x l ih =>
          intro us h n v hv
          cases us with
          | nil => simp [RepAs] at h
          | cons u us =>
            simp only [RepAs] at h
            cases n with
            | zero => simp at hv; subst hv; exact ⟨u, rfl, h.1⟩
            | succ n => exact ih us h.2 n v (by simpa using hv)
      obtain ⟨u, hu, hru⟩ := get vs us.toList hr n v hv
      have hu' : us[n]? = some u := by simpa using hu
      refine tk_value (v := u) ?_ (finVT hF hP hd hn hru hev)
      intro w' hw'
      simp [execOp, ho, hus, Instr.extract, hu']
    · cases hev
  · cases hev


theorem tk_unOp {u : UnOp} {t : TypeId} {x : Operand} (ho : o.op = .unOp u t x) (hev : evOp0 T E o fr K = some r) (hF : RepF Lz Pr w fr a.tmps F) (hP : PrOK Pr w) (hd : DOK o a) (hn : NxT Lz K r o.dst Pr w a F next) : Tk P o a w S next := by
  simp only [evOp0, ho] at hev
  split at hev
  · rename_i b hx
    have hr := rdO_sound hF hx
    simp only [RepA, RepD] at hr
    exact tk_value (v := .bool (!b)) (fun w' hw' => by simp [execOp, ho, hr, Op.unary]) (finVT hF hP hd hn (x := .d (.bool (!b))) (by simp [RepA, RepD]) hev)
  · rename_i k n hx
    have hr := rdO_sound hF hx
    simp only [RepA, RepD] at hr
    exact tk_value (v := .int k (k.wrap (-n))) (fun w' hw' => by simp [execOp, ho, hr, Op.unary, Op.intArith]) (finVT hF hP hd hn (x := .d (.int k (k.wrap (-n)))) (by simp [RepA, RepD]) hev)
  · cases hev


theorem tk_binOp {u : BinOp} {t t' : TypeId} {x y : Operand} (hC : Cx P T) (ho : o.op = .binOp u t x y t') (hev : evOp0 T E o fr K = some r) (hF : RepF Lz Pr w fr a.tmps F) (hP : PrOK Pr w) (hd : DOK o a) (hn : NxT Lz K r o.dst Pr w a F next) (hy0 : isNilC y = false) : Tk P o a w S next := by
  simp only [evOp0, ho, hy0, cond_false] at hev
  split at hev
  · rename_i va vb hx hy
    have hxr := rdO_sound hF hx
    have hyr := rdO_sound hF hy
    have done : ∀ {z : D}, K (dset o.dst (.val (.d z)) fr) = some r → RepD Pr z (vOf z) → (∀ w, S w → (execOp a.eval o).run P w = .ok (.value (vOf z)) w) → Tk P o a w S next :=
      fun h3 h2 h1 => tk_value h1 (finVT hF hP hd hn (x := .d _) (by simp only [RepA]; exact h2) h3)
    unfold binV at hev
    split at hev
    · rename_i k m k' n
      simp only [RepA, RepD] at hxr hyr
      split at hev
      · rename_i hk
        subst hk
        cases u <;> simp only [binI] at hev <;> try (cases hev; done)
        case quo => obtain ⟨h0, hev⟩ := chk_some hev; exact done hev (by simp [vOf, RepD]) (fun w' hw' => by simp [vOf, execOp, ho, hxr, hyr, eqGuard, binOp, Op.intDiv, h0])
        case rem => obtain ⟨h0, hev⟩ := chk_some hev; exact done hev (by simp [vOf, RepD]) (fun w' hw' => by simp [vOf, execOp, ho, hxr, hyr, eqGuard, binOp, Op.intDiv, h0])
        all_goals exact done hev (by simp [vOf, RepD]) (fun w' hw' => by simp [vOf, execOp, ho, hxr, hyr, eqGuard, binOp, Op.intArith, Op.intCmp])
      · cases hev
    · rename_i s s'
      simp only [RepA, RepD] at hxr hyr
      cases u <;> simp only [binS] at hev <;> try (cases hev; done)
      case add =>
        obtain ⟨h0, hev⟩ := chk_some hev
        refine done hev (by simp [vOf, RepD]) fun w' hw' => ?_
        have h0' : ¬ (((⟨s.toArray⟩ : ByteArray).size + (⟨s'.toArray⟩ : ByteArray).size : Nat) : Int) > IntKind.i64.max := by
          simp only [str_size, Lg.maxI, IntKind.max, IntKind.signed, IntKind.bits] at h0 ⊢
          simp; omega
        have happ : (⟨s.toArray⟩ : ByteArray) ++ ⟨s'.toArray⟩ = ⟨(s ++ s').toArray⟩ := by
          apply ByteArray.ext; simp
        simp only [vOf, execOp, ho, hxr, hyr, eqGuard, binOp, Op.stringOp, if_neg h0', happ]
        simp
      all_goals
        refine done hev (by simp [vOf, RepD]) fun w' hw' => ?_
        simp only [vOf, execOp, ho, hxr, hyr, eqGuard, binOp, Op.stringOp, ByteArray.toList_mk, bytesLess_eq]
        simp
    · rename_i b b'
      simp only [RepA, RepD] at hxr hyr
      replace hev := withT_some hev; obtain ⟨i, hi, hev⟩ := hev
      obtain ⟨tf⟩ := hC.facts hi
      split at hev
      · rename_i ha hs
        exact done hev (by simp [vOf, RepD]) (fun w' hw' => by simp [vOf, execOp, ho, hxr, hyr, eqGuard, binOp, run_equal_bool (tf.bool ha hs)])
      · rename_i ha hs
        exact done hev (by simp [vOf, RepD]) (fun w' hw' => by simp [vOf, execOp, ho, hxr, hyr, eqGuard, binOp, run_equal_bool (tf.bool ha hs)])
      · cases hev
    · rename_i cs ds
      simp only [RepA] at hxr hyr
      obtain ⟨xs, hxs, hxr⟩ := hxr
      obtain ⟨ys, hys, hyr⟩ := hyr
      replace hev := withT_some hev; obtain ⟨i, hi, hev⟩ := hev
      replace hev := bif_some hev; obtain ⟨hb, hev⟩ := hev
      simp only [Bool.and_eq_true] at hb
      obtain ⟨⟨⟨ha, he⟩, h1⟩, h2⟩ := hb
      obtain ⟨hg, hq⟩ := hC.eq t i hi he ha
      split at hev
      · rename_i q hq'
        have := fun w' => hq Pr cs ds q xs ys w' h1 h2 hxr hyr hq'
        exact done hev (by simp [vOf, RepD]) (fun w' hw' => by simp [vOf, execOp, ho, hxs, hys, eqGuard, hg, binOp, this w'])
      · rename_i q hq'
        have := fun w' => hq Pr cs ds q xs ys w' h1 h2 hxr hyr hq'
        exact done hev (by simp [vOf, RepD]) (fun w' hw' => by simp [vOf, execOp, ho, hxs, hys, eqGuard, hg, binOp, this w'])
      · cases hev
    · cases hev
  · cases hev

theorem tk_slice {t : TypeId} {x : Operand} {lo hi : Option Operand} (hC : Cx P T) (ho : o.op = .slice t x lo hi none) (hev : evOp0 T E o fr K = some r) (hF : RepF Lz Pr w fr a.tmps F) (hP : PrOK Pr w) (hd : DOK o a) (hn : NxT Lz K r o.dst Pr w a F next) : Tk P o a w S next := by
  simp only [evOp0, ho] at hev
  replace hev := withT_some hev; obtain ⟨i, hi', hev⟩ := hev
  obtain ⟨tf⟩ := hC.facts hi'
  cases hvw : viewO fr x with
  | some vw =>
    obtain ⟨d, a0, b, es, l⟩ := vw
    rw [hvw] at hev
    obtain ⟨s, rfl, hvw⟩ := viewO_tmp hvw
    cases a0 with
    | succ n => cases hev
    | zero =>
      obtain ⟨v, k, h1, h2, h3⟩ := own_slice tf ho hF hvw hev
      exact tk_value (v := v) (fun w' _ => h1 w') (finT hd hn hF hP (Ext.refl _ _ _) sub_self (B := []) (by simp [RepS]) List.nodup_nil (by simp) (by simp) rfl (by simp) (by simp) (by simp) h3 (by intro d' k' h; cases h; exact h2))
  | none =>
  rw [hvw] at hev
  dsimp only at hev
  split at hev
  · rename_i v av bv ha hx hlo hhi
    replace hev := bif_some hev; obtain ⟨hfit, hev⟩ := hev
    have hxr := rdO_sound hF hx
    have hlor := rdOpt_sound hF hlo
    have hhir := rdOpt_sound hF hhi
    have done : ∀ {v : Value} {z : AV}, K (dset o.dst (.val z) fr) = some r → RepA Pr z v → (∀ w, S w → (execOp a.eval o).run P w = .ok (.value v) w) → Tk P o a w S next :=
      fun h3 h2 h1 => tk_value h1 (finVT hF hP hd hn h2 h3)
    cases v with
    | d y =>
      cases y with
      | str s =>
        have hu := tf.str ha (fitsV_str hfit)
        simp only [RepA, RepD] at hxr
        have run : ∀ (l h : Nat) (lv hv : Option Value), (∀ w, (Instr.sliceBounds false s.length s.length lv hv none).run P w = .ok (l, h, s.length) w) → lo.map a.eval = lv → hi.map a.eval = hv →
            ∀ w, S w → (execOp a.eval o).run P w = .ok (.value (.string ⟨((s.take h).drop l).toArray⟩)) w := by
          intro l h lv hv hr e1 e2 w hw
          subst e1; subst e2
          simp only [execOp, ho, hxr, Instr.sliceAt, Sem.run_bind, run_underlying hu, Result.andThen_ok, Instr.slice, Option.map_none, Option.isSome_none, Bool.false_eq_true, if_false, Sem.run_pure, str_size, hr, str_extract]
        rcases hlor with ⟨rfl, rfl⟩ | ⟨ly, lu, rfl, rfl, hl⟩ <;> rcases hhir with ⟨rfl, rfl⟩ | ⟨hy, hu', rfl, rfl, hh⟩
        · simp only [evSlice] at hev
          have h1 := run 0 s.length none none (by simp [Instr.sliceBounds]) rfl rfl
          rw [List.take_length, List.drop_zero] at h1
          exact done hev (by simp [RepA, RepD]) h1
        · cases hu' with
          | d z =>
            cases z with
            | int k b =>
              simp only [evSlice] at hev
              obtain ⟨⟨g0, g1⟩, hev⟩ := chk_some hev
              simp only [RepA, RepD] at hh
              have h1 := run 0 b.toNat none (some (.int k b)) (by simp [Instr.sliceBounds, Instr.sliceBound, asIntOf, g0, g1]) rfl (by simp [hh])
              rw [List.drop_zero] at h1
              exact done hev (by simp [RepA, RepD]) h1
            | _ => simp [evSlice] at hev
          | _ => simp [evSlice] at hev
        · cases lu with
          | d z =>
            cases z with
            | int k b =>
              simp only [evSlice] at hev
              obtain ⟨⟨g0, g1⟩, hev⟩ := chk_some hev
              simp only [RepA, RepD] at hl
              have h1 := run b.toNat s.length (some (.int k b)) none (by simp [Instr.sliceBounds, Instr.sliceBound, asIntOf, g0, g1]) (by simp [hl]) rfl
              rw [List.take_length] at h1
              exact done hev (by simp [RepA, RepD]) h1
            | _ => simp [evSlice] at hev
          | _ => simp [evSlice] at hev
        · cases lu with
          | d z =>
            cases z with
            | int k b =>
              cases hu' with
              | d z' =>
                cases z' with
                | int k' b' =>
                  simp only [evSlice] at hev
                  obtain ⟨⟨g0, g1, g2⟩, hev⟩ := chk_some hev
                  simp only [RepA, RepD] at hl hh
                  have e1 : ((b'.toNat : Nat) : Int) = b' := by omega
                  have h1 := run b.toNat b'.toNat (some (.int k b)) (some (.int k' b')) (by simp [Instr.sliceBounds, Instr.sliceBound, asIntOf, g0, g2, show (0 : Int) ≤ b' by omega, e1, g1]) (by simp [hl]) (by simp [hh])
                  exact done hev (by simp [RepA, RepD]) h1
                | _ => simp [evSlice] at hev
              | _ => simp [evSlice] at hev
            | _ => simp [evSlice] at hev
          | _ => simp [evSlice] at hev
      | sl es l =>
        obtain ⟨hsh, hes⟩ := fitsV_sl hfit
        obtain ⟨ef⟩ := tf.slice ha (.inr ⟨es, hsh⟩)
        simp only [RepA, RepD, RepC] at hxr
        obtain ⟨p, len, cap, hv, hlen, hc, hrow⟩ := hxr
        subst hlen
        have run : ∀ (l0 h : Nat) (lv hv' : Option Value), (∀ w, (Instr.sliceBounds true l.length cap lv hv' none).run P w = .ok (l0, h, cap) w) → lo.map a.eval = lv → hi.map a.eval = hv' →
            ∀ w, S w → (execOp a.eval o).run P w = .ok (.value (.slice (if cap = l0 then p else p.map (·.add (l0 * es.length))) (h - l0) (cap - l0))) w := by
          intro l0 h lv hv' hr e1 e2 w hw
          subst e1; subst e2
          have hsz := ef.run_size w
          rw [hes] at hsz
          simp only [execOp, ho, hv, Instr.sliceAt, Sem.run_bind, run_underlying ef.hd, Result.andThen_ok, Instr.slice, Option.map_none, hr, hsz, Sem.run_pure]
        rcases hlor with ⟨rfl, rfl⟩ | ⟨ly, lu, rfl, rfl, hl⟩ <;> rcases hhir with ⟨rfl, rfl⟩ | ⟨hy, hu', rfl, rfl, hh⟩
        · simp only [evSlice] at hev
          have h1 := run 0 l.length none none (by simp [Instr.sliceBounds]) rfl rfl
          have h2 := cut_rep (Pr := Pr) (p := p) (lo := 0) (hi := l.length) (by omega) (by omega) hc hrow
          rw [List.take_length, List.drop_zero] at h2
          exact done hev h2 h1
        · cases hu' with
          | d z =>
            cases z with
            | int k b =>
              simp only [evSlice] at hev
              obtain ⟨⟨g0, g1⟩, hev⟩ := chk_some hev
              simp only [RepA, RepD] at hh
              have h1 := run 0 b.toNat none (some (.int k b)) (by simp [Instr.sliceBounds, Instr.sliceBound, asIntOf, g0, show b ≤ (cap : Int) by omega]) rfl (by simp [hh])
              have h2 := cut_rep (Pr := Pr) (p := p) (lo := 0) (hi := b.toNat) (by omega) (by omega) hc hrow
              rw [List.drop_zero] at h2
              exact done hev h2 h1
            | _ => simp [evSlice] at hev
          | _ => simp [evSlice] at hev
        · cases lu with
          | d z =>
            cases z with
            | int k b =>
              simp only [evSlice] at hev
              obtain ⟨⟨g0, g1⟩, hev⟩ := chk_some hev
              simp only [RepA, RepD] at hl
              have h1 := run b.toNat l.length (some (.int k b)) none (by simp [Instr.sliceBounds, Instr.sliceBound, asIntOf, g0, g1]) (by simp [hl]) rfl
              have h2 := cut_rep (Pr := Pr) (p := p) (lo := b.toNat) (hi := l.length) (by omega) (by omega) hc hrow
              rw [List.take_length] at h2
              exact done hev h2 h1
            | _ => simp [evSlice] at hev
          | _ => simp [evSlice] at hev
        · cases lu with
          | d z =>
            cases z with
            | int k b =>
              cases hu' with
              | d z' =>
                cases z' with
                | int k' b' =>
                  simp only [evSlice] at hev
                  obtain ⟨⟨g0, g1, g2⟩, hev⟩ := chk_some hev
                  simp only [RepA, RepD] at hl hh
                  have e1 : ((b'.toNat : Nat) : Int) = b' := by omega
                  have h1 := run b.toNat b'.toNat (some (.int k b)) (some (.int k' b')) (by simp [Instr.sliceBounds, Instr.sliceBound, asIntOf, g0, show b' ≤ (cap : Int) by omega, show (0 : Int) ≤ b' by omega, e1, g1]) (by simp [hl]) (by simp [hh])
                  exact done hev (cut_rep (by omega) (by omega) hc hrow) h1
                | _ => simp [evSlice] at hev
              | _ => simp [evSlice] at hev
            | _ => simp [evSlice] at hev
          | _ => simp [evSlice] at hev
      | _ => simp [fitsV] at hfit
    | _ => simp [fitsV] at hfit
  · cases hev


theorem tk_len {c : Call} (hC : Cx P T) (ho : o.op = .call c) (hc : c.callee = .builtin .len) (hev : evOp0 T E o fr K = some r) (hF : RepF Lz Pr w fr a.tmps F) (hP : PrOK Pr w) (hd : DOK o a) (hn : NxT Lz K r o.dst Pr w a F next) : Tk P o a w S next := by
  simp only [evOp0, ho, hc] at hev
  split at hev
  · rename_i x t hargs htys
    replace hev := withT_some hev; obtain ⟨i, hi, hev⟩ := hev
    obtain ⟨tf⟩ := hC.facts hi
    have hA : c.args = #[x] := by apply Array.toList_inj.1; simpa using hargs
    have hT : c.argTypes = #[t] := by apply Array.toList_inj.1; simpa using htys
    cases hvw : viewO fr x with
    | some vw =>
      obtain ⟨d, lo, hi', es, l⟩ := vw
      rw [hvw] at hev
      obtain ⟨s, rfl, hvw⟩ := viewO_tmp hvw
      obtain ⟨h1, h3⟩ := own_len tf ho hc hA hT hF hvw hev
      exact tk_value (v := .int .i64 ((hi' : Int) - lo)) (fun w' _ => h1 w') (finVT hF hP hd hn (x := .d (.int .i64 ((hi' : Int) - lo))) (by simp [RepA, RepD]) h3)
    | none =>
    rw [hvw] at hev
    dsimp only at hev
    split at hev
    · rename_i v ha hx
      replace hev := bif_some hev; obtain ⟨hfit, hev⟩ := hev
      have hxr := rdO_sound hF hx
      split at hev
      · rename_i s
        simp only [RepA, RepD] at hxr
        refine tk_value (v := .int .i64 s.length) ?_ (finVT hF hP hd hn (x := .d (.int .i64 s.length)) (by simp [RepA, RepD]) hev)
        intro w' hw'
        simp [execOp, ho, resolve, hc, hA, hT, invoke, builtin, Builtin.len_, hxr, run_underlying (tf.str ha (fitsV_str hfit)), goInt, str_size]
      · rename_i es l
        obtain ⟨hsh, hes⟩ := fitsV_sl hfit
        obtain ⟨ef⟩ := tf.slice ha (.inr ⟨es, hsh⟩)
        simp only [RepA, RepD, RepC] at hxr
        obtain ⟨p, len, cap, hv, hlen, hc', hrow⟩ := hxr
        subst hlen
        refine tk_value (v := .int .i64 l.length) ?_ (finVT hF hP hd hn (x := .d (.int .i64 l.length)) (by simp [RepA, RepD]) hev)
        intro w' hw'
        simp [execOp, ho, resolve, hc, hA, hT, invoke, builtin, Builtin.len_, hv, run_underlying ef.hd, goInt]
      · cases hev
    · cases hev
  · cases hev


theorem tk_convert {t u : TypeId} {x : Operand} (hnb : ∀ es l, rdO fr x ≠ some (.d (.sl es l))) (hC : Cx P T) (ho : o.op = .convert u t x) (hev : evOp0 T E o fr K = some r) (hF : RepF Lz Pr w fr a.tmps F) (hP : PrOK Pr w) (hd : DOK o a) (hn : NxT Lz K r o.dst Pr w a F next) : Tk P o a w S next := by
  simp only [evOp0, ho] at hev
  replace hev := withT_some hev; obtain ⟨i, hi, hev⟩ := hev
  replace hev := withT_some hev; obtain ⟨j, hj, hev⟩ := hev
  obtain ⟨tf⟩ := hC.facts hi
  obtain ⟨tj⟩ := hC.facts hj
  split at hev
  · rename_i k k0 k' n ha hs ha' hs' hx
    have hxr := rdO_sound hF hx
    simp only [RepA, RepD] at hxr
    refine tk_value (v := .int k (k.wrap n)) ?_ (finVT hF hP hd hn (x := .d (.int k (k.wrap n))) (by simp [RepA, RepD]) hev)
    intro w' hw'
    simp [execOp, ho, hxr, convert, run_underlying (tf.int ha hs), run_underlying (tj.int ha' hs'), Conv.intToInt]
  · rename_i s ha hs ha' hs' hx
    have hxr := rdO_sound hF hx
    simp only [RepA, RepD] at hxr
    refine tk_value (v := .string ⟨s.toArray⟩) ?_ (finVT hF hP hd hn (x := .d (.str s)) (by simp [RepA, RepD]) hev)
    intro w' hw'
    simp [execOp, ho, hxr, convert, run_underlying (tf.str ha hs), run_underlying (tj.str ha' hs')]
  · rename_i l ha hs ha' hs' hx
    exact absurd hx (hnb _ _)
  · cases hev


theorem mapV_soundT {ts : Array Value} {x : Operand} {k : Sh} {b : Bool} {es : List Sh} {m : List (CE k × RowE es)} {BS : List Nat} (h : RepF Lz Pr w fr ts F) (hSB : ∀ w', S w' → ∀ d ∈ BS, ∀ b, (F d).head? = some b → w'.heap[b]? = w.heap[b]?) (hbs : ∀ s d y, x = .tmp s → mpOf s fr = some (d, y) → d ∈ BS)
    (hP' : ∀ w', S w' → PrOK Pr w') (hm : mapV fr x = some (.mp k b es m)) :
    ∃ s, x = .tmp s ∧ ((ts.getD s undef = .map none ∧ m = []) ∨ ∃ bl es' ck, ts.getD s undef = .map (some bl) ∧ (∀ w', S w' → w'.heap[bl]? = some (.map es' ck)) ∧ MapR Pr k b es m es' ck) := by
  unfold mapV at hm
  split at hm
  · rename_i s
    refine ⟨s, rfl, ?_⟩
    split at hm
    · rename_i d k' b' es' m' hq
      cases hm
      obtain ⟨h1, h2⟩ := mpOf_sound h hq
      have hr := h.rep d
      rw [h1] at hr
      simp only [RepS] at hr
      obtain ⟨bl, es', ck, g1, g4, g2, _, g3⟩ := hr
      exact .inr ⟨bl, es', ck, h2.trans g1, fun w' hw => (hSB w' hw d (hbs s d _ rfl hq) bl (by rw [g4]; rfl)).trans g2, g3⟩
    · split at hm
      · rename_i k' b' es' m' hq
        cases hm
        have hr := rd_sound h hq
        simp only [RepA, RepD, RepC] at hr
        refine hr.imp id ?_
        rintro ⟨bl, es', ck, g1, g2, g3, g4, g5⟩
        exact ⟨bl, es', ck, g1, fun w' hw => (hP' w' hw).map g2, g3, g4, g5⟩
      · cases hm
  · cases hm
theorem tk_lookup {t : TypeId} {x y : Operand} {ok : Bool} {BS : List Nat} (hSB : ∀ w', S w' → ∀ d ∈ BS, ∀ b, (F d).head? = some b → w'.heap[b]? = w.heap[b]?) (hbs : ∀ s d y, x = .tmp s → mpaOf s fr = some (d, y) → d ∈ BS) (hbs2 : ∀ s d y, x = .tmp s → mpaOf s fr = none → mpOf s fr = some (d, y) → d ∈ BS)
    (hP' : ∀ w', S w' → PrOK Pr w') (hC : Cx P T) (ho : o.op = .lookup t x y ok) (hev : evOp0 T E o fr K = some r) (hF : RepF Lz Pr w fr a.tmps F) (hP : PrOK Pr w) (hd : DOK o a) (hn : NxT Lz K r o.dst Pr w a F next) : Tk P o a w S next := by
  simp only [evOp0, ho] at hev
  replace hev := withT_some hev; obtain ⟨i, hi, hev⟩ := hev
  obtain ⟨tf⟩ := hC.facts hi
  split at hev
  · rename_i d' k es m hmp
    cases ok
    case true => rw [cond_true] at hev; cases hev
    rw [cond_false] at hev
    split at hev
    · rename_i dk hag hy
      split at hev
      · rename_i hs key hsh hkey
        obtain ⟨s, rfl, hmp⟩ := mpaO_tmp hmp
        obtain ⟨bl, v, B, F1, z1, z2, z3, z4, z5, z6, z7, z8, z9, z10, z11⟩ := op_lookupA tf ho hmp hag hs.down.symm hy hkey hF
        refine tk_value (v := v) (fun w' hw => z4 w' (hSB w' hw d' (hbs s d' _ rfl hmp) bl z3)) ?_
        exact finT2 hd hn z5 hP (fun t b hb => .inl ⟨t, z10 t b hb⟩) z11 z6 z7 z9 (fun b hb => .inl ⟨d', z8 b hb⟩) rfl (by simp) (by simp) (by simp) hev
      · cases hev
    · cases hev
  · cases hev
  rename_i hnone
  split at hev
  · rename_i k b es m d hag hm hy
    split at hev
    · rename_i hs key hsh hkey
      have hsh' : i.sh = [.mp k b es] := hs.down.symm
      obtain ⟨mf⟩ := tf.mp hsh' hag
      obtain ⟨kd, hkd⟩ : ∃ kd, P.underlying mf.kt = some kd := by
        cases hq : P.underlying mf.kt with
        | none => have := mf.hk; rw [hq] at this; cases k <;> simp [keyB] at this
        | some kd => exact ⟨kd, rfl⟩
      have hkB : keyB k (some kd) = true := hkd ▸ mf.hk
      have hyr := rdO_sound hF hy
      simp only [RepA] at hyr
      have hyc := ofD_rep _ _ _ _ hkey hyr
      have hz : ∀ w, (zeroValue mf.et).run P w = .ok mf.z w := fun w => by
        unfold Go.zeroValue
        simp [run_typeInfo w mf.hf, mf.hz]
      have done : ∀ (v : Value) (h : Bool) (row : RowE es), mhas k es m key = h → mget k es m key = row → ValR b v (RowVals Pr es row) → (∀ w, S w → (execOp a.eval o).run P w = .ok (.value (if ok then .tuple #[v, .bool h] else v)) w) → Tk P o a w S next := by
        intro v h row e1 e2 hv hrun
        rw [e1, e2] at hev
        refine tk_value hrun (finVT hF hP hd hn ?_ hev)
        cases ok
        · simp only [cond_false, Bool.false_eq_true, if_false]; exact hv.av
        · simp only [cond_true, if_true, RepA]
          exact ⟨_, rfl, by simp only [RepAs, RepA, RepD]; exact ⟨hv.av, trivial, trivial⟩⟩
      obtain ⟨s, rfl, hx⟩ := mapV_soundT (S := S) hF hSB (fun s d y hx hq => hbs2 s d y hx (by subst hx; exact hnone) hq) hP' hm
      rcases hx with ⟨hx, rfl⟩ | ⟨bl, es', ck, hx, hbl, hb1, hb2, m', hb3, hb4, hb5⟩
      · refine done mf.z false (RowE.dflt es) rfl rfl (ValR.zero mf.hzb mf.hv) fun w _ => ?_
        have hf := run_findKey (P := P) (w := w) hkd (u := a.eval y) (es := []) (r := none) rfl
        simp [execOp, ho, (show a.eval (.tmp s) = _ from hx), Instr.lookup, run_underlying mf.hd, run_checkKey hkd hkB, hf, hz]
      · have hks := keyB_simple hkB
        have hp := mget_perm hks hb3 ((hb3.map Prod.fst).nodup_iff.2 hb2) key
        rcases find_sound hkB hyc m' es'.toList 0 (by simpa using hb4) (fun i x hi => by simpa using hb5 i x hi) with ⟨g1, g2⟩ | ⟨i', en, g1, g2, g3, g4, g5, _, _⟩
        · have hh : mhas k es m key = false := by rw [← hp.2]; exact g1
          refine done mf.z false (RowE.dflt es) hh (mget_none m hh) (ValR.zero mf.hzb mf.hv) fun w hw => ?_
          have hf := run_findKey (P := P) (w := w) hkd g2
          simp [execOp, ho, (show a.eval (.tmp s) = _ from hx), Instr.lookup, run_underlying mf.hd, run_checkKey hkd hkB, hf, hz, Go.getObj, Sem.run, hbl w hw]
        · refine done en.val true _ (by rw [← hp.2]; exact g1) hp.1.symm g5 fun w hw => ?_
          have hf := run_findKey (P := P) (w := w) hkd g2
          simp [execOp, ho, (show a.eval (.tmp s) = _ from hx), Instr.lookup, run_underlying mf.hd, run_checkKey hkd hkB, hf, Go.getObj, Sem.run, hbl w hw]
    · cases hev
  · cases hev
end
end Go.Proofs.Ytgcjhcefpkbheaa.Lg
end

section
namespace Go.Proofs.Ytgcjhcefpkbheaa.Lg
open Go
variable {Lz : PM}
section
variable {R : Type} {P : Program} {T : Tab} {E : CallS} {o : Oper} {fr : Fr} {K : Fr → Option R} {r : R} {Pr : PM} {w : World} {a : Act} {F : Nat → List Nat}
  {next : Act → World → Prop} {S : World → Prop}
theorem evT_sound {ld : Bool} {BS : List Nat} (hC : Cx P T) (hk : (isT o.op && loadOK ld BS fr o.op && convOK fr o.op) = true)
    (hS : isLd o.op = true → ld = true → (∀ w', S w' → PrOK Pr w') ∧ ∀ w', S w' → ∀ d ∈ BS, ∀ b, (F d).head? = some b → w'.heap[b]? = w.heap[b]?)
    (hev : evOp0 T E o fr K = some r) (hF : RepF Lz Pr w fr a.tmps F) (hP : PrOK Pr w) (hd : DOK o a) (hn : NxT Lz K r o.dst Pr w a F next) : Tk P o a w S next := by
  rw [Bool.and_eq_true, Bool.and_eq_true] at hk
  obtain ⟨⟨h1, h2⟩, h3⟩ := hk
  cases ho : o.op with
  | move x => exact tk_move hC ho hev hF hP hd hn
  | pick c x y => exact tk_pick ho hev hF hP hd hn
  | nilCheck x => exact tk_nilCheck ho hev hF hP hd hn
  | load t x =>
    rw [ho] at h2 hS
    cases x with
    | tmp s =>
      simp only [loadOK, Bool.and_eq_true] at h2
      obtain ⟨q1, q2⟩ := hS rfl h2.1
      refine tk_load (BS := BS) q2 ?_ ?_ hC ho hev hF hP q1 hd hn
      rotate_left
      · intro s' hs
        cases hs
        simpa using h2.2.1
      intro s' d off hs hr
      cases hs
      have := h2.2.2
      rw [hr] at this
      simp only [memN, List.any_eq_true] at this
      obtain ⟨y, hy, hyd⟩ := this
      have := Nat.eq_of_beq_eq_true hyd
      subst this; exact hy
    | _ => simp [loadOK] at h2
  | lookup t x y ok =>
    rw [ho] at h2 hS
    cases x with
    | tmp s =>
      simp only [loadOK, Bool.and_eq_true] at h2
      obtain ⟨q1, q2⟩ := hS rfl h2.1
      refine tk_lookup (BS := BS) q2 ?_ ?_ q1 hC ho hev hF hP hd hn
      · intro s' d y hs hr
        cases hs
        have := h2.2
        rw [hr] at this
        simp only [memN, List.any_eq_true] at this
        obtain ⟨y, hy, hyd⟩ := this
        have := Nat.eq_of_beq_eq_true hyd
        subst this; exact hy
      · intro s' d y hs hr0 hr
        cases hs
        have := h2.2
        rw [hr0, hr] at this
        simp only [memN, List.any_eq_true] at this
        obtain ⟨y, hy, hyd⟩ := this
        have := Nat.eq_of_beq_eq_true hyd
        subst this; exact hy
    | _ => simp [loadOK] at h2
  | binOp u t x y t' => exact tk_binOp hC ho hev hF hP hd hn (by rw [ho] at h1; simpa [isT] using h1)
  | unOp u t x => exact tk_unOp ho hev hF hP hd hn
  | convert u t x =>
    rw [ho] at h3
    refine tk_convert (fun es l h => ?_) hC ho hev hF hP hd hn
    simp [convOK, h] at h3
  | slice t x lo hi mx =>
    cases mx with
    | none => exact tk_slice hC ho hev hF hP hd hn
    | some m => rw [ho] at h1; simp [isT] at h1
  | fieldAddr t x f => exact tk_fieldAddr hC ho hev hF hP hd hn
  | field t x f => exact tk_field hC ho hev hF hP hd hn
  | indexAddr t x y => exact tk_indexAddr hC ho hev hF hP hd hn
  | index t x y => exact tk_index hC ho hev hF hP hd hn
  | extract x n => exact tk_extract ho hev hF hP hd hn
  | call c =>
    rw [ho] at h1
    cases hc : c.callee with
    | builtin b =>
      cases b with
      | len => exact tk_len hC ho hc hev hF hP hd hn
      | _ => simp [isT, hc] at h1
    | _ => simp [isT, hc] at h1
  | _ => rw [ho] at h1; simp [isT] at h1
end
section
variable {P : Program} {T : Tab} {E : CallS}

def lateB (l : List (Bool × Nat)) (i : Nat) : Bool := !(l.any fun y => !y.1 && Nat.beq y.2 i)

theorem isOne_eq {l : List Nat} {i : Nat} (h : isOne l i = true) : l = [i] := by
  unfold isOne at h
  split at h
  · rw [Nat.eq_of_beq_eq_true h]
  · cases h

theorem seq_sound {R : Type} {K : Fr → Option R} {r : R} {Q : Exit → Act → World → Prop} (hC : Cx P T) (hE : SatE P E) {ops : Array Oper} {D : Nat → Prop} {ld : Bool} {BS : List Nat} {S : World → Prop} {G : Nat → Bool}
    {I : PM → World → (Nat → List Nat) → Prop} {one : Bool} (hns : Region.noSelect ops = true) (hQ : ∀ c a w, ¬ Q (.panic c) a w)
    (hIT : ∀ Pr w F F' (d : Option Nat), I Pr w F → (∀ d', d = some d' → D d') → (∀ t b, b ∈ F' t → (∃ t', b ∈ F t') ∨ w.heap.size ≤ b) → (∀ t, d ≠ some t → (F' t).head? = (F t).head?) → I Pr w F')
    (hIU : one = true → ∀ Pr w F Pr' w' F', I Pr w F → Ext (fun b => ∃ t, b ∈ F t) Pr w Pr' w' → (∀ t b, b ∈ F' t → (∃ t', b ∈ F t') ∨ w.heap.size ≤ b) → I Pr' w' F')
    (hld : ld = true → ∀ Pr w F, I Pr w F → PrOK Pr w → S w ∧ (∀ w', S w' → PrOK Pr w') ∧ ∀ w', S w' → ∀ d ∈ BS, ∀ b, (F d).head? = some b → w'.heap[b]? = w.heap[b]?) :
    ∀ (sch : List (Bool × Nat)) (lt lt' : Array Bool) (fuel : Nat) (fr : Fr) (Pr : PM) (w : World) (a : Act) (F : Nat → List Nat),
    evSeq T E ld BS ops.toList sch fr K = some r → okSeq ops sch lt = some lt' → (one = true ∨ ∀ x ∈ sch, x.1 = true) →
    (∀ x ∈ sch, x.1 = true → ld = true → ∀ o, ops[x.2]? = some o → isLd o.op = true → ∀ j, j < ops.size → G j = true ∨ j = x.2 ∨ Aft .any ops x.2 j) → (∀ x ∈ sch, x.1 = false → G x.2 = true → ∀ Pr w F, I Pr w F → PrOK Pr w → S w) →
    Shut .any ops lt → JT Lz P w F → RepF Lz Pr w fr a.tmps F → PrOK Pr w → I Pr w F → (∀ o ∈ ops.toList, ∀ d, o.dst = some d → d < a.tmps.size ∧ D d) →
    (∀ fr' Pr' w' a' F', K fr' = some r → Shut .any ops lt' → RepF Lz Pr' w' fr' a'.tmps F' → PrOK Pr' w' → I Pr' w' F' → Step F Pr w a F' Pr' w' a' D → wpG P .any ops Q S G fuel lt' a' w') →
    wpG P .any ops Q S G (fuel + sch.length) lt a w := by
  intro sch
  induction sch with
  | nil =>
    intro lt lt' fuel fr Pr w a F hev hok _ _ _ hsh hJ hF hP hI hd hk
    simp only [okSeq, Option.some.injEq] at hok
    subst hok
    exact hk fr Pr w a F hev hsh hF hP hI (Step.refl fun t b hb => ⟨t, hb⟩)
  | cons x sch ih =>
    obtain ⟨tk, i⟩ := x
    intro lt lt' fuel fr Pr w a F hev hok hone hG hIS hsh hJ hF hP hI hd hk
    simp only [evSeq] at hev
    cases hio : ops.toList[i]? with
    | none => rw [hio] at hev; cases hev
    | some o =>
      have hi : ops[i]? = some o := by simpa using hio
      have hmem : o ∈ ops.toList := List.mem_of_getElem? hio
      rw [hio] at hev
      simp only at hev
      have hdo : DOK o a := fun d h => (hd o hmem d h).1
      have hDo : ∀ d, o.dst = some d → D d := fun d h => (hd o hmem d h).2
      simp only [okSeq] at hok
      replace hok := bif_some hok
      obtain ⟨hc, hok⟩ := hok
      have hone' : one = true ∨ ∀ x ∈ sch, x.1 = true := hone.imp id fun h x hx => h x (List.mem_cons_of_mem _ hx)
      have hG' : ∀ x ∈ sch, x.1 = true → ld = true → ∀ o, ops[x.2]? = some o → isLd o.op = true → ∀ j, j < ops.size → G j = true ∨ j = x.2 ∨ Aft .any ops x.2 j := fun x hx => hG x (List.mem_cons_of_mem _ hx)
      rw [List.length_cons, ← Nat.add_assoc]
      -- what follows, from a frame behind
      have go : ∀ (fr1 : Fr) (Pr1 : PM) (w1 : World) (a1 : Act) (F1 : Nat → List Nat), evSeq T E ld BS ops.toList sch fr1 K = some r → RepF Lz Pr1 w1 fr1 a1.tmps F1 → PrOK Pr1 w1 → I Pr1 w1 F1 → Step F Pr w a F1 Pr1 w1 a1 D → Shut .any ops (lt.setIfInBounds i true) →
          wpG P .any ops Q S G (fuel + sch.length) (lt.setIfInBounds i true) a1 w1 := by
        intro fr1 Pr1 w1 a1 F1 h1 h2 h3 h4 h5 h6
        exact ih _ _ _ _ _ _ _ _ h1 hok hone' hG' (fun x hx => hIS x (List.mem_cons_of_mem _ hx)) h6 (hJ.step h5) h2 h3 h4 (fun o' ho' d hd' => by rw [h5.size]; exact hd o' ho' d hd') fun fr' Pr' w' a' F' q1 q2 q3 q4 q5 q6 => hk fr' Pr' w' a' F' q1 q2 q3 q4 q5 (h5.trans q6)
      -- a shadowed guard
      have hshI : ∀ d, D d → I Pr w (fun t => if t = d then [] else F t) := fun d hD => hIT Pr w F _ (some d) hI (fun d' e => by cases e; exact hD) (fun t b hb => by
        by_cases e : t = d
        · simp [e] at hb
        · simp only [if_neg e] at hb; exact .inl ⟨t, hb⟩) (fun t e => by simp only [if_neg (fun q : t = d => e (by rw [q]))])
      have hsub : ∀ d t b, b ∈ (if t = d then [] else F t) → b ∈ F t := by
        intro d t b hb
        by_cases e : t = d
        · simp [e] at hb
        · simpa [e] using hb
      have hrun : ∀ (fr1 : Fr) (F1 : Nat → List Nat), RepF Lz Pr w fr1 a.tmps F1 → I Pr w F1 → (∀ t b, b ∈ F1 t → b ∈ F t) → Region.wanted o (yielded ops a.tmps) = true → evStep T E ld BS tk o fr1 (fun fr' => evSeq T E ld BS ops.toList sch fr' K) = some r → wpG P .any ops Q S G (fuel + sch.length + 1) lt a w := by
        intro fr1 F1 hF1 hI1 hs1 hw hev1
        unfold evStep at hev1
        cases tk
        · rw [cond_false] at hev1 hc
          have hr := isOne_eq hc
          have hin : i ∈ Region.ready .any ops lt := by rw [hr]; exact List.mem_singleton_self i
          rcases hone with hone | hone
          · refine wpG_all hr (by simp) fun j hj => ?_
            rw [List.mem_singleton] at hj; subst hj
            unfold wpOp
            rw [hi]
            simp only
            rw [if_pos hw]
            refine .inl (evOp_sound hC hE hev1 (hJ.sub fun t b hb => ⟨t, hs1 t b hb⟩) hF1 hP hdo fun v fr' Pr' w' F' hK hF' hP' hx hs => ?_)
            have hI' := hIU hone _ _ _ _ _ _ hI1 hx hs
            refine ⟨fun hg _ => hIS (false, j) List.mem_cons_self rfl hg _ _ _ hI' hP', ?_⟩
            exact go _ _ _ _ _ hK hF' hP' hI' ⟨hx.weaken fun b ⟨t, hb⟩ => ⟨t, hs1 t b hb⟩, fun t b hb => (hs t b hb).imp (fun ⟨t', q⟩ => ⟨t', hs1 t' b q⟩) id, put_defers _ _ _, put_size _ _ _, fun t ht => put_same a o.dst v t fun q => ht (hDo t q)⟩ (hsh.step hin)
          · have := hone (false, i) List.mem_cons_self; cases this
        · rw [cond_true] at hev1 hc
          rw [Bool.and_eq_true] at hc
          replace hev1 := bif_some hev1
          obtain ⟨hk1, hev1⟩ := hev1
          have hin : i ∈ Region.ready .any ops lt := by simpa using hc.1
          -- behind it
          have nx : NxT Lz (fun fr' => evSeq T E ld BS ops.toList sch fr' K) r o.dst Pr w a F1 (fun a' w' => wpG P .any ops Q S G (fuel + sch.length) (lt.setIfInBounds i true) a' w') := by
            intro v fr' F' hK hF' hB hhd
            have hI' : I Pr w F' := hIT Pr w F1 F' o.dst hI1 hDo hB hhd
            exact go _ _ _ _ _ hK hF' hP hI' ⟨Ext.refl _ _ _, fun t b hb => (hB t b hb).imp (fun ⟨t', h⟩ => ⟨t', hs1 t' b h⟩) id, put_defers _ _ _, put_size _ _ _, fun t ht => put_same a o.dst v t fun q => ht (hDo t q)⟩ (hsh.step hin)
          by_cases hl : isLd o.op = true ∧ ld = true
          · obtain ⟨hl, hld'⟩ := hl
            obtain ⟨s1, s2, s3⟩ := hld hld' Pr w F1 hI1 hP
            obtain ⟨v, hv, hn⟩ := evT_sound (S := S) hC hk1 (fun _ _ => ⟨s2, s3⟩) hev1 hF1 hP hdo nx
            exact wpG_take (S' := S) (fun _ h => h) hi hns hc.2 hc.1 hsh (.inr (hG (true, i) List.mem_cons_self rfl hld' o hi hl)) (fun c a w h => absurd h (hQ c _ w)) (.inl ⟨hw, hv⟩) (.inr s1) hn
          · obtain ⟨v, hv, hn⟩ := evT_sound (S := fun _ => True) hC hk1 (fun q1 q2 => absurd ⟨q1, q2⟩ hl) hev1 hF1 hP hdo nx
            exact wpG_take (S' := fun _ => True) (fun _ _ => trivial) hi hns hc.2 hc.1 hsh (.inl fun _ => trivial) (fun c a w h => absurd h (hQ c _ w)) (.inl ⟨hw, hv⟩) (.inl fun _ => trivial) hn
      have hskip : ∀ (fr1 : Fr) (F1 : Nat → List Nat), RepF Lz Pr w fr1 a.tmps F1 → I Pr w F1 → (∀ t b, b ∈ F1 t → b ∈ F t) → Region.wanted o (yielded ops a.tmps) = false → evSeq T E ld BS ops.toList sch (dset o.dst .und fr1) K = some r → wpG P .any ops Q S G (fuel + sch.length + 1) lt a w := by
        intro fr1 F1 hF1 hI1 hs1 hw hev1
        have hF2 : ∃ F2, RepF Lz Pr w (dset o.dst .und fr1) (a.put o.dst undef).tmps F2 ∧ I Pr w F2 ∧ ∀ t b, b ∈ F2 t → b ∈ F1 t := by
          cases hdst : o.dst with
          | none => exact ⟨F1, hF1, hI1, fun _ _ h => h⟩
          | some d =>
            have hlt := hdo d hdst
            refine ⟨_, hF1.plain (d := d) (ts' := a.tmps.setIfInBounds d undef) (sv := .und) (fun t hne => by rw [getD_set _ _ _ _ hlt, if_neg hne]) (by rw [getD_set _ _ _ _ hlt, if_pos rfl]; simp [RepS]) rfl (by simp) (by simp), hIT Pr w F1 _ (some d) hI1 (fun d' e => by cases e; exact hDo d hdst) (fun t b hb => by
              by_cases e : t = d
              · simp [e] at hb
              · simp only [if_neg e] at hb; exact .inl ⟨t, hb⟩) (fun t e => by simp only [if_neg (fun q : t = d => e (by rw [q]))]), ?_⟩
            intro t b hb
            by_cases e : t = d
            · simp [e] at hb
            · simpa [e] using hb
        obtain ⟨F2, hF2, hI2, hsub2⟩ := hF2
        have hst : Step F Pr w a F2 Pr w (a.put o.dst undef) D :=
          ⟨Ext.refl _ _ _, fun t b hb => .inl ⟨t, hs1 t b (hsub2 t b hb)⟩, put_defers _ _ _, put_size _ _ _, fun t ht => put_same a o.dst undef t fun q => ht (hDo t q)⟩
        cases tk
        · rw [cond_false] at hc
          have hr := isOne_eq hc
          have hin : i ∈ Region.ready .any ops lt := by rw [hr]; exact List.mem_singleton_self i
          refine wpG_all hr (by simp) fun j hj => ?_
          rw [List.mem_singleton] at hj; subst hj
          unfold wpOp
          rw [hi]
          simp only
          rw [if_neg (by rw [hw]; simp)]
          exact ⟨fun _ h => h, go _ _ _ _ _ hev1 hF2 hP hI2 hst (hsh.step hin)⟩
        · rw [cond_true, Bool.and_eq_true] at hc
          have hin : i ∈ Region.ready .any ops lt := by simpa using hc.1
          exact wpG_take (S' := fun _ => True) (fun _ _ => trivial) hi hns hc.2 hc.1 hsh (.inl fun _ => trivial) (fun c a w h => absurd h (hQ c _ w)) (.inr ⟨hw, rfl⟩) (.inl fun _ => trivial) (go _ _ _ _ _ hev1 hF2 hP hI2 hst (hsh.step hin))
      split at hev
      · rename_i hg
        exact hrun fr F hF hI (fun _ _ h => h) (by simp [Region.wanted, hg]) hev
      · rename_i j want hg
        split at hev
        · rename_i d hdst
          have hdst' : (ops[j]?).bind (·.dst) = some d := by simpa using hdst
          have hDd : D d := by
            cases hj : ops[j]? with
            | none => simp [hj] at hdst'
            | some oj =>
              simp [hj] at hdst'
              exact (hd oj (by have := List.mem_of_getElem? (l := ops.toList) (i := j) (a := oj) (by simpa using hj); exact this) d hdst').2
          obtain ⟨B, _, hrep⟩ := rdSV_sound hF d
          split at hev
          · rename_i hu
            rw [hu] at hrep
            simp only [RepS] at hrep
            exact hskip fr F hF hI (fun _ _ h => h) (by simp [Region.wanted, hg, yielded_und hdst' hrep.1]) hev
          · rename_i b hb
            rw [hb] at hrep
            simp only [RepS, RepA, RepD] at hrep
            have hy := yielded_bool hdst' hrep.1
            have hsd : ∀ b', b = b' → RepF Lz Pr w ((d, .val (.d (.bool b'))) :: fr) a.tmps (fun t => if t = d then [] else F t) := fun b' e => hF.shadow (by subst e; simp only [RepA, RepD]; exact hrep.1)
            rcases br_some hev with ⟨hbt, h⟩ | ⟨hbt, h⟩
            · cases want
              · simp only [cond_false] at h
                exact hskip _ _ (hsd true hbt) (hshI d hDd) (hsub d) (by simp [Region.wanted, hg, hy, hbt]) h
              · simp only [cond_true] at h
                exact hrun _ _ (hsd true hbt) (hshI d hDd) (hsub d) (by simp [Region.wanted, hg, hy, hbt]) h
            · cases want
              · simp only [cond_false] at h
                exact hrun _ _ (hsd false hbt) (hshI d hDd) (hsub d) (by simp [Region.wanted, hg, hy, hbt]) h
              · simp only [cond_true] at h
                exact hskip _ _ (hsd false hbt) (hshI d hDd) (hsub d) (by simp [Region.wanted, hg, hy, hbt]) h
          · cases hev
        · cases hev

theorem steals_sound {Pr : PM} {w : World} {ts : Array Value} : ∀ (l : List Nat) (fr : Fr) (F : Nat → List Nat), RepF Lz Pr w fr ts F → ∃ F', RepF Lz Pr w (steals l fr) ts F' ∧ ∀ t b, b ∈ F' t → ∃ t', b ∈ F t'
  | [], fr, F, h => ⟨F, h, fun t b hb => ⟨t, hb⟩⟩
  | s :: l, fr, F, h => by
    simp only [steals]
    split
    · rename_i pre d off rest hf
      split
      · rename_i es x fr' hg
        obtain ⟨B, F', h1, h2, h3, h4, h5, h6⟩ := grow_sound h hg
        have h7 : RepF Lz Pr w ((s, .app es x) :: fr') ts (fun t => if t = s then B else F' t) :=
          h1.bind (fun _ _ => rfl) h2 h6 (fun t _ b hb => h5 t b hb) (fun _ => rfl) (by simp) (by simp) (by simp)
        obtain ⟨F2, q1, q2⟩ := steals_sound l _ _ h7
        refine ⟨F2, q1, fun t b hb => ?_⟩
        obtain ⟨t', hb'⟩ := q2 t b hb
        by_cases e : t' = s
        · rw [if_pos e] at hb'; exact h4 b hb'
        · rw [if_neg e] at hb'; exact ⟨t', h3 t' b hb'⟩
      · exact steals_sound l fr F h
    · exact steals_sound l fr F h
theorem msks_sound {Pr : PM} {w : World} {ts : Array Value} : ∀ (l : List Nat) (fr : Fr) (F : Nat → List Nat), RepF Lz Pr w fr ts F → RepF Lz Pr w (msks l fr) ts (fun t => if t ∈ l then [] else F t)
  | [], fr, F, h => by simpa [msks] using h
  | d :: l, fr, F, h => by
    have ih := msks_sound l fr F h
    have := ih.bind (d := d) (ts' := ts) (sv := .msk) (B := []) (fun _ _ => rfl) (by simp [RepS]) List.nodup_nil (by simp) (fun _ => rfl) (by simp) (by simp) (by simp)
    have e : (fun t => if t = d then [] else (fun t => if t ∈ l then [] else F t) t) = (fun t => if t ∈ d :: l then [] else F t) := by
      funext t
      by_cases q : t = d
      · simp [q]
      · simp [q]
    rw [e] at this
    exact this
theorem unmsk_sound {Pr : PM} {w : World} {fr0 : Fr} {ts : Array Value} {G : Nat → List Nat} (hn : ∀ t, (G t).Nodup) (ha : ∀ t t', t ≠ t' → ∀ b ∈ G t, b ∉ G t') {fr : Fr} {F : Nat → List Nat} (h : RepF Lz Pr w fr ts F) (hd : ∀ t t', ∀ b ∈ G t, b ∉ F t') :
    ∀ (l : List Nat), (∀ d ∈ l, RepS Lz Pr w (look1 d fr0) (ts.getD d undef) (G d)) → ∃ F', RepF Lz Pr w (unmsk fr0 l fr) ts F' ∧ ∀ t b, b ∈ F' t → b ∈ F t ∨ (t ∈ l ∧ b ∈ G t)
  | [], _ => ⟨F, h, fun t b hb => .inl hb⟩
  | d :: l, hx => by
    obtain ⟨F1, h1, hs1⟩ := unmsk_sound hn ha h hd l (fun x hx' => hx x (List.mem_cons_of_mem _ hx'))
    have q1 := hx d List.mem_cons_self
    simp only [unmsk]
    split
    · rename_i nw cs hl
      rw [hl] at q1
      have q2 : RepS Lz Pr w (.box false cs) (ts.getD d undef) (G d) := by simpa only [RepS] using q1
      refine ⟨_, h1.bind (d := d) (ts' := ts) (fun _ _ => rfl) q2 (hn d) (fun t hne b hb q => by
        rcases hs1 t b q with q | q
        · exact hd d t b hb q
        · exact ha d t (Ne.symm hne) b hb q.2) (fun _ => rfl) (by simp) (by simp) (by simp), fun t b hb => ?_⟩
      by_cases e : t = d
      · rw [if_pos e] at hb; rw [e]; exact .inr ⟨List.mem_cons_self, hb⟩
      · rw [if_neg e] at hb; exact (hs1 t b hb).imp id fun q => ⟨List.mem_cons_of_mem _ q.1, q.2⟩
    · rename_i nw k es h0 m hl
      rw [hl] at q1
      have q2 : RepS Lz Pr w (.mpa false k es h0 m) (ts.getD d undef) (G d) := by simpa only [RepS] using q1
      refine ⟨_, h1.bind (d := d) (ts' := ts) (fun _ _ => rfl) q2 (hn d) (fun t hne b hb q => by
        rcases hs1 t b q with q | q
        · exact hd d t b hb q
        · exact ha d t (Ne.symm hne) b hb q.2) (fun _ => rfl) (by simp) (by simp) (by simp), fun t b hb => ?_⟩
      by_cases e : t = d
      · rw [if_pos e] at hb; rw [e]; exact .inr ⟨List.mem_cons_self, hb⟩
      · rw [if_neg e] at hb; exact (hs1 t b hb).imp id fun q => ⟨List.mem_cons_of_mem _ q.1, q.2⟩
    · rename_i k b0 es m hl
      rw [hl] at q1
      refine ⟨_, h1.bind (d := d) (ts' := ts) (fun _ _ => rfl) q1 (hn d) (fun t hne b hb q => by
        rcases hs1 t b q with q | q
        · exact hd d t b hb q
        · exact ha d t (Ne.symm hne) b hb q.2) (fun _ => rfl) (by simp) (by simp) (by simp), fun t b hb => ?_⟩
      by_cases e : t = d
      · rw [if_pos e] at hb; rw [e]; exact .inr ⟨List.mem_cons_self, hb⟩
      · rw [if_neg e] at hb; exact (hs1 t b hb).imp id fun q => ⟨List.mem_cons_of_mem _ q.1, q.2⟩
    · exact ⟨F1, h1, fun t b hb => (hs1 t b hb).imp id fun q => ⟨List.mem_cons_of_mem _ q.1, q.2⟩⟩

theorem sched_ok {ops : Array Oper} {s : Sch} (h : sched ops = some s) : okSch ops s = true := by
  unfold sched at h
  obtain ⟨h1, h2⟩ := bif_some h
  simp at h2
  subst h2
  exact h1

theorem regSound (hC : Cx P T) (hE : SatE P E) (hm : P.follows .mixedOrders = true) : RegSound P T E := by
  intro Lz R K r Q id ops fr0 Pr0 w a0 F0 hev hJ hF hP hb hk
  unfold evReg at hev
  split at hev
  case h_2 => cases hev
  rename_i s hs
  have hok := sched_ok hs
  simp only [okSch, Bool.and_eq_true] at hok
  obtain ⟨⟨⟨⟨hns, hAll⟩, hLd⟩, hfuel⟩, hseq⟩ := hok
  have hfuel := Nat.le_of_ble_eq_true hfuel
  split at hseq
  case h_2 => cases hseq
  rename_i lt1 hs1
  split at hseq
  case h_2 => cases hseq
  rename_i lt2 hs2
  split at hseq
  case h_2 => cases hseq
  rename_i lt3 hs3
  have hnil : Region.ready .any ops lt3 = [] := by simpa using hseq
  replace hev := bif_some hev; obtain ⟨hbs, hev⟩ := hev
  generalize hbsd : dynBs fr0 s.bs = bs at *
  simp only [List.all_eq_true, Bool.and_eq_true, Bool.not_eq_true'] at hbs
  let D : Nat → Prop := fun d => d ∈ ops.toList.filterMap (·.dst)
  have hDn : ∀ d ∈ bs, ¬ D d := by
    intro d hd hD
    have := (hbs d hd).2
    simp only [D, List.mem_filterMap] at hD
    obtain ⟨o, ho, hod⟩ := hD
    rw [List.any_eq_false] at this
    exact this o ho (by simp [dstIs, hod])
  have hdD : ∀ o ∈ ops.toList, ∀ d, o.dst = some d → d < a0.tmps.size ∧ D d := fun o ho d h => ⟨hb o ho d h, by simp only [D, List.mem_filterMap]; exact ⟨o, ho, h⟩⟩
  -- the world behind the draw
  have hx0 : Ext (fun b => ∃ t, b ∈ F0 t) Pr0 w Pr0 { w with drawn := w.drawn + 1 } := (Ext.refl _ _ _).drew (Nat.le_succ _)
  refine wp_mono (Q := fun e a w => match e with | .normal => Q .normal a w | _ => False) ?_ (fun e a w h => by cases e <;> first | exact h | exact h.elim)
  generalize hw0 : ({ w with drawn := w.drawn + 1 } : World) = w0
  rw [hw0] at hx0
  have hstep0 : Step F0 Pr0 w a0 F0 Pr0 w0 a0 D := ⟨hx0, fun t b hb => .inl ⟨t, hb⟩, rfl, rfl, fun _ _ => rfl⟩
  have hJ0 : JT Lz P w0 F0 := hJ.step hstep0
  have hF0 : RepF Lz Pr0 w0 fr0 a0.tmps F0 := hF.mono (PrLe.refl _) (fun t b _ => by rw [← hw0]; exact ⟨rfl, fun _ => rfl⟩)
  have hP0 : PrOK Pr0 w0 := by rw [← hw0]; exact hP.drew _
  let S : World → Prop := fun w' => PrOK Pr0 w' ∧ ∀ d ∈ bs, ∀ b, (F0 d).head? = some b → w'.heap[b]? = w0.heap[b]?
  let G : Nat → Bool := lateB s.c
  refine wp_region_G (S := S) (G := G) hm ?_
  rw [hw0]
  have hsh0 : Shut .any ops (Array.replicate ops.size false) := Shut.init
  generalize Array.replicate ops.size false = lt0 at *
  have hfz : ops.size = ((ops.size - (s.a.length + (s.b.length + s.c.length))) + s.c.length + s.b.length) + s.a.length := by omega
  rw [hfz]
  have hst : ∀ d b, d ∈ bs → ∀ t (ts : Array Value) Pr w fr F, RepF Lz Pr w fr ts F → isBM d fr = true → t = ts.getD d undef → (F d).head? = some b → t = .pointer (some ⟨b, 0, none⟩) ∨ t = .map (some b) := by
    intro d b _ t ts Pr w fr F h hbx ht hh
    unfold isBM at hbx
    have hr := h.rep d
    split at hbx
    · rename_i hl
      rw [hl] at hr
      simp only [RepS] at hr
      obtain ⟨b', c, T', Bs, hv, _, _, hB, _⟩ := hr
      rw [hB] at hh
      simp at hh
      exact .inl (by rw [ht, hv, hh])
    · rename_i hl
      rw [hl] at hr
      simp only [RepS] at hr
      obtain ⟨b', es', ck, Bs, hv, hB, _⟩ := hr
      rw [hB] at hh
      simp at hh
      exact .inr (by rw [ht, hv, hh])
    · rename_i hl
      rw [hl] at hr
      simp only [RepS] at hr
      obtain ⟨b', es', ck, hv, hB, _⟩ := hr
      rw [hB] at hh
      simp at hh
      exact .inr (by rw [ht, hv, hh])
    · cases hbx
  have hhead : ∀ d ∈ bs, ∀ (ts : Array Value) Pr w fr F, RepF Lz Pr w fr ts F → isBM d fr = true → ∃ b, (F d).head? = some b := by
    intro d _ ts Pr w fr F h hbx
    unfold isBM at hbx
    have hr := h.rep d
    split at hbx
    · rename_i hl
      rw [hl] at hr
      simp only [RepS] at hr
      obtain ⟨b', c, T', Bs, hv, _, _, hB, _⟩ := hr
      exact ⟨b', by rw [hB]; rfl⟩
    · rename_i hl
      rw [hl] at hr
      simp only [RepS] at hr
      obtain ⟨b', es', ck, Bs, hv, hB, _⟩ := hr
      exact ⟨b', by rw [hB]; rfl⟩
    · rename_i hl
      rw [hl] at hr
      simp only [RepS] at hr
      obtain ⟨b', es', ck, hv, hB, _⟩ := hr
      exact ⟨b', by rw [hB]; rfl⟩
    · cases hbx
  -- what is taken first
  refine seq_sound (S := S) (G := G) (D := D) (I := fun Pr w F => Pr = Pr0 ∧ w = w0 ∧ ∀ d ∈ bs, (F d).head? = (F0 d).head?) (one := false) hC hE hns (fun c a w h => h) ?_ (by simp) ?_ s.a _ _ _ fr0 Pr0 w0 a0 F0 hev hs1 (.inr (by simpa using hAll)) ?_ ?_ hsh0 hJ0 hF0 hP0 ⟨rfl, rfl, fun _ _ => rfl⟩ hdD ?_
  · rintro Pr w F F' d ⟨h1, h2, h3⟩ hD hB hhd
    exact ⟨h1, h2, fun d' hd' => (hhd d' (fun e => hDn d' hd' (hD d' e))).trans (h3 d' hd')⟩
  · rintro _ Pr w F ⟨rfl, rfl, h3⟩ hP
    exact ⟨⟨hP, fun _ _ _ _ => rfl⟩, fun w' h => h.1, fun w' h d hd b hb => h.2 d hd b (by rw [← h3 d hd]; exact hb)⟩
  · intro x hx _ _ o ho hl j hj
    rw [List.all_eq_true] at hLd
    have h1 := hLd x hx
    rw [ho] at h1
    simp only [hl, Bool.not_true, Bool.false_or, List.all_eq_true] at h1
    cases hG : G j
    · right
      simp only [G, lateB, Bool.not_eq_false', List.any_eq_true, Bool.and_eq_true, Bool.not_eq_true'] at hG
      obtain ⟨y, hy, hy1, hy2⟩ := hG
      have := h1 y hy
      rw [hy1, Bool.false_or, Nat.eq_of_beq_eq_true hy2] at this
      simp only [memN, List.any_eq_true] at this
      obtain ⟨z, hz, hzj⟩ := this
      have hzj := Nat.eq_of_beq_eq_true hzj
      subst hzj
      have := aftF_spec (md := .any) (ops := ops) (i := x.2) (List.range ops.size) [x.2] (fun k hk => .inl (by simpa using hk)) _ hz
      exact this.imp (fun q => q) fun q => q.2
    · exact .inl rfl
  · intro x hx h1
    have := List.all_eq_true.1 hAll x hx
    rw [h1] at this; cases this
  intro fr1 Pr1 w1 a1 F1 hK1 hsh1 hF1 hP1 hI1 hst1
  obtain ⟨rfl, rfl, hFd⟩ := hI1
  simp only at hK1
  replace hK1 := bif_some hK1; obtain ⟨hbx2, hK1⟩ := hK1
  simp only [List.all_eq_true] at hbx2
  obtain ⟨F2, hF2, hs2⟩ := steals_sound s.st fr1 F1 hF1
  generalize hfr2 : steals s.st fr1 = fr2 at *
  have hsame1 : ∀ d ∈ bs, a1.tmps.getD d undef = a0.tmps.getD d undef := fun d hd => hst1.same d (hDn d hd)
  have hh2 : ∀ d ∈ bs, ∀ b, (F0 d).head? = some b → b ∈ F2 d := by
    intro d hd b hb
    obtain ⟨b2, hb2⟩ := hhead d hd _ _ _ _ _ hF2 (hbx2 d hd)
    have e1 := hst d b hd _ _ _ _ _ _ hF0 (hbs d hd).1 rfl hb
    have e2 := hst d b2 hd _ _ _ _ _ _ hF2 (hbx2 d hd) rfl hb2
    rw [hsame1 d hd] at e2
    have e3 : b = b2 := by
      rcases e1 with e1 | e1 <;> rcases e2 with e2 | e2 <;> rw [e1] at e2 <;> simp at e2
      · exact e2
      · exact e2
    subst e3
    exact List.mem_of_mem_head? hb2
  have hM := msks_sound bs fr2 F2 hF2
  have hMs : ∀ t b, b ∈ (if t ∈ bs then [] else F2 t) → b ∈ F2 t := by
    intro t b hb
    by_cases e : t ∈ bs
    · simp [e] at hb
    · simpa [e] using hb
  have hJ1 : JT Lz P w1 F1 := hJ0.step hst1
  have hJM : JT Lz P w1 (fun t => if t ∈ bs then [] else F2 t) := hJ1.sub fun t b hb => hs2 t b (hMs t b hb)
  -- one at a time, beside what was loaded from
  refine seq_sound (S := S) (G := G) (D := D) (ld := false) (BS := []) (one := true) hC hE hns (fun c a w h => h)
    (I := fun Pr w F => PrLe Pr1 Pr ∧ w1.heap.size ≤ w.heap.size ∧ ∀ d ∈ bs, ∀ b ∈ F2 d, (∀ t, b ∉ F t) ∧ w.heap[b]? = w1.heap[b]? ∧ ∀ o, Pr b o = Pr1 b o) ?_ ?_ (by simp) s.b _ _ _ _ Pr1 w1 a1 _ hK1 ‹okSeq ops s.b lt1 = some lt2› (.inl rfl) (by simp) ?_ hsh1 hJM hM hP1 ?_ (fun o ho d h => by rw [hst1.size]; exact hdD o ho d h) ?_
  · rintro Pr w F F' d ⟨h1, h2, h3⟩ _ hB _
    refine ⟨h1, h2, fun d' hd' b hb => ⟨fun t q => ?_, (h3 d' hd' b hb).2⟩⟩
    have hlt : b < w1.heap.size := hF2.lt d' b hb
    rcases hB t b q with ⟨t', q⟩ | q
    · exact (h3 d' hd' b hb).1 t' q
    · omega
  · rintro _ Pr w F Pr' w' F' ⟨h1, h2, h3⟩ hx hs
    refine ⟨h1.trans hx.le, Nat.le_trans h2 hx.size, fun d' hd' b hb => ?_⟩
    have hlt : b < w1.heap.size := hF2.lt d' b hb
    obtain ⟨q1, q2, q3⟩ := h3 d' hd' b hb
    have := hx.block b (Nat.lt_of_lt_of_le hlt h2) (fun ⟨t, q⟩ => q1 t q)
    refine ⟨fun t q => ?_, this.1.trans q2, fun o => (this.2 o).trans (q3 o)⟩
    rcases hs t b q with ⟨t', q⟩ | q
    · exact q1 t' q
    · omega
  · rintro x hx h1 h2 Pr w F ⟨q1, q2, q3⟩ hP
    exact ⟨fun b o v h => hP b o v (q1 b o v h), fun d hd b hb => (q3 d hd b (hh2 d hd b hb)).2.1⟩
  · refine ⟨PrLe.refl _, Nat.le_refl _, fun d hd b hb => ⟨fun t q => ?_, rfl, fun _ => rfl⟩⟩
    by_cases e : t ∈ bs
    · simp [e] at q
    · rw [if_neg e] at q
      exact hF2.apart d t (fun z => e (z ▸ hd)) b hb q
  intro fr3 Pr3 w3 a3 F3 hK3 hsh3 hF3 hP3 hI3 hst3
  obtain ⟨i1, i2, i3⟩ := hI3
  have hsame3 : ∀ d ∈ bs, a3.tmps.getD d undef = a1.tmps.getD d undef := fun d hd => hst3.same d (hDn d hd)
  obtain ⟨F4, hF4, hs4⟩ := unmsk_sound (fr0 := fr2) (G := fun t => if t ∈ bs then F2 t else []) (fun t => by
      by_cases e : t ∈ bs
      · rw [if_pos e]; exact hF2.nodup t
      · rw [if_neg e]; exact List.nodup_nil) (fun t t' hne b hb q => by
      by_cases e : t ∈ bs
      · by_cases e' : t' ∈ bs
        · rw [if_pos e] at hb; rw [if_pos e'] at q; exact hF2.apart t t' hne b hb q
        · rw [if_neg e'] at q; simp at q
      · rw [if_neg e] at hb; simp at hb) hF3 (fun t t' b hb => by
      by_cases e : t ∈ bs
      · rw [if_pos e] at hb; exact (i3 t e b hb).1 t'
      · rw [if_neg e] at hb; simp at hb) bs (fun d hd => by
      rw [if_pos hd, hsame3 d hd]
      exact RepS.mono i1 _ _ _ (fun b hb => (i3 d hd b hb).2) (hF2.rep d))
  have hs4' : ∀ t b, b ∈ F4 t → (∃ t', b ∈ F1 t') ∨ w1.heap.size ≤ b := by
    intro t b hb
    rcases hs4 t b hb with q | ⟨hd, q⟩
    · rcases hst3.sub t b q with ⟨t', q⟩ | q
      · exact .inl (hs2 t' b (hMs t' b q))
      · exact .inr q
    · rw [if_pos hd] at q; exact .inl (hs2 t b q)
  have hst4 : Step F0 Pr1 w a0 F4 Pr3 w3 a3 D := by
    refine (hstep0.trans hst1).trans ⟨hst3.ext.weaken fun b ⟨t, hb⟩ => hs2 t b (hMs t b hb), hs4', hst3.defers, hst3.size, hst3.same⟩
  -- what is left
  refine seq_sound (S := S) (G := G) (D := D) (ld := false) (BS := []) (one := true) hC hE hns (fun c a w h => h)
    (I := fun Pr w F => True) (fun _ _ _ _ _ _ _ _ _ => trivial) (fun _ _ _ _ _ _ _ _ _ _ => trivial) (by simp) s.c _ _ _ _ Pr3 w3 a3 F4 hK3 hs3 (.inl rfl) (by simp) ?_ hsh3 (hJ.step hst4) hF4 hP3 trivial (fun o ho d h => by rw [hst4.size]; exact hdD o ho d h) ?_
  · intro x hx h1 hG
    exfalso
    simp only [G, lateB, Bool.not_eq_true', List.any_eq_false] at hG
    exact hG x hx (by simp [h1])
  intro fr' Pr' w' a' F' hK' _ hF' hP' _ hst'
  refine wpG_done hnil ?_ _
  exact (hk fr' Pr' w' a' F' hK' hF' hP' (hst4.trans hst'))
end
end Go.Proofs.Ytgcjhcefpkbheaa.Lg
end
