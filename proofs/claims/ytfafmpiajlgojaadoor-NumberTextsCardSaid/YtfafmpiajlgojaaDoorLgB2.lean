/- Part of a proof of the seat's statements: no statement by itself. -/
import Derived.Test.YtfafmpiajlgojaaDoorLgB1
namespace Go.Proofs.YtfafmpiajlgojaaDoor.Lg
open Go

theorem getD_set (ts : Array Value) (d t : Nat) (v : Value) (h : d < ts.size) : (ts.setIfInBounds d v).getD t undef = if t = d then v else ts.getD t undef := by
  simp only [Array.getD_eq_getD_getElem?, Array.getElem?_setIfInBounds]
  by_cases e : d = t
  · subst e; simp [h]
  · simp [e, Ne.symm e]

theorem beq_true {x t : Nat} (h : x = t) : Nat.beq x t = true := by subst h; simp
theorem beq_false {x t : Nat} (h : ¬ x = t) : Nat.beq x t = false := by
  cases hb : Nat.beq x t
  · rfl
  · exact absurd (Nat.eq_of_beq_eq_true hb) h

theorem bound_append (d : Nat) : ∀ (l m : List (Nat × Bool)), bound d (l ++ m) = (bound d l || bound d m)
  | [], m => by simp [bound]
  | (x, u) :: l, m => by
    simp only [List.cons_append, bound]
    cases Nat.beq x d <;> simp [bound_append d l m]
theorem remade_append (d : Nat) : ∀ (l m : List (Nat × Bool)), remade d (l ++ m) = (remade d l || remade d m)
  | [], m => by simp [remade]
  | (x, u) :: l, m => by
    simp only [List.cons_append, remade]
    cases Nat.beq x d <;> cases u <;> simp [remade_append d l m]
theorem bound_self (d : Nat) (u : Bool) : bound d [(d, u)] = true := by simp [bound]
theorem bound_one {d x : Nat} {u : Bool} (h : bound d [(x, u)] = false) : d ≠ x := by
  rintro rfl; simp [bound] at h
theorem remade_one {d x : Nat} {u : Bool} (h : remade d [(x, u)] = false) : d ≠ x ∨ u = true := by
  by_cases e : d = x
  · subst e; cases u <;> simp [remade] at h ⊢
  · exact .inl e

theorem find_acc (t : Nat) : ∀ (fr : Fr) (acc : List (Nat × Bool)), find t fr acc = (find t fr []).map fun p => (p.1 ++ acc, p.2)
  | [], acc => by simp [find]
  | (x, sv) :: fr, acc => by
    simp only [find]
    cases hb : Nat.beq x t
    · simp only [cond_false]
      rw [find_acc t fr ((x, sv.isUpd) :: acc), find_acc t fr [(x, sv.isUpd)]]
      simp [Function.comp_def]
    · simp

theorem find_look (t : Nat) : ∀ (fr : Fr) (acc : List (Nat × Bool)) pre sv rest, find t fr acc = some (pre, sv, rest) → look1 t fr = sv
  | [], acc, pre, sv, rest, h => by simp [find] at h
  | (x, s) :: fr, acc, pre, sv, rest, h => by
    simp only [find, look1] at h ⊢
    cases hb : Nat.beq x t
    · simp only [hb, cond_false] at h ⊢; exact find_look t fr _ _ _ _ h
    · simp only [hb, cond_true, Option.some.injEq, Prod.mk.injEq] at h ⊢; exact h.2.1
theorem find_none (t : Nat) : ∀ (fr : Fr) (acc : List (Nat × Bool)), find t fr acc = none → look1 t fr = .unk
  | [], acc, h => rfl
  | (x, s) :: fr, acc, h => by
    simp only [find, look1] at h ⊢
    cases hb : Nat.beq x t
    · simp only [hb, cond_false] at h ⊢; exact find_none t fr _ h
    · simp [hb] at h
/-- A slot that is not among those bound since: what stands further back is what is told of it. -/
theorem find_rest (t d : Nat) : ∀ (fr : Fr) pre sv rest, find t fr [] = some (pre, sv, rest) → bound d pre = false → look1 d fr = look1 d rest
  | [], pre, sv, rest, h, _ => by simp [find] at h
  | (x, s) :: fr, pre, sv, rest, h, hb => by
    simp only [find] at h
    cases hx : Nat.beq x t
    · simp only [hx, cond_false] at h
      rw [find_acc] at h
      cases hf : find t fr [] with
      | none => simp [hf] at h
      | some p =>
        obtain ⟨p1, p2, p3⟩ := p
        simp only [hf, Option.map_some, Option.some.injEq, Prod.mk.injEq] at h
        obtain ⟨h1, rfl, rfl⟩ := h
        rw [← h1, bound_append, Bool.or_eq_false_iff] at hb
        have := bound_one hb.2
        simp only [look1, beq_false (Ne.symm this), cond_false]
        exact find_rest t d fr p1 p2 p3 hf hb.1
    · simp only [hx, cond_true, Option.some.injEq, Prod.mk.injEq] at h
      obtain ⟨h1, rfl, rfl⟩ := h
      rw [← h1] at hb
      have := bound_one hb
      simp only [look1, beq_false (Ne.symm this), cond_false]
theorem find_bound_self (t : Nat) : ∀ (fr : Fr) (acc : List (Nat × Bool)) pre sv rest, find t fr acc = some (pre, sv, rest) → bound t pre = true
  | [], acc, pre, sv, rest, h => by simp [find] at h
  | (x, s) :: fr, acc, pre, sv, rest, h => by
    simp only [find] at h
    cases hx : Nat.beq x t
    · simp only [hx, cond_false] at h; exact find_bound_self t fr _ _ _ _ h
    · simp only [hx, cond_true, Option.some.injEq, Prod.mk.injEq] at h
      rw [← h.1]; simp [bound, hx]

/-- A new binding. -/
theorem RepF.rebind {Pr Pr' : PM} {w w' : World} {fr : Fr} {ts ts' : Array Value} {F : Nat → List Nat} {d : Nat} {sv : SV} {B : List Nat} (h : RepF Pr w fr ts F)
    (hle : PrLe Pr Pr') (hk : ∀ t, t ≠ d → Keeps (F t) Pr w Pr' w')
    (hts : ∀ t, t ≠ d → ts'.getD t undef = ts.getD t undef) (hr : RepS Pr' w' sv (ts'.getD d undef) B) (hn : B.Nodup) (ha : ∀ t, t ≠ d → ∀ b ∈ B, b ∉ F t)
    (hu : sv.isUpd = true → ts'.getD d undef = ts.getD d undef)
    (h0 : ∀ d', sv = .al d' none → d' ≠ d → ts'.getD d undef = ts.getD d' undef)
    (h1 : ∀ d' o, sv = .al d' (some o) → d' ≠ d → ∃ b c T, ts.getD d' undef = .pointer (some ⟨b, 0, none⟩) ∧ b ∈ F d' ∧ w'.heap[b]? = some (.cells c T (0, 0)) ∧ c[o]? = some (ts'.getD d undef))
    (h2 : ∀ d' o, sv = .ref d' o → d' ≠ d → ∃ b, ts.getD d' undef = .pointer (some ⟨b, 0, none⟩) ∧ ts'.getD d undef = .pointer (some ⟨b, o, none⟩)) :
    RepF Pr' w' ((d, sv) :: fr) ts' (fun t => if t = d then B else F t) := by
  have key : ∀ t pre s rest, find t ((d, sv) :: fr) [] = some (pre, s, rest) → (t = d ∧ pre = [(d, sv.isUpd)] ∧ s = sv ∧ rest = fr) ∨
      (t ≠ d ∧ ∃ p1, find t fr [] = some (p1, s, rest) ∧ pre = p1 ++ [(d, sv.isUpd)]) := by
    intro t pre s rest hf
    simp only [find] at hf
    by_cases e : d = t
    · subst e
      simp at hf
      exact .inl ⟨rfl, hf.1.symm, hf.2.1.symm, hf.2.2.symm⟩
    · rw [beq_false e, cond_false, find_acc] at hf
      cases hg : find t fr [] with
      | none => simp [hg] at hf
      | some p =>
        obtain ⟨p1, p2, p3⟩ := p
        simp only [hg, Option.map_some, Option.some.injEq, Prod.mk.injEq] at hf
        obtain ⟨hf1, rfl, rfl⟩ := hf
        exact .inr ⟨Ne.symm e, p1, rfl, hf1.symm⟩
  refine ⟨?_, ?_, ?_, ?_, ?_, ?_⟩
  · intro t
    simp only [look1]
    by_cases e : t = d
    · subst e; simpa using hr
    · rw [beq_false (Ne.symm e), cond_false, if_neg e, hts t e]; exact RepS.mono hle _ _ _ (hk t e) (h.rep t)
  · intro t
    by_cases e : t = d
    · simpa [e] using hn
    · simpa [e] using h.nodup t
  · intro t t' ne b hb
    by_cases e : t = d
    · subst e
      simp only [if_true] at hb
      rw [if_neg (Ne.symm ne)]
      exact ha t' (Ne.symm ne) b hb
    · rw [if_neg e] at hb
      by_cases e' : t' = d
      · subst e'; simp only [if_true]; exact fun q => ha t e b q hb
      · rw [if_neg e']; exact h.apart t t' ne b hb
  · intro t pre d' rest hf hb
    rcases key t pre _ rest hf with ⟨rfl, rfl, hs, _⟩ | ⟨e, p1, hg, rfl⟩
    · have := bound_one hb
      rw [h0 d' hs.symm this, hts d' this]
    · rw [bound_append, Bool.or_eq_false_iff] at hb
      have := bound_one hb.2
      rw [hts t e, hts d' this]
      exact h.alias0 t p1 d' rest hg hb.1
  · intro t pre d' o rest hf hb
    rcases key t pre _ rest hf with ⟨rfl, rfl, hs, _⟩ | ⟨e, p1, hg, rfl⟩
    · have := bound_one hb
      obtain ⟨b, c, T, q1, q2, q3, q4⟩ := h1 d' o hs.symm this
      exact ⟨b, c, T, by rw [hts d' this]; exact q1, by rw [if_neg this]; exact q2, q3, q4⟩
    · rw [bound_append, Bool.or_eq_false_iff] at hb
      have := bound_one hb.2
      obtain ⟨b, c, T, q1, q2, q3, q4⟩ := h.alias1 t p1 d' o rest hg hb.1
      exact ⟨b, c, T, by rw [hts d' this]; exact q1, by rw [if_neg this]; exact q2, ((hk d' this) b q2).1.trans q3, by rw [hts t e]; exact q4⟩
  · intro t pre d' o rest hf hb
    rcases key t pre _ rest hf with ⟨rfl, rfl, hs, _⟩ | ⟨e, p1, hg, rfl⟩
    · have hd' : d' ≠ t := by
        rcases remade_one hb with q | q
        · exact q
        · subst hs; simp [SV.isUpd] at q
      obtain ⟨b, q1, q2⟩ := h2 d' o hs.symm hd'
      exact ⟨b, by rw [hts d' hd']; exact q1, q2⟩
    · rw [remade_append, Bool.or_eq_false_iff] at hb
      obtain ⟨b, q1, q2⟩ := h.ref t p1 d' o rest hg hb.1
      refine ⟨b, ?_, by rw [hts t e]; exact q2⟩
      by_cases e' : d' = d
      · subst e'
        rcases remade_one hb.2 with q | q
        · exact absurd rfl q
        · rw [hu q]; exact q1
      · rw [hts d' e']; exact q1

theorem RepF.bind {Pr : PM} {w : World} {fr : Fr} {ts ts' : Array Value} {F : Nat → List Nat} {d : Nat} {sv : SV} {B : List Nat} (h : RepF Pr w fr ts F)
    (hts : ∀ t, t ≠ d → ts'.getD t undef = ts.getD t undef) (hr : RepS Pr w sv (ts'.getD d undef) B) (hn : B.Nodup) (ha : ∀ t, t ≠ d → ∀ b ∈ B, b ∉ F t)
    (hu : sv.isUpd = true → ts'.getD d undef = ts.getD d undef)
    (h0 : ∀ d', sv = .al d' none → d' ≠ d → ts'.getD d undef = ts.getD d' undef)
    (h1 : ∀ d' o, sv = .al d' (some o) → d' ≠ d → ∃ b c T, ts.getD d' undef = .pointer (some ⟨b, 0, none⟩) ∧ b ∈ F d' ∧ w.heap[b]? = some (.cells c T (0, 0)) ∧ c[o]? = some (ts'.getD d undef))
    (h2 : ∀ d' o, sv = .ref d' o → d' ≠ d → ∃ b, ts.getD d' undef = .pointer (some ⟨b, 0, none⟩) ∧ ts'.getD d undef = .pointer (some ⟨b, o, none⟩)) :
    RepF Pr w ((d, sv) :: fr) ts' (fun t => if t = d then B else F t) :=
  h.rebind (PrLe.refl _) (fun _ _ _ _ => ⟨rfl, fun _ => rfl⟩) hts hr hn ha hu h0 h1 h2

/-- Nothing is told of it any more than a plain value. -/
theorem RepF.plain {Pr : PM} {w : World} {fr : Fr} {ts ts' : Array Value} {F : Nat → List Nat} {d : Nat} {sv : SV} (h : RepF Pr w fr ts F)
    (hts : ∀ t, t ≠ d → ts'.getD t undef = ts.getD t undef) (hr : RepS Pr w sv (ts'.getD d undef) [])
    (hk : sv.isUpd = false) (h0 : ∀ d' o, sv ≠ .al d' o) (h2 : ∀ d' o, sv ≠ .ref d' o) :
    RepF Pr w ((d, sv) :: fr) ts' (fun t => if t = d then [] else F t) :=
  h.bind hts hr List.nodup_nil (fun _ _ b hb => by simp at hb) (fun q => by rw [hk] at q; cases q) (fun d' q => absurd q (h0 d' none)) (fun d' o q => absurd q (h0 d' (some o))) (fun d' o q => absurd q (h2 d' o))

/-- Reading a slot. -/
theorem RepS.av {Pr : PM} {w : World} {sv : SV} {v : Value} {B : List Nat} {x : AV} (h : RepS Pr w sv v B) (hx : sv.av = some x) : RepA Pr x v := by
  cases sv with
  | val a => simp only [SV.av, Option.some.injEq] at hx; subst hx; simp only [RepS] at h; exact h.1
  | app es l =>
    simp only [SV.av, Option.some.injEq] at hx; subst hx
    simp only [RepS] at h
    simp only [RepA, RepD, RepC]
    rcases h with ⟨rfl, rfl, _⟩ | ⟨b, off, cap, c, T, rfl, _, _, h1, _, h3, _⟩
    · exact ⟨none, 0, 0, rfl, rfl, Nat.le_refl _, .inl rfl⟩
    · exact ⟨_, _, _, rfl, rfl, h1, .inr ⟨b, off, rfl, h3⟩⟩
  | «at» cs =>
    simp only [SV.av, Option.some.injEq] at hx; subst hx
    simp only [RepS] at h
    simp only [RepA]
    exact h.1
  | _ => simp [SV.av] at hx

theorem RepSs.cell {Pr : PM} {w : World} : ∀ (cs : List SV) (vs : List Value) (Bs : List (List Nat)), RepSs Pr w cs vs Bs → ∀ o v, vs[o]? = some v → ∃ B, Bs[o]? = some B ∧ cs[o]? = some (cellAt o cs) ∧ RepS Pr w (cellAt o cs) v B
  | [], [], [], _, o, v, hv => by simp at hv
  | s :: ss, v' :: vs, B :: Bs, q, o, v, hv => by
    simp only [RepSs] at q
    cases o with
    | zero => simp at hv; subst hv; exact ⟨B, rfl, rfl, q.1⟩
    | succ o =>
      obtain ⟨B', h1, h2, h3⟩ := RepSs.cell ss vs Bs q.2 o v (by simpa using hv)
      exact ⟨B', by simpa using h1, by simpa [cellAt] using h2, h3⟩
  | [], _ :: _, _, q, _, _, _ => by simp [RepSs] at q
  | _ :: _, [], _, q, _, _, _ => by simp [RepSs] at q
  | [], [], _ :: _, q, _, _, _ => by simp [RepSs] at q
  | _ :: _, _ :: _, [], q, _, _, _ => by simp [RepSs] at q
theorem RepSs.length {Pr : PM} {w : World} : ∀ (cs : List SV) (vs : List Value) (Bs : List (List Nat)), RepSs Pr w cs vs Bs → vs.length = cs.length ∧ Bs.length = cs.length
  | [], [], [], _ => by simp
  | s :: ss, v' :: vs, B :: Bs, q => by
    simp only [RepSs] at q
    have := RepSs.length ss vs Bs q.2
    simp [this.1, this.2]
  | [], _ :: _, _, q => by simp [RepSs] at q
  | _ :: _, [], _, q => by simp [RepSs] at q
  | [], [], _ :: _, q => by simp [RepSs] at q
  | _ :: _, _ :: _, [], q => by simp [RepSs] at q

/-- What is told of a slot when aliases are resolved. -/
theorem rdSV_sound {Pr : PM} {w : World} {fr : Fr} {ts : Array Value} {F : Nat → List Nat} (h : RepF Pr w fr ts F) (t : Nat) :
    ∃ B, (∀ b ∈ B, ∃ d, b ∈ F d) ∧ RepS Pr w (rdSV t fr) (ts.getD t undef) B := by
  unfold rdSV
  cases hf : find t fr [] with
  | none => exact ⟨[], by simp, by simp [RepS]⟩
  | some p =>
    obtain ⟨pre, sv, rest⟩ := p
    have hl := find_look t fr [] pre sv rest hf
    have hr := h.rep t
    rw [hl] at hr
    cases sv with
    | al d off =>
      simp only
      cases hb : bound d pre
      · simp only [cond_false]
        have hrest := find_rest t d fr pre _ rest hf hb
        cases off with
        | none =>
          simp only
          have hd := h.rep d
          rw [hrest] at hd
          rw [h.alias0 t pre d rest hf hb]
          exact ⟨F d, fun b hb => ⟨d, hb⟩, hd⟩
        | some o =>
          have hd := h.rep d
          rw [hrest] at hd
          cases hx : look1 d rest with
          | box nw cs =>
            simp only
            rw [hx] at hd
            simp only [RepS] at hd
            obtain ⟨b, c, T, Bs, hv, hb', _, hB, hss⟩ := hd
            obtain ⟨b2, c2, T2, q1, q2, q3, q4⟩ := h.alias1 t pre d o rest hf hb
            rw [hv] at q1
            simp at q1; subst q1
            rw [hb'] at q3
            simp at q3
            obtain ⟨rfl, rfl⟩ := q3
            obtain ⟨B, h1, _, h3⟩ := RepSs.cell cs c.toList Bs hss o (ts.getD t undef) (by rw [← q4]; simp)
            exact ⟨B, fun x hx => ⟨d, by rw [hB]; exact List.mem_cons_of_mem _ (List.mem_flatten.2 ⟨B, List.mem_of_getElem? h1, hx⟩)⟩, h3⟩
          | _ => exact ⟨[], by simp, by simp [RepS]⟩
      · exact ⟨[], by simp, by simp [RepS]⟩
    | _ => exact ⟨F t, fun b hb => ⟨t, hb⟩, hr⟩

theorem rd_sound {Pr : PM} {w : World} {fr : Fr} {ts : Array Value} {F : Nat → List Nat} (h : RepF Pr w fr ts F) {t : Nat} {v : AV} (hv : rd t fr = some v) : RepA Pr v (ts.getD t undef) := by
  obtain ⟨B, _, q⟩ := rdSV_sound h t
  exact q.av hv

theorem constAV_sound (Pr : PM) {c : Value} {v : AV} (h : constAV c = some v) : RepA Pr v c := by
  cases c with
  | bool b => simp only [constAV, Option.some.injEq] at h; subst h; simp [RepA, RepD]
  | int k n => simp only [constAV, Option.some.injEq] at h; subst h; simp [RepA, RepD]
  | string s => simp only [constAV, Option.some.injEq] at h; subst h; simp [RepA, RepD]
  | _ => simp [constAV] at h

theorem rdO_sound {Pr : PM} {w : World} {fr : Fr} {a : Act} {F : Nat → List Nat} (h : RepF Pr w fr a.tmps F) {x : Operand} {v : AV} (hv : rdO fr x = some v) : RepA Pr v (a.eval x) := by
  cases x with
  | tmp t => exact rd_sound h hv
  | const c => exact constAV_sound Pr hv
  | func g =>
    simp only [rdO, Option.some.injEq] at hv; subst hv
    simp only [RepA]
    exact ⟨#[], rfl, by simp [RepAs]⟩
  | _ => simp [rdO] at hv
end Go.Proofs.YtfafmpiajlgojaaDoor.Lg
