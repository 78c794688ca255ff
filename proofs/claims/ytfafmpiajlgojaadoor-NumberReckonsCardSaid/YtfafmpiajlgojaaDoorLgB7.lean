/- Part of a proof of the seat's statements: no statement by itself. -/
import Derived.Test.YtfafmpiajlgojaaDoorLgB6
namespace Go.Proofs.YtfafmpiajlgojaaDoor.Lg
open Go
section
variable {R : Type} {P : Program} {T : Tab} {E : CallE} {o : Oper} {fr : Fr} {K : Fr → Option R} {r : R} {Pr : PM} {w : World} {a : Act} {F : Nat → List Nat}
  {next : Act → World → Prop} {Q : Exit → Act → World → Prop}

theorem at_vals : ∀ (cs : List D) (b o : Nat), (∀ j x, cs[j]? = some x → ∃ u, Pr b (o + j) = some u ∧ RepD Pr x u) → ∃ us, RepDs Pr cs us ∧ ∀ j u, us[j]? = some u → Pr b (o + j) = some u
  | [], _, _, _ => ⟨[], trivial, by simp⟩
  | c :: cs, b, o, h => by
    obtain ⟨u, h1, h2⟩ := h 0 c rfl
    obtain ⟨us, k1, k2⟩ := at_vals cs b (o + 1) (fun j x hj => by
      obtain ⟨u, q1, q2⟩ := h (j + 1) x (by simpa using hj)
      exact ⟨u, by rw [show o + 1 + j = o + (j + 1) by omega]; exact q1, q2⟩)
    refine ⟨u :: us, ⟨h2, k1⟩, fun j v hj => ?_⟩
    cases j with
    | zero => simp at hj; subst hj; simpa using h1
    | succ j => have := k2 j v (by simpa using hj); rw [show o + (j + 1) = o + 1 + j by omega]; exact this

theorem RepDs.take {cs : List D} {vs : List Value} (n : Nat) (h : RepDs Pr cs vs) : RepDs Pr (cs.take n) (vs.take n) := by
  have hl := RepDs.length cs vs h
  refine RepDs.of_get _ _ (by simp [hl]) fun j d v hd hv => ?_
  rw [List.getElem?_take] at hd hv
  split at hd
  · rename_i hj; rw [if_pos hj] at hv; exact RepDs.get cs vs h j d v hd hv
  · cases hd
theorem RepDs.drop {cs : List D} {vs : List Value} (n : Nat) (h : RepDs Pr cs vs) : RepDs Pr (cs.drop n) (vs.drop n) := by
  have hl := RepDs.length cs vs h
  refine RepDs.of_get _ _ (by simp [hl]) fun j d v hd hv => ?_
  rw [List.getElem?_drop] at hd hv
  exact RepDs.get cs vs h _ d v hd hv

theorem run_loadAt {t : TypeId} {i : TI} (tf : TyF P t i) {b o : Nat} {us : List Value} (hl : us.length = i.sh.length) (hc : ∀ j u, us[j]? = some u → w.cell? ⟨b, o + j, none⟩ = some u) :
    (i.agg = true → (Instr.loadAt t (.pointer (some ⟨b, o, none⟩))).run P w = .ok (.agg us.toArray) w) ∧ (i.agg = false → ∀ u rest, us = u :: rest → (Instr.loadAt t (.pointer (some ⟨b, o, none⟩))).run P w = .ok u w) := by
  constructor
  · intro ha
    have := run_loadCells_list (P := P) w ⟨b, o, none⟩ us (fun j v hj => by rw [Addr.add_lit]; exact hc j v hj)
    rw [hl] at this
    simp [Instr.loadAt, Instr.sureAddr, loadVar, tf.run_isAgg, ha, tf.run_sizeOf, this]
  · intro ha u rest hu
    have := hc 0 u (by simp [hu])
    simp at this
    simp [Instr.loadAt, Instr.sureAddr, loadVar, tf.run_isAgg, ha, this]

theorem RepSs.cellsD : ∀ (cs : List SV) (vs : List Value) (Bs : List (List Nat)) (ds : List D), RepSs Pr w cs vs Bs → Lg.cellsD cs = some ds → RepDs Pr ds vs
  | [], [], [], ds, _, h => by simp [Lg.cellsD] at h; subst h; trivial
  | c :: cs, v :: vs, B :: Bs, ds, q, h => by
    simp only [RepSs] at q
    simp only [Lg.cellsD] at h
    split at h
    · rename_i x l h1 h2
      simp at h; subst h
      exact ⟨by have := q.1.av h1; simpa only [RepA] using this, RepSs.cellsD cs vs Bs l q.2 h2⟩
    · cases h
  | [], _ :: _, _, _, q, _ => by simp [RepSs] at q
  | _ :: _, [], _, _, q, _ => by simp [RepSs] at q
  | [], [], _ :: _, _, q, _ => by simp [RepSs] at q
  | _ :: _, _ :: _, [], _, q, _ => by simp [RepSs] at q
theorem RepSs.drop : ∀ (n : Nat) (cs : List SV) (vs : List Value) (Bs : List (List Nat)), RepSs Pr w cs vs Bs → RepSs Pr w (cs.drop n) (vs.drop n) (Bs.drop n)
  | 0, _, _, _, q => by simpa using q
  | n + 1, [], [], [], q => by simpa using q
  | n + 1, c :: cs, v :: vs, B :: Bs, q => by simp only [RepSs] at q; simpa using RepSs.drop n cs vs Bs q.2
  | _, [], _ :: _, _, q => by simp [RepSs] at q
  | _, _ :: _, [], _, q => by simp [RepSs] at q
  | _, [], [], _ :: _, q => by simp [RepSs] at q
  | _, _ :: _, _ :: _, [], q => by simp [RepSs] at q
theorem RepSs.take : ∀ (n : Nat) (cs : List SV) (vs : List Value) (Bs : List (List Nat)), RepSs Pr w cs vs Bs → RepSs Pr w (cs.take n) (vs.take n) (Bs.take n)
  | 0, _, _, _, q => by simp [RepSs]
  | n + 1, [], [], [], q => by simpa using q
  | n + 1, c :: cs, v :: vs, B :: Bs, q => by simp only [RepSs] at q; simp only [List.take_succ_cons, RepSs]; exact ⟨q.1, RepSs.take n cs vs Bs q.2⟩
  | _, [], _ :: _, _, q => by simp [RepSs] at q
  | _, _ :: _, [], _, q => by simp [RepSs] at q
  | _, [], [], _ :: _, q => by simp [RepSs] at q
  | _, _ :: _, _ :: _, [], q => by simp [RepSs] at q

theorem cellAt_lt : ∀ (o : Nat) (cs : List SV), cellAt o cs ≠ .unk → o < cs.length
  | _, [], h => by simp [cellAt] at h
  | 0, c :: cs, _ => by simp
  | o + 1, c :: cs, h => by simp only [cellAt] at h; have := cellAt_lt o cs h; simp; omega

theorem op_load {t : TypeId} {x : Operand} (hC : Cx P T) (ho : o.op = .load t x) (hev : evOp T E o fr K = some r) (hF : RepF Pr w fr a.tmps F) (hP : PrOK Pr w) (hd : DOK o a) (hn : Nx K r o.dst Pr w a F next) : o.wp P a w next Q := by
  simp only [evOp, ho] at hev
  replace hev := withT_some hev; obtain ⟨i, hi, hev⟩ := hev
  obtain ⟨tf⟩ := hC.facts hi
  split at hev
  · rename_i s
    split at hev
    · rename_i pre cs rest hf
      have hr := hF.rep s
      rw [find_look s fr [] _ _ _ hf] at hr
      simp only [RepS] at hr
      obtain ⟨⟨b, off, hv, hat⟩, _⟩ := hr
      obtain ⟨us, hus, hcell⟩ := at_vals cs b off hat
      have hlen := RepDs.length cs us hus
      unfold part at hev
      cases ha : i.agg
      · rw [ha, cond_false] at hev
        cases hcs : cs with
        | nil => simp [hcs] at hev
        | cons c cs' =>
          simp [hcs] at hev
          cases hu : us with
          | nil => rw [hu, hcs] at hlen; simp at hlen
          | cons u us' =>
            rw [hu, hcs] at hus
            have h1 : w.cell? ⟨b, off, none⟩ = some u := hP _ _ _ (by have := hcell 0 u (by simp [hu]); simpa using this)
            refine wp_value (v := u) (w' := w) ?_ (finV hF hP hd hn (x := .d c) (by simp only [RepA]; exact hus.1) hev)
            simp [execOp, ho, Act.eval, hv, Instr.loadAt, Instr.sureAddr, loadVar, tf.run_isAgg, ha, h1]
      · rw [ha, cond_true] at hev
        cases hb : Nat.ble (0 + i.sh.length) cs.length
        · rw [hb] at hev; simp at hev
        · rw [hb] at hev
          have hb' := Nat.le_of_ble_eq_true hb
          simp at hev
          have := (run_loadAt (w := w) tf (b := b) (o := off) (us := us.take i.sh.length) (by simp [hlen]; omega) (fun j u hj => by
            rw [List.getElem?_take] at hj
            split at hj
            · exact hP _ _ _ (hcell j u hj)
            · cases hj)).1 ha
          refine wp_value (v := .agg (us.take i.sh.length).toArray) (w' := w) (by simp [execOp, ho, Act.eval, hv, this]) (finV hF hP hd hn (x := .agg (cs.take i.sh.length)) ?_ hev)
          simp only [RepA]
          exact ⟨_, rfl, by simpa using hus.take i.sh.length⟩
    · rename_i d off hr _
      cases hbx : boxOf d fr with
      | none => simp [hbx] at hev
      | some cs =>
        simp only [hbx] at hev
        obtain ⟨b, c, T', nw, Bs, hv, hv0, hl, hbl, hpr, hB, hss⟩ := root_sound hF hr hbx
        cases ha : i.agg
        · simp only [ha, cond_false] at hev
          split at hev
          · rename_i v hcv
            have hlt := cellAt_lt off cs (by rw [hcv]; simp)
            have hlen := RepSs.length cs c.toList Bs hss
            have hoff : off < c.size := by have := hlen.1; simp at this; omega
            have hu : c[off]? = some c[off] := by simp [hoff]
            obtain ⟨B, _, _, h3⟩ := RepSs.cell cs c.toList Bs hss off c[off] (by simp)
            rw [hcv] at h3
            refine wp_value (v := c[off]) (w' := w) ?_ (finV hF hP hd hn (h3.av rfl) hev)
            simp [execOp, ho, Act.eval, hv, Instr.loadAt, Instr.sureAddr, loadVar, tf.run_isAgg, ha, cell_cells hbl, hu]
          · rename_i es l hcv
            have hlt := cellAt_lt off cs (by rw [hcv]; simp)
            have hlen := RepSs.length cs c.toList Bs hss
            have hoff : off < c.size := by have := hlen.1; simp at this; omega
            have hu : c[off]? = some c[off] := by simp [hoff]
            refine wp_value (v := c[off]) (w' := w) ?_ (fin hd hn hF hP (Ext.refl _ _ _) sub_self (B := []) (by simp [RepS]) List.nodup_nil (by simp) (by simp) rfl (by simp) ?_ (by simp) hev)
            · simp [execOp, ho, Act.eval, hv, Instr.loadAt, Instr.sureAddr, loadVar, tf.run_isAgg, ha, cell_cells hbl, hu]
            · intro d' o' h; cases h
              exact ⟨b, c, T', hv0, by rw [hB]; exact List.mem_cons_self, hbl, hu⟩
          · cases hev
        · simp only [ha, cond_true] at hev
          split at hev
          · rename_i ds hds
            cases hb : Nat.beq ds.length i.sh.length
            · rw [hb] at hev; simp at hev
            · rw [hb, cond_true] at hev
              have hb' := Nat.eq_of_beq_eq_true hb
              have h1 := RepSs.cellsD _ _ _ ds (RepSs.take i.sh.length _ _ _ (RepSs.drop off _ _ _ hss)) hds
              have hl1 := RepDs.length _ _ h1
              have := (run_loadAt (w := w) tf (b := b) (o := off) (us := (c.toList.drop off).take i.sh.length) (by rw [hl1, hb']) (fun j u hj => by
                rw [cell_cells hbl]
                rw [List.getElem?_take] at hj
                split at hj
                · rw [List.getElem?_drop] at hj; simpa using hj
                · cases hj)).1 ha
              refine wp_value (v := .agg ((c.toList.drop off).take i.sh.length).toArray) (w' := w) (by simp only [execOp, ho, Act.eval, hv]; simp [this]) (finV hF hP hd hn (x := .agg ds) ?_ hev)
              simp only [RepA]
              exact ⟨_, rfl, h1⟩
          · cases hev
    · cases hev
  · cases hev

/-- Writing into a variable of one's own: the cells from off on are new. -/
theorem RepSs.setAt : ∀ (o : Nat) (xs : List SV) (us : List Value) (Cs : List (List Nat)) (cs : List SV) (vs : List Value) (Bs : List (List Nat)), RepSs Pr w cs vs Bs → RepSs Pr w xs us Cs → o + xs.length ≤ cs.length →
    RepSs Pr w (Lg.setAt o xs cs) (vs.take o ++ us ++ vs.drop (o + us.length)) (Bs.take o ++ Cs ++ Bs.drop (o + us.length))
  | 0, [], [], [], cs, vs, Bs, h, _, _ => by
    have : Lg.setAt 0 [] cs = cs := by cases cs <;> simp [Lg.setAt]
    simpa [this] using h
  | 0, x :: xs, u :: us, C :: Cs, c :: cs, v :: vs, B :: Bs, h, k, hl => by
    simp only [RepSs] at h k
    have := RepSs.setAt 0 xs us Cs cs vs Bs h.2 k.2 (by simp at hl ⊢; omega)
    simp only [Lg.setAt, List.take_zero, List.nil_append, List.cons_append, List.length_cons, Nat.zero_add, List.drop_succ_cons] at this ⊢
    simp only [RepSs]
    exact ⟨k.1, this⟩
  | o + 1, xs, us, Cs, c :: cs, v :: vs, B :: Bs, h, k, hl => by
    simp only [RepSs] at h
    have := RepSs.setAt o xs us Cs cs vs Bs h.2 k (by simp at hl; omega)
    have e : Lg.setAt (o + 1) xs (c :: cs) = c :: Lg.setAt o xs cs := by
      cases xs with
      | nil => have : Lg.setAt o [] cs = cs := by cases cs <;> cases o <;> simp [Lg.setAt]
               simp [Lg.setAt, this]
      | cons x xs => simp [Lg.setAt]
    rw [e, show o + 1 + us.length = (o + us.length) + 1 by omega]
    simp only [List.take_succ_cons, List.cons_append, List.drop_succ_cons, RepSs]
    exact ⟨h.1, this⟩
  | o + 1, xs, us, Cs, [], vs, Bs, h, k, hl => by simp at hl
  | 0, x :: xs, us, Cs, [], vs, Bs, h, k, hl => by simp at hl
  | 0, [], _ :: _, _, _, _, _, _, k, _ => by simp [RepSs] at k
  | 0, [], [], _ :: _, _, _, _, _, k, _ => by simp [RepSs] at k
  | 0, _ :: _, [], _, _, _, _, _, k, _ => by simp [RepSs] at k
  | 0, _ :: _, _ :: _, [], _, _, _, _, k, _ => by simp [RepSs] at k
  | 0, _ :: _, _ :: _, _ :: _, _ :: _, [], _, h, _, _ => by simp [RepSs] at h
  | 0, _ :: _, _ :: _, _ :: _, _ :: _, _ :: _, [], h, _, _ => by simp [RepSs] at h
  | _ + 1, _, _, _, _ :: _, [], _, h, _, _ => by simp [RepSs] at h
  | _ + 1, _, _, _, _ :: _, _ :: _, [], h, _, _ => by simp [RepSs] at h

theorem flatten_part (Bs : List (List Nat)) (o n : Nat) : ∀ b ∈ (Bs.take o ++ Bs.drop (o + n)).flatten, b ∈ Bs.flatten := by
  intro b hb
  obtain ⟨B, h1, h2⟩ := List.mem_flatten.1 hb
  refine List.mem_flatten.2 ⟨B, ?_, h2⟩
  rcases List.mem_append.1 h1 with h | h
  · exact List.mem_of_mem_take h
  · exact List.mem_of_mem_drop h
theorem sublist_part (Bs : List (List Nat)) (o n : Nat) : (Bs.take o ++ Bs.drop (o + n)).Sublist Bs := by
  have h1 : (Bs.drop (o + n)).Sublist (Bs.drop o) := by
    rw [← List.drop_drop]; exact List.drop_sublist _ _
  have := (List.Sublist.refl (Bs.take o)).append h1
  rwa [List.take_append_drop] at this
theorem sub_flatten {l m : List (List Nat)} (h : l.Sublist m) : l.flatten.Sublist m.flatten := by
  induction h with
  | slnil => exact List.Sublist.refl _
  | cons a _ ih => exact ih.trans (List.sublist_append_right _ _)
  | cons_cons a _ ih => exact (List.Sublist.refl a).append ih
theorem nodup_part (Bs : List (List Nat)) (o n : Nat) (h : Bs.flatten.Nodup) : (Bs.take o ++ Bs.drop (o + n)).flatten.Nodup :=
  (sub_flatten (sublist_part Bs o n)).nodup h

/-- The store itself. frame fr1 (its claims F1), new cells xs told of the values us, claims Cs. -/
theorem store_core {t : TypeId} {i : TI} {s d off : Nat} {cs xs : List SV} {fr1 : Fr} {F1 : Nat → List Nat} {v : Value} {Cs : List (List Nat)} {x y : Operand}
    (tf : TyF P t i) (ho : o.op = .store t x y) (hx : a.eval x = a.tmps.getD s undef) (hy : a.eval y = v) (hF1 : RepF Pr w fr1 a.tmps F1) (hsub : ∀ t' b, b ∈ F1 t' → ∃ t'', b ∈ F t'')
    (hP : PrOK Pr w) (hd : DOK o a) (hn : Nx K r o.dst Pr w a F next) {b : Nat} {c : Array Value} {T' : TypeId} {nw : Bool} {Bs : List (List Nat)}
    (hv : a.tmps.getD s undef = .pointer (some ⟨b, off, none⟩)) (hv0 : a.tmps.getD d undef = .pointer (some ⟨b, 0, none⟩)) (hl : look1 d fr1 = .box nw cs) (hbl : w.heap[b]? = some (.cells c T' (0, 0)))
    (hpr : ∀ o, Pr b o = none) (hB : F1 d = b :: Bs.flatten) (hss : RepSs Pr w cs c.toList Bs)
    (hus : RepSs Pr w xs v.cells.toList Cs) (hone : ∀ u ∈ v.cells.toList, u.oneCell' = true) (hsz : v.cells.size = i.sh.length) (hfit : off + xs.length ≤ cs.length)
    (hCn : Cs.flatten.Nodup) (hCa : ∀ t', ∀ b' ∈ Cs.flatten, b' ∉ F1 t') (hCs : ∀ b' ∈ Cs.flatten, ∃ t', b' ∈ F t')
    (hdst : o.dst = none) (hK : K ((d, .box false (Lg.setAt off xs cs)) :: fr1) = some r) : o.wp P a w next Q := by
  have hlen := RepSs.length cs c.toList Bs hss
  have hulen := RepSs.length xs v.cells.toList Cs hus
  have hrun : (storeCells ⟨b, off, none⟩ v.cells.toList 0).run P w = .ok () (w.setRow b (c.toList.take off ++ v.cells.toList ++ c.toList.drop (off + v.cells.toList.length)).toArray) := by
    have := run_storeCells_at P b off T' v.cells.toList 0 c w hbl (by simp at hlen hulen ⊢; omega) hone
    simpa using this
  have hw : (execOp a.eval o).run P w = .ok .skip (w.setRow b (c.toList.take off ++ v.cells.toList ++ c.toList.drop (off + v.cells.toList.length)).toArray) := by
    simp only [execOp, ho, hx, hv, hy, Instr.storeAt, Instr.sureAddr, storeVar, Sem.run_bind, Sem.run_pure, Result.andThen_ok, tf.run_sizeOf, hsz, ne_eq, not_true_eq_false, if_false, hrun]
  refine wp_skip' hw ?_
  generalize hw' : w.setRow b (c.toList.take off ++ v.cells.toList ++ c.toList.drop (off + v.cells.toList.length)).toArray = w'
  have hbl' : w'.heap[b]? = some (.cells (c.toList.take off ++ v.cells.toList ++ c.toList.drop (off + v.cells.toList.length)).toArray T' (0, 0)) := by
    rw [← hw']; exact setRow_heap w b c _ T' (0, 0) hbl
  have hoth : ∀ k, k ≠ b → w'.heap[k]? = w.heap[k]? := fun k hk => by rw [← hw']; exact setRow_other w b k _ hk
  have hsize : w'.heap.size = w.heap.size := by rw [← hw']; simp
  have hbd : b ∈ F1 d := by rw [hB]; exact List.mem_cons_self
  have hnd := hF1.nodup d
  rw [hB] at hnd
  have hnd2 := List.nodup_cons.1 hnd
  have hkeep : ∀ (B : List Nat), b ∉ B → Keeps B Pr w Pr w' := fun B hb b' hb' => ⟨hoth b' (fun e => hb (e ▸ hb')), fun _ => rfl⟩
  have hCb : b ∉ Cs.flatten := fun q => hCa d b q hbd
  have hnew : RepS Pr w' (.box false (Lg.setAt off xs cs)) (a.tmps.getD d undef) (b :: (Bs.take off ++ Cs ++ Bs.drop (off + v.cells.toList.length)).flatten) := by
    simp only [RepS]
    refine ⟨b, _, T', _, hv0, hbl', hpr, rfl, ?_⟩
    have h1 := RepSs.mono (PrLe.refl Pr) cs c.toList Bs (hkeep _ hnd2.1) hss
    have h2 := RepSs.mono (PrLe.refl Pr) xs v.cells.toList Cs (hkeep _ hCb) hus
    simpa using RepSs.setAt off xs v.cells.toList Cs cs c.toList Bs h1 h2 hfit
  have hperm : ∀ b', b' ∈ (Bs.take off ++ Cs ++ Bs.drop (off + v.cells.toList.length)).flatten ↔ b' ∈ (Bs.take off ++ Bs.drop (off + v.cells.toList.length)).flatten ∨ b' ∈ Cs.flatten := by
    intro b'; simp only [List.flatten_append, List.mem_append]; exact ⟨fun h => h.elim (fun h => h.elim (fun h => .inl (.inl h)) .inr) (fun h => .inl (.inr h)), fun h => h.elim (fun h => h.elim (fun h => .inl (.inl h)) .inr) (fun h => .inl (.inr h))⟩
  have hnod : (Bs.take off ++ Cs ++ Bs.drop (off + v.cells.toList.length)).flatten.Nodup := by
    have h1 := nodup_part Bs off v.cells.toList.length hnd2.2
    simp only [List.flatten_append] at h1 ⊢
    rw [List.append_assoc]
    rw [List.nodup_append] at h1
    obtain ⟨p1, p2, p3⟩ := h1
    rw [List.nodup_append]
    have hc1 : ∀ x ∈ Cs.flatten, ∀ y ∈ Bs.flatten, x ≠ y := fun x hx y hy e => hCa d x hx (by rw [hB, e]; exact List.mem_cons_of_mem _ hy)
    have q1 : ∀ x ∈ (Bs.take off).flatten, x ∈ Bs.flatten := fun x hx => flatten_part Bs off v.cells.toList.length x (by rw [List.flatten_append]; exact List.mem_append_left _ hx)
    have q2 : ∀ x ∈ (Bs.drop (off + v.cells.toList.length)).flatten, x ∈ Bs.flatten := fun x hx => flatten_part Bs off v.cells.toList.length x (by rw [List.flatten_append]; exact List.mem_append_right _ hx)
    refine ⟨p1, List.nodup_append.2 ⟨hCn, p2, fun x hx y hy => hc1 x hx y (q2 y hy)⟩, fun x hx y hy => ?_⟩
    rcases List.mem_append.1 hy with hy | hy
    · exact fun e => hc1 y hy x (q1 x hx) e.symm
    · exact p3 x hx y hy
  have hfin : RepF Pr w' ((d, .box false (Lg.setAt off xs cs)) :: fr1) a.tmps (fun t => if t = d then b :: (Bs.take off ++ Cs ++ Bs.drop (off + v.cells.toList.length)).flatten else F1 t) := by
    refine hF1.rebind (PrLe.refl _) (fun t ht => hkeep _ (fun q => hF1.apart t d ht b q hbd)) (fun _ _ => rfl) hnew ?_ ?_ (fun _ => rfl) (by simp) (by simp) (by simp)
    · refine List.nodup_cons.2 ⟨fun q => ?_, hnod⟩
      rcases (hperm b).1 q with q | q
      · exact hnd2.1 (flatten_part _ _ _ b q)
      · exact hCb q
    · intro t ht b' hb' q
      rcases List.mem_cons.1 hb' with rfl | hb'
      · exact hF1.apart t d ht _ q hbd
      · rcases (hperm b').1 hb' with h | h
        · exact hF1.apart t d ht _ q (by rw [hB]; exact List.mem_cons_of_mem _ (flatten_part _ _ _ b' h))
        · exact hCa t b' h q
  have hP' : PrOK Pr w' := hP.setRow hbl _ (fun o v h => by rw [hpr] at h; cases h) w' hbl' hoth
  have hx' : Ext (fun b => ∃ t, b ∈ F t) Pr w Pr w' := by
    refine ⟨by rw [← hw']; rfl, by rw [← hw']; rfl, by rw [← hw']; rfl, by omega, PrLe.refl _, fun k hk hna => ⟨hoth k (fun e => ?_), fun _ => rfl⟩⟩
    subst e; exact hna (hsub d _ hbd)
  rw [hdst] at hn ⊢
  refine hn undef _ Pr w' _ hK hfin hP' hx' ?_
  intro t b' hb'
  by_cases e : t = d
  · rw [if_pos e] at hb'
    rcases List.mem_cons.1 hb' with rfl | hb'
    · exact .inl (hsub d _ hbd)
    · rcases (hperm b').1 hb' with h | h
      · exact .inl (hsub d b' (by rw [hB]; exact List.mem_cons_of_mem _ (flatten_part _ _ _ b' h)))
      · exact .inl (hCs b' h)
  · rw [if_neg e] at hb'; exact .inl (hsub t b' hb')
end
end Go.Proofs.YtfafmpiajlgojaaDoor.Lg
