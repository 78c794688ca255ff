/- Part of a proof of the seat's statements: no statement by itself. -/
import Derived.Test.YtfafmpiajlgojaaDoorLgB8
namespace Go.Proofs.YtfafmpiajlgojaaDoor.Lg
open Go
section
variable {R : Type} {P : Program} {T : Tab} {E : CallE} {o : Oper} {fr : Fr} {K : Fr → Option R} {r : R} {Pr : PM} {w : World} {a : Act} {F : Nat → List Nat}
  {next : Act → World → Prop} {Q : Exit → Act → World → Prop}

theorem root_ptr {ts : Array Value} {t d off : Nat} (h : RepF Pr w fr ts F) (hr : root t fr = some (d, off)) : ∃ b, ts.getD t undef = .pointer (some ⟨b, off, none⟩) ∧ ts.getD d undef = .pointer (some ⟨b, 0, none⟩) := by
  have box : ∀ {d nw cs}, look1 d fr = .box nw cs → ∃ b, ts.getD d undef = .pointer (some ⟨b, 0, none⟩) := by
    intro d nw cs hl
    have hd := h.rep d
    rw [hl] at hd
    simp only [RepS] at hd
    obtain ⟨b, c, T', Bs, hv, _⟩ := hd
    exact ⟨b, hv⟩
  unfold root at hr
  cases hf : find t fr [] with
  | none => simp [hf] at hr
  | some p =>
    obtain ⟨pre, sv, rest⟩ := p
    rw [hf] at hr
    cases sv with
    | box nw' cs' =>
      simp at hr; obtain ⟨rfl, rfl⟩ := hr
      obtain ⟨b, hb⟩ := box (find_look t fr [] _ _ _ hf)
      exact ⟨b, hb, hb⟩
    | al d' o' =>
      cases o' with
      | none =>
        simp only at hr
        cases hbd : bound d' pre
        · rw [hbd, cond_false] at hr
          have ha := h.alias0 t pre d' rest hf hbd
          have hl := find_rest t d' fr pre _ rest hf hbd
          cases hx : look1 d' rest <;> simp [hx] at hr
          obtain ⟨rfl, rfl⟩ := hr
          obtain ⟨b, hb⟩ := box (hl.trans hx)
          exact ⟨b, by rw [ha]; exact hb, hb⟩
        · rw [hbd, cond_true] at hr; cases hr
      | some _ => simp at hr
    | ref d' o' =>
      simp only at hr
      cases hbd : remade d' pre
      · rw [hbd, cond_false] at hr
        simp at hr
        obtain ⟨rfl, rfl⟩ := hr
        obtain ⟨b', q1, q2⟩ := h.ref t pre d' o' rest hf hbd
        exact ⟨b', q2, q1⟩
      · rw [hbd, cond_true] at hr; cases hr
    | _ => simp at hr

theorem finRef {d off : Nat} {b : Nat} (hF : RepF Pr w fr a.tmps F) (hP : PrOK Pr w) (hd : DOK o a) (hn : Nx K r o.dst Pr w a F next)
    (hv0 : a.tmps.getD d undef = .pointer (some ⟨b, 0, none⟩)) (hK : K (dset o.dst (.ref d off) fr) = some r) : next (a.put o.dst (.pointer (some ⟨b, off, none⟩))) w :=
  fin hd hn hF hP (Ext.refl _ _ _) sub_self (B := []) (by simp [RepS]) List.nodup_nil (by simp) (by simp) rfl (by simp) (by simp) (by intro d' o' h; cases h; exact ⟨b, hv0, rfl⟩) hK
theorem finAt {cs : List D} {v : Value} (hF : RepF Pr w fr a.tmps F) (hP : PrOK Pr w) (hd : DOK o a) (hn : Nx K r o.dst Pr w a F next)
    (hr : ∃ b o, v = .pointer (some ⟨b, o, none⟩) ∧ ∀ j x, cs[j]? = some x → ∃ u, Pr b (o + j) = some u ∧ RepD Pr x u) (hK : K (dset o.dst (.at cs) fr) = some r) : next (a.put o.dst v) w :=
  fin hd hn hF hP (Ext.refl _ _ _) sub_self (B := []) (by simp only [RepS]; exact ⟨hr, trivial⟩) List.nodup_nil (by simp) (by simp) rfl (by simp) (by simp) (by simp) hK

theorem op_fieldAddr {t : TypeId} {x : Operand} {f : Nat} (hC : Cx P T) (ho : o.op = .fieldAddr t x f) (hev : evOp T E o fr K = some r) (hF : RepF Pr w fr a.tmps F) (hP : PrOK Pr w) (hd : DOK o a) (hn : Nx K r o.dst Pr w a F next) : o.wp P a w next Q := by
  simp only [evOp, ho] at hev
  replace hev := withT_some hev; obtain ⟨i, hi, hev⟩ := hev
  obtain ⟨tf⟩ := hC.facts hi
  have run : ∀ {off n b o'} (s : Nat), i.flds[f]? = some (off, n) → a.tmps.getD s undef = .pointer (some ⟨b, o', none⟩) → x = .tmp s → (execOp a.eval o).run P w = .ok (.value (.pointer (some ⟨b, o' + off, none⟩))) w := by
    intro off n b o' s hfl hv hx
    obtain ⟨fs, fld, h1, h2, h3, h4, h5, ⟨g, h6, h7⟩, h8⟩ := tf.field hfl
    subst hx
    simp [execOp, ho, Act.eval, Instr.fieldAt, run_underlying h1, h2, hv, Instr.sureAddr, fieldPlace, Go.sizeOf, run_typeInfo w h6, h7, h8, Addr.add_lit, h3]
  split at hev
  · rename_i s
    split at hev
    · rename_i pre cs rest off n hf hfl
      have hr := hF.rep s
      rw [find_look s fr [] _ _ _ hf] at hr
      simp only [RepS] at hr
      obtain ⟨⟨b, o', hv, hat⟩, _⟩ := hr
      refine wp_value (run s hfl hv rfl) (finAt hF hP hd hn ⟨b, o' + off, rfl, fun j x hj => ?_⟩ hev)
      rw [List.getElem?_take] at hj
      split at hj
      · rw [List.getElem?_drop] at hj
        obtain ⟨u, h1, h2⟩ := hat _ x hj
        exact ⟨u, by rw [Nat.add_assoc]; exact h1, h2⟩
      · cases hj
    · rename_i off n d o' hfl hr _
      obtain ⟨b, hv, hv0⟩ := root_ptr hF hr
      exact wp_value (run s hfl hv rfl) (finRef hF hP hd hn hv0 hev)
    · cases hev
  · cases hev

theorem run_part_agg {t : Nat} {j : TI} (tf : TyF P t j) (ha : j.agg = true) (vs : Array Value) (off : Nat) : (Go.part t vs off).run P w = .ok (.agg (vs.extract off (off + j.sh.length))) w := by
  simp [Go.part, tf.run_isAgg, ha, tf.run_sizeOf]
theorem run_part_one {t : Nat} {j : TI} (tf : TyF P t j) (ha : j.agg = false) {vs : Array Value} {off : Nat} {v : Value} (h : vs[off]? = some v) : (Go.part t vs off).run P w = .ok v w := by
  simp [Go.part, tf.run_isAgg, ha, h]
theorem part_sound {t : Nat} {j : TI} (tf : TyF P t j) {off : Nat} {cs : List D} {vs : Array Value} {v : AV} (h : Lg.part j.agg off j.sh.length cs = some v) (hr : RepDs Pr cs vs.toList) :
    ∃ u, (Go.part t vs off).run P w = .ok u w ∧ RepA Pr v u := by
  unfold Lg.part at h
  have hl := RepDs.length _ _ hr
  cases ha : j.agg
  · rw [ha, cond_false] at h
    split at h
    · rename_i x rest hx
      simp at h; subst h
      have h1 : cs[off]? = some x := by have := congrArg (·[0]?) hx; simpa using this
      have hlt : off < vs.size := by have := (List.getElem?_eq_some_iff.1 h1).1; simp at hl; omega
      refine ⟨vs[off], run_part_one tf ha (by simp [hlt]), ?_⟩
      simp only [RepA]
      exact RepDs.get cs vs.toList hr off x _ h1 (by simp [hlt])
    · cases h
  · rw [ha, cond_true] at h
    cases hb : Nat.ble (off + j.sh.length) cs.length
    · rw [hb] at h; simp at h
    · rw [hb, cond_true] at h
      simp at h; subst h
      refine ⟨_, run_part_agg tf ha vs off, ?_⟩
      simp only [RepA]
      refine ⟨_, rfl, ?_⟩
      have := (hr.drop off).take j.sh.length
      rw [Array.toList_extract, List.extract_eq_take_drop, Nat.add_sub_cancel_left]
      exact this

theorem op_field {t : TypeId} {x : Operand} {f : Nat} (hC : Cx P T) (ho : o.op = .field t x f) (hev : evOp T E o fr K = some r) (hF : RepF Pr w fr a.tmps F) (hP : PrOK Pr w) (hd : DOK o a) (hn : Nx K r o.dst Pr w a F next) : o.wp P a w next Q := by
  simp only [evOp, ho] at hev
  replace hev := withT_some hev; obtain ⟨i, hi, hev⟩ := hev
  replace hev := withT_some hev; obtain ⟨j, hj, hev⟩ := hev
  obtain ⟨tf⟩ := hC.facts hi
  obtain ⟨tj⟩ := hC.facts hj
  split at hev
  · rename_i cs off n ft hx hfl hft
    replace hev := bif_some hev; obtain ⟨e1, hev⟩ := hev
    replace hev := bif_some hev; obtain ⟨e2, hev⟩ := hev
    have e1 := Nat.eq_of_beq_eq_true e1
    have e2 := Nat.eq_of_beq_eq_true e2
    subst e1; subst e2
    split at hev
    · rename_i v hv
      obtain ⟨fs, fld, h1, h2, h3, h4, _⟩ := tf.field hfl
      rw [hft] at h4; simp at h4
      have hr := rdO_sound hF hx
      simp only [RepA] at hr
      obtain ⟨vs, hvs, hds⟩ := hr
      obtain ⟨u, hu, hru⟩ := part_sound (w := w) tj hv hds
      refine wp_value (v := u) (w' := w) ?_ (finV hF hP hd hn hru hev)
      simp only [execOp, ho, Instr.field, Sem.run_bind, run_underlying h1, Result.andThen_ok, h2, asAgg, hvs, Sem.run_pure, h3, ← h4, hu]
    · cases hev
  · cases hev

theorem getR_get {es : List Sh} {l : List (RowE es)} {n : Int} (h : 0 ≤ n ∧ n < l.length) : l[n.toNat]? = some (getR es l n) := by
  unfold getR
  have : n.toNat < l.length := by omega
  simp [this]

theorem op_indexAddr {t : TypeId} {x y : Operand} (hC : Cx P T) (ho : o.op = .indexAddr t x y) (hev : evOp T E o fr K = some r) (hF : RepF Pr w fr a.tmps F) (hP : PrOK Pr w) (hd : DOK o a) (hn : Nx K r o.dst Pr w a F next) : o.wp P a w next Q := by
  simp only [evOp, ho] at hev
  replace hev := withT_some hev; obtain ⟨i, hi, hev⟩ := hev
  obtain ⟨tf⟩ := hC.facts hi
  split at hev
  · rename_i s k n hy
    have hyr := rdO_sound hF hy
    simp only [RepA, RepD] at hyr
    split at hev
    · rename_i len m d o' harr hr
      obtain ⟨⟨h0, h1⟩, hev⟩ := chk_some hev
      obtain ⟨b, hv, hv0⟩ := root_ptr hF hr
      obtain ⟨e, g, hu, hg, hgs, hm, _⟩ := tf.array harr
      refine wp_value (v := .pointer (some ⟨b, o' + n.toNat * m, none⟩)) (w' := w) ?_ (finRef hF hP hd hn hv0 hev)
      simp [execOp, ho, (show a.eval (.tmp s) = _ from hv), hyr, Instr.indexAt, asIntOf, run_underlying hu, Instr.sureAddr, h0, h1, Go.sizeOf, run_typeInfo w hg, hgs, Addr.add_lit]
    · rename_i harr
      split at hev
      · rename_i es l hx
        split at hev
        · rename_i hes _
          cases ha : i.agg
          · rw [ha, cond_false] at hev
            replace hev := bif_some hev; obtain ⟨hpos, hev⟩ := hev
            obtain ⟨hlt, hev⟩ := chk_some hev
            have hxr := rd_sound hF hx
            have hes' := hes.down
            subst hes'
            simp only [RepA, RepD, RepC] at hxr
            obtain ⟨p, len, cap, hv, hl, hc, hrow⟩ := hxr
            have hne : l ≠ [] := by rintro rfl; simp at hlt; omega
            replace hrow := hrow.resolve_left hne; obtain ⟨b, off, rfl, hrow⟩ := hrow
            have hine : i.es ≠ [] ∨ ∃ es, i.sh = [.sl es] := .inl (by rintro q; simp [q] at hpos)
            obtain ⟨ef⟩ := tf.slice ha hine
            refine wp_value (v := .pointer (some ⟨b, off + n.toNat * i.es.length, none⟩)) (w' := w) ?_ (finAt hF hP hd hn ⟨b, _, rfl, rowD_rep _ _ _ _ (hrow _ _ (getR_get hlt))⟩ hev)
            simp [execOp, ho, (show a.eval (.tmp s) = _ from hv), hyr, Instr.indexAt, asIntOf, run_underlying ef.hd, hl, hlt.1, hlt.2, ef.run_size, Addr.add_lit]
          · rw [ha, cond_true] at hev; cases hev
        · cases hev
      · cases hev
    · cases hev
  · cases hev
end
end Go.Proofs.YtfafmpiajlgojaaDoor.Lg
