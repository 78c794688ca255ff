/- Part of a proof of the seat's statements: no statement by itself. -/
import Derived.Test.YtfafmpiajlgojaaDoorLgB7
namespace Go.Proofs.YtfafmpiajlgojaaDoor.Lg
open Go
section
variable {R : Type} {P : Program} {T : Tab} {E : CallE} {o : Oper} {fr : Fr} {K : Fr → Option R} {r : R} {Pr : PM} {w : World} {a : Act} {F : Nat → List Nat}
  {next : Act → World → Prop} {Q : Exit → Act → World → Prop}

theorem TyF.one {t : Nat} {i : TI} (tf : TyF P t i) (ha : i.agg = false) : i.sh.length = 1 := by
  obtain ⟨d, f, z, hd, hf, hs, hz, hzb, desc⟩ := tf
  cases d <;> simp only [descB, ha, shB_iff, Bool.and_eq_true] at desc <;> first | (simp at desc; done) | (rw [desc.1.1.1.2]; rfl) | (rw [desc.1.1.1.1.2]; rfl)

theorem op_store {t : TypeId} {x y : Operand} (hC : Cx P T) (ho : o.op = .store t x y) (hev : evOp T E o fr K = some r) (hF : RepF Pr w fr a.tmps F) (hP : PrOK Pr w) (hd : DOK o a) (hn : Nx K r o.dst Pr w a F next) : o.wp P a w next Q := by
  simp only [evOp, ho] at hev
  have hdst : o.dst = none := by
    cases h : o.dst with
    | none => rfl
    | some d => simp [h] at hev
  simp only [hdst, Option.isSome_none, cond_false] at hev
  replace hev := withT_some hev; obtain ⟨i, hi, hev⟩ := hev
  obtain ⟨tf⟩ := hC.facts hi
  split at hev
  · rename_i s
    split at hev
    · rename_i d off hr
      split at hev
      · -- a nil slice
        rename_i ha
        split at hev
        · rename_i cs hbx
          cases hb : Nat.blt off cs.length
          · rw [hb] at hev; simp at hev
          · rw [hb, cond_true] at hev
            have hb' : off < cs.length := by have := Nat.le_of_ble_eq_true (n := off + 1) (m := cs.length) hb; omega
            obtain ⟨b, c, T', nw, Bs, hv, hv0, hl, hbl, hpr, hB, hss⟩ := root_sound hF hr hbx
            refine store_core (Cs := [[]]) tf ho rfl rfl hF (fun t' b hb => ⟨t', hb⟩) hP hd hn hv hv0 hl hbl hpr hB hss ?_ ?_ ?_ (by simp; omega) (by simp) (by simp) (by simp) hdst hev
            · simp [Act.eval, Value.cells, RepSs, RepS]
            · simp [Act.eval, Value.cells, Value.oneCell']
            · simp [Act.eval, Value.cells, tf.one ha]
        · cases hev
      · rename_i y' ha
        split at hev
        · rename_i es l fr' hg
          split at hev
          · rename_i cs hbx
            cases hb : Nat.blt off cs.length
            · rw [hb] at hev; simp at hev
            · rw [hb, cond_true] at hev
              have hb' : off < cs.length := by have := Nat.le_of_ble_eq_true (n := off + 1) (m := cs.length) hb; omega
              obtain ⟨B, F', h1, h2, h3, h4, h5, h6⟩ := grow_sound hF hg
              -- the box behind the taking
              have hbox : ∃ nw, look1 d fr' = .box nw cs := by
                unfold boxOf at hbx
                cases hl : look1 d fr' <;> simp [hl] at hbx
                subst hbx; exact ⟨_, rfl⟩
              obtain ⟨nw, hbox⟩ := hbox
              have hd' := h1.rep d
              rw [hbox] at hd'
              simp only [RepS] at hd'
              obtain ⟨b, c, T', Bs, hv0, hbl, hpr, hB, hss⟩ := hd'
              -- the address
              have hbx0 : ∃ cs0, boxOf d fr = some cs0 := by
                unfold root at hr
                cases hf : find s fr [] with
                | none => simp [hf] at hr
                | some p =>
                  obtain ⟨pre, sv, rest⟩ := p
                  rw [hf] at hr
                  cases sv with
                  | box nw' cs' => simp at hr; obtain ⟨rfl, rfl⟩ := hr; exact ⟨cs', by simp [boxOf, find_look s fr [] _ _ _ hf]⟩
                  | al d' o' =>
                    cases o' with
                    | none =>
                      simp only at hr
                      cases hbd : bound d' pre
                      · rw [hbd, cond_false] at hr
                        cases hx : look1 d' rest <;> simp [hx] at hr
                        rename_i nw' cs'
                        obtain ⟨rfl, rfl⟩ := hr
                        exact ⟨cs', by simp [boxOf, find_rest s d' fr pre _ rest hf hbd, hx]⟩
                      · rw [hbd, cond_true] at hr; cases hr
                    | some _ => simp at hr
                  | ref d' o' =>
                    simp only at hr
                    cases hbd : remade d' pre
                    · rw [hbd, cond_false] at hr
                      simp at hr
                      obtain ⟨rfl, rfl⟩ := hr
                      cases hq : boxOf d' fr with
                      | some cs0 => exact ⟨cs0, rfl⟩
                      | none =>
                        exfalso
                        unfold boxOf at hq
                        -- a slot that is no box before is none behind
                        have hne : ∀ nw cs, look1 d' fr ≠ .box nw cs := by
                          intro nw cs q; simp [q] at hq
                        unfold grow at hg
                        split at hg
                        · simp only [Option.some.injEq, Sigma.mk.injEq] at hg
                          obtain ⟨rfl, hg⟩ := hg
                          simp only [heq_eq_eq, Prod.mk.injEq] at hg
                          obtain ⟨_, rfl⟩ := hg
                          simp only [look1] at hbox
                          cases hbb : Nat.beq y' d'
                          · rw [hbb, cond_false] at hbox; exact hne _ _ hbox
                          · rw [hbb, cond_true] at hbox; cases hbox
                        · rename_i pre2 d2 off2 rest2 hf2
                          cases hb2 : bound d2 pre2
                          · rw [hb2, cond_false] at hg
                            split at hg
                            · simp only [Option.some.injEq, Sigma.mk.injEq] at hg
                              obtain ⟨rfl, hg⟩ := hg
                              simp only [heq_eq_eq, Prod.mk.injEq] at hg
                              obtain ⟨_, rfl⟩ := hg
                              simp only [look1] at hbox
                              cases hbb : Nat.beq d2 d'
                              · rw [hbb, cond_false] at hbox; exact hne _ _ hbox
                              · rw [hbb, cond_true] at hbox; cases hbox
                            · rename_i o2 nw2 cs2 hl2
                              split at hg
                              · simp only [Option.some.injEq, Sigma.mk.injEq] at hg
                                obtain ⟨rfl, hg⟩ := hg
                                simp only [heq_eq_eq, Prod.mk.injEq] at hg
                                obtain ⟨_, rfl⟩ := hg
                                simp only [look1] at hbox
                                cases hbb : Nat.beq d2 d'
                                · rw [hbb, cond_false] at hbox; exact hne _ _ hbox
                                · have e := Nat.eq_of_beq_eq_true hbb
                                  subst e
                                  have := find_rest y' d2 fr pre2 _ rest2 hf2 hb2
                                  rw [hl2] at this
                                  exact hne _ _ this
                              · cases hg
                            · cases hg
                          · rw [hb2, cond_true] at hg; cases hg
                        · cases hg
                    · rw [hbd, cond_true] at hr; cases hr
                  | _ => simp at hr
              obtain ⟨cs0, hbx0⟩ := hbx0
              obtain ⟨b0, c0, T0, nw0, Bs0, hv, hv00, _⟩ := root_sound hF hr hbx0
              have eb : b0 = b := by rw [hv0] at hv00; simp at hv00; exact hv00.symm
              subst eb
              have hu : ∃ p n cp, a.tmps.getD y' undef = .slice p n cp := by
                simp only [RepS] at h2
                rcases h2 with ⟨h2, _⟩ | ⟨b, off, cap, c, T', h2, _⟩
                · exact ⟨_, _, _, h2⟩
                · exact ⟨_, _, _, h2⟩
              obtain ⟨p, n, cp, hu⟩ := hu
              refine store_core (Cs := [B]) (fr1 := fr') tf ho rfl rfl h1 (fun t' b hb => ⟨t', h3 t' b hb⟩) hP hd hn hv hv0 hbox hbl hpr hB hss ?_ ?_ ?_ (by simp; omega) (by simpa using h6) (by simpa using h5) (by simpa using h4) hdst hev
              · simp only [Act.eval, hu, Value.cells, RepSs]
                rw [hu] at h2; exact ⟨h2, trivial⟩
              · simp [Act.eval, hu, Value.cells, Value.oneCell']
              · simp [Act.eval, hu, Value.cells, tf.one ha]
          · cases hev
        · split at hev
          · rename_i cs v hbx hv1
            cases hb : Nat.blt off cs.length
            · rw [hb] at hev; simp at hev
            · rw [hb, cond_true] at hev
              have hb' : off < cs.length := by have := Nat.le_of_ble_eq_true (n := off + 1) (m := cs.length) hb; omega
              obtain ⟨b, c, T', nw, Bs, hv, hv0, hl, hbl, hpr, hB, hss⟩ := root_sound hF hr hbx
              have hrv := rd_sound hF hv1
              have hcl := hrv.cells (cs := [v]) rfl
              have h1 := RepDs.length _ _ hcl
              refine store_core (Cs := [[]]) tf ho rfl rfl hF (fun t' b hb => ⟨t', hb⟩) hP hd hn hv hv0 hl hbl hpr hB hss ?_ ?_ ?_ (by simp; omega) (by simp) (by simp) (by simp) hdst hev
              · exact vals_rep [v] _ hcl
              · exact RepDs.one _ _ hcl
              · rw [tf.one ha]; simpa [Act.eval] using h1
          · cases hev
      · split at hev
        · rename_i cs ds hbx hds
          cases hb1 : Nat.beq ds.length i.sh.length
          · rw [hb1] at hev; simp at hev
          · rw [hb1, cond_true] at hev
            cases hb : Nat.ble (off + ds.length) cs.length
            · rw [hb] at hev; simp at hev
            · rw [hb, cond_true] at hev
              obtain ⟨b, c, T', nw, Bs, hv, hv0, hl, hbl, hpr, hB, hss⟩ := root_sound hF hr hbx
              obtain ⟨vv, hx, hds⟩ := Option.bind_eq_some_iff.1 hds
              have hcl := (rdO_sound hF hx).cells hds
              have h1 := RepDs.length _ _ hcl
              refine store_core (Cs := ds.map fun _ => []) tf ho rfl rfl hF (fun t' b hb => ⟨t', hb⟩) hP hd hn hv hv0 hl hbl hpr hB hss ?_ ?_ ?_ (by simpa using Nat.le_of_ble_eq_true hb) (by rw [flatten_nils]; exact List.nodup_nil) (by rw [flatten_nils]; simp) (by rw [flatten_nils]; simp) hdst hev
              · exact vals_rep ds _ hcl
              · exact RepDs.one _ _ hcl
              · rw [← Nat.eq_of_beq_eq_true hb1, ← h1]; simp
        · cases hev
    · cases hev
  · cases hev
end
end Go.Proofs.YtfafmpiajlgojaaDoor.Lg
