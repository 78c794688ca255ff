/- Part of a proof of the seat's statements: no statement by itself. -/
import Derived.Test.YtfafmpiajlgojaaDoorLgB13
namespace Go.Proofs.YtfafmpiajlgojaaDoor.Lg
open Go
section
variable {R : Type} {P : Program} {T : Tab} {E : CallE} {o : Oper} {fr : Fr} {K : Fr → Option R} {r : R} {Pr : PM} {w : World} {a : Act} {F : Nat → List Nat}
  {next : Act → World → Prop} {Q : Exit → Act → World → Prop}

theorem first_cells {es : List Sh} {l : List (RowE es)} {p : Option Addr} {cap : Nat} (hP : PrOK Pr w) (hrow : l = [] ∨ ∃ b off, p = some ⟨b, off, none⟩ ∧ ∀ i x, l[i]? = some x → RepRow Pr es x b (off + i * es.length)) :
    ∃ uss, RowsVals Pr es l uss ∧ ∀ n : Nat, (Builtin.firstCells es.length l.length (.slice p l.length cap)).run P { w with drawn := n } = .ok uss.flatten.toArray { w with drawn := n } := by
  by_cases hl : l = []
  · subst hl
    refine ⟨[], trivial, fun n => ?_⟩
    cases p <;> simp [Builtin.firstCells, loadCells, loadCellsFrom]
  · replace hrow := hrow.resolve_left hl; obtain ⟨b, off, rfl, hrow⟩ := hrow
    obtain ⟨uss, h1, h2⟩ := rows_vals l off hrow
    refine ⟨uss, h1, fun n => ?_⟩
    have := run_loadCells_list (P := P) { w with drawn := n } ⟨b, off, none⟩ uss.flatten (fun j v hj => by rw [Addr.add_lit]; exact hP _ _ _ (h2 j v hj))
    rw [RowsVals.length l uss h1] at this
    simpa [Builtin.firstCells] using this

theorem op_append {c : Call} (hC : Cx P T) (ho : o.op = .call c) (hc : c.callee = .builtin .append) (hev : evOp T E o fr K = some r) (hF : RepF Pr w fr a.tmps F) (hP : PrOK Pr w) (hd : DOK o a) (hn : Nx K r o.dst Pr w a F next) : o.wp P a w next Q := by
  simp only [evOp, ho, hc, evAppend] at hev
  split at hev
  · rename_i t u s x htys hargs
    replace hev := withT_some hev; obtain ⟨i, hi, hev⟩ := hev
    replace hev := withT_some hev; obtain ⟨i', hi', hev⟩ := hev
    obtain ⟨tf⟩ := hC.facts hi
    obtain ⟨tu⟩ := hC.facts hi'
    have hA : c.args = #[.tmp s, x] := by apply Array.toList_inj.1; simpa using hargs
    have hT : c.argTypes = #[t, u] := by apply Array.toList_inj.1; simpa using htys
    split at hev
    · rename_i es l fr' es' l' hg hx
      split at hev
      · rename_i q1 q2 q3 g1 g2 g3
        have e2 := q2.down; have e3 := q3.down
        subst q1
        cases hb : (i.agg || i'.agg || es'.isEmpty)
        · rw [hb, cond_false] at hev
          simp only [Bool.or_eq_false_iff] at hb
          obtain ⟨⟨ha, ha'⟩, hne⟩ := hb
          have hne' : es' ≠ [] := by rintro rfl; simp at hne
          obtain ⟨hlim, hev⟩ := chk_some hev
          obtain ⟨ef⟩ := tf.slice ha (.inl (e2 ▸ hne'))
          obtain ⟨eu⟩ := tu.slice ha' (.inl (e3 ▸ hne'))
          have hxr := rdO_sound hF hx
          simp only [RepA, RepD, RepC] at hxr
          obtain ⟨px, lenx, capx, hvx, hlenx, hcx, hrowx⟩ := hxr
          subst hlenx
          obtain ⟨uss, hu1, hu2⟩ := first_cells (P := P) (cap := capx) hP hrowx
          obtain ⟨B, F', h1, h2, h3, h4, h5, h6⟩ := grow_sound hF hg
          have hsz : ∀ w', (Go.sizeOf ef.e).run P w' = .ok es'.length w' := fun w' => by rw [e2]; exact ef.run_size w'
          have hfl := RowsVals.length l' uss hu1
          have hone := RowsVals.one l' uss hu1
          have hpos : 0 < es'.length := List.length_pos_iff.2 hne'
          have hux : ∀ w', (underlying u).run P w' = .ok (.slice eu.e) w' := fun w' => run_underlying eu.hd w'
          have hu0 := hu2 w.drawn
          obtain ⟨vs, hvs⟩ : ∃ vs, a.tmps.getD s undef = vs := ⟨_, rfl⟩
          have hvs' : a.eval (.tmp s) = vs := hvs
          rw [hvs] at h2
          -- what the machine does
          have start : ∀ {v : Value} {w' : World}, (Builtin.append_ #[t, u] o.type #[vs, .slice px l'.length capx]).run P w = .ok v w' → (execOp a.eval o).run P w = .ok (.value v) w' := by
            intro v w' h
            simp only [execOp, ho, resolve, hc]
            simp [invoke, builtin, hA, hT, hvx, hvs', h]
          simp only [RepS] at h2
          have fresh : ∀ (p : Option Addr) (n cp : Nat), vs = .slice p n cp → n = l.length → n ≤ cp → cp < n + l'.length → (l = [] ∨ ∃ b off, p = some ⟨b, off, none⟩ ∧ ∀ i x, l[i]? = some x → RepRow Pr es' x b (off + i * es'.length)) → o.wp P a w next Q := by
            intro p n cp hv hn' hcp hgt hrow
            subst hn'
            obtain ⟨vss, hv1, hv2⟩ := first_cells (P := P) (cap := cp) hP hrow
            have hvl := RowsVals.length l vss hv1
            have hbnd : Builtin.nextslicecap (l.length + l'.length) cp * i.eb ≤ 281474976710656 := by
              have := nextslicecap_le (need := l.length + l'.length) (old := cp) hgt
              have h' : ((l.length : Int) + l'.length) * i.eb < 140737488355328 := hlim
              have hcst : (((l.length + l'.length) * i.eb : Nat) : Int) = ((l.length : Int) + l'.length) * i.eb := by rw [Int.natCast_mul, Int.natCast_add]
              have h'' : (l.length + l'.length) * i.eb < 140737488355328 := by rw [← hcst] at h'; omega
              calc _ ≤ 2 * (l.length + l'.length) * i.eb := Nat.mul_le_mul_right _ this
                _ = 2 * ((l.length + l'.length) * i.eb) := by rw [Nat.mul_assoc]
                _ ≤ _ := by omega
            have hnotle : ¬ (l.length + l'.length ≤ cp) := by omega
            generalize hcap : grownCap w (l.length + l'.length) cp ef.e = ncap
            have hncap : l.length + l'.length ≤ ncap := by rw [← hcap]; exact grownCap_ge _ _ _ _
            have hrun : (Builtin.append_ #[t, u] o.type #[vs, .slice px l'.length capx]).run P w =
                .ok (.slice (some ⟨w.heap.size, 0, none⟩) (l.length + l'.length) ncap) (w.drew.alloc (.cells (vss.flatten.toArray ++ uss.flatten.toArray ++ Builtin.zeroCells ef.z.cells (ncap - (l.length + l'.length))) ef.e)) := by
              have hv2' : (Builtin.firstCells es'.length l.length (.slice p l.length cp)).run P w.drew = .ok vss.flatten.toArray w.drew := hv2 (w.drawn + 1)
              have hu2' : (Builtin.firstCells es'.length l'.length (.slice px l'.length capx)).run P w.drew = .ok uss.flatten.toArray w.drew := hu2 (w.drawn + 1)
              have hb0 : i.eb ≠ 0 := ef.hb ▸ ef.hb0
              have hnc : ¬ (281474976710656 < Builtin.nextslicecap (l.length + l'.length) cp * i.eb) := by omega
              rw [hv, ← hcap]
              simp [Builtin.append_, run_underlying ef.hd, hux, hsz, Builtin.lenOf, hnotle, run_typeInfo _ ef.hf, ef.hb, hb0, hnc, Question.forced, hv2', hu2', ef.run_zero, newRow, grownCap]
              congr 2
              apply Array.ext'
              simp [List.append_assoc]
            have hzs : (Builtin.zeroCells ef.z.cells (ncap - (l.length + l'.length))).size = (ncap - (l.length + l'.length)) * es'.length := by
              have : ef.z.cells.size = es'.length := by
                have : ∀ (es : List Sh) (vs : List Value), zerosB es vs = true → vs.length = es.length := by
                  intro es
                  induction es with
                  | nil => intro vs h; cases vs <;> simp_all [zerosB]
                  | cons e es ih => intro vs h; cases vs with
                    | nil => simp [zerosB] at h
                    | cons v vs => simp only [zerosB, Bool.and_eq_true] at h; simp [ih vs h.2]
                have := this _ _ ef.hzb
                rw [e2]; simpa using this
              rw [size_zeroCells, this]
            refine wp_value (start hrun) ?_
            have hfin := finRow (l := l ++ l') (vss := vss ++ uss) (c := vss.flatten.toArray ++ uss.flatten.toArray ++ Builtin.zeroCells ef.z.cells (ncap - (l.length + l'.length))) (e := ef.e) (cap := ncap) (n := w.drawn + 1) h1 (fun t b hb => ⟨t, h3 t b hb⟩) hP hd hn (RowsVals.append _ _ _ _ hv1 hu1) (fun j v hj => by
              rw [List.flatten_append] at hj
              have hlt := (List.getElem?_eq_some_iff.1 hj).1
              rw [Array.getElem?_append_left (by simpa using hlt)]
              simpa using hj) (by simpa using hncap) (by
                simp only [Array.size_append, hzs, List.size_toArray, hvl, hfl]
                rw [← Nat.add_mul, ← Nat.add_mul]
                refine Nat.mul_le_mul_right _ ?_
                omega) hev
            rw [List.length_append] at hfin
            exact hfin
          rcases h2 with ⟨hv, hl0, hB0⟩ | ⟨b, off, cap, cc, T', hv, hB1, hbl, hcap, hfit, hrows, hspare⟩
          · subst hl0
            by_cases hz : l' = []
            · subst hz
              have hrun : (Builtin.append_ #[t, u] o.type #[vs, .slice px 0 capx]).run P w = .ok (.slice none 0 0) w := by
                have hu0' := hu2 w.drawn
                rw [hv]
                simp only [List.length_nil] at hu0'
                have hflat : uss.flatten = [] := List.eq_nil_of_length_eq_zero (by simpa using hfl)
                rw [hflat] at hu0'
                simp [Builtin.append_, run_underlying ef.hd, hux, hsz, Builtin.lenOf, hu0']
              refine wp_value (start hrun) (fin hd hn h1 hP (Ext.refl _ _ _) (fun t b hb => .inl ⟨t, h3 t b hb⟩) (B := []) (RepS_nil es' Pr w) List.nodup_nil (by simp) (by simp) rfl (by simp) (by simp) (by simp) hev)
            · have hpl' : 0 < l'.length := List.length_pos_iff.2 hz
              exact fresh none 0 0 hv rfl (Nat.le_refl _) (by simpa using hpl') (.inl rfl)
          · by_cases hroom : l.length + l'.length ≤ cap
            · -- in place
              have hcs : off + l.length * es'.length + uss.flatten.length ≤ cc.size := by
                rw [hfl]
                have := Nat.mul_le_mul_right es'.length hroom
                rw [Nat.add_mul] at this; omega
              have hst := run_storeCells_at P b (off + l.length * es'.length) T' uss.flatten 0 cc w hbl (by simpa using hcs) hone
              simp only [Nat.add_zero] at hst
              generalize hw' : w.setRow b (cc.toList.take (off + l.length * es'.length) ++ uss.flatten ++ cc.toList.drop (off + l.length * es'.length + uss.flatten.length)).toArray = w' at hst
              have hrun : (Builtin.append_ #[t, u] o.type #[vs, .slice px l'.length capx]).run P w = .ok (.slice (some ⟨b, off, none⟩) (l.length + l'.length) cap) w' := by
                have hu0' := hu2 w.drawn
                rw [hv]
                simp [Builtin.append_, run_underlying ef.hd, hux, hsz, Builtin.lenOf, hroom, Addr.add_lit]
                rw [show ({ w with drawn := w.drawn } : World) = w from rfl] at hu0'
                simp [hu0', hst]
              have hbl' : w'.heap[b]? = some (.cells (cc.toList.take (off + l.length * es'.length) ++ uss.flatten ++ cc.toList.drop (off + l.length * es'.length + uss.flatten.length)).toArray T' (0, 0)) := by
                rw [← hw']; exact setRow_heap w b cc _ T' (0, 0) hbl
              have hoth : ∀ k, k ≠ b → w'.heap[k]? = w.heap[k]? := fun k hk => by rw [← hw']; exact setRow_other w b k _ hk
              have hsize : w'.heap.size = w.heap.size := by rw [← hw']; simp
              have hbB : b ∈ B := by rw [hB1]; simp
              have hbF : ∀ t, b ∉ F' t := fun t => h5 t b hbB
              have hle : PrLe Pr (prExt Pr b (off + l.length * es'.length) uss.flatten) := prExt_le hspare
              have hlow : ∀ o', o' < off + l.length * es'.length → (cc.toList.take (off + l.length * es'.length) ++ uss.flatten ++ cc.toList.drop (off + l.length * es'.length + uss.flatten.length)).toArray[o']? = cc[o']? := by
                intro o' ho'
                rw [List.getElem?_toArray, List.append_assoc, List.getElem?_append_left (by simp; omega), List.getElem?_take, if_pos ho']
                simp
              have hP' : PrOK (prExt Pr b (off + l.length * es'.length) uss.flatten) w' := by
                intro b' o' v hv'
                simp only [prExt] at hv'
                split at hv'
                · rename_i hq
                  obtain ⟨rfl, g1, g2⟩ := hq
                  have htl : (List.take (off + l.length * es'.length) cc.toList).length = off + l.length * es'.length := by rw [List.length_take]; simp; omega
                  rw [cell_cells hbl', List.getElem?_toArray, List.append_assoc, List.getElem?_append_right (by rw [htl]; exact g1), htl, List.getElem?_append_left (by omega)]
                  exact hv'
                · by_cases e : b' = b
                  · subst e
                    have hlt : o' < off + l.length * es'.length := by
                      rcases Nat.lt_or_ge o' (off + l.length * es'.length) with h | h
                      · exact h
                      · rw [hspare o' h] at hv'; cases hv'
                    rw [cell_cells hbl', hlow o' hlt, ← cell_cells hbl]; exact hP _ _ _ hv'
                  · have := hP b' o' v hv'
                    simp only [World.cell?, hoth b' e] at this ⊢; exact this
              have hk : ∀ t, Keeps (F' t) Pr w (prExt Pr b (off + l.length * es'.length) uss.flatten) w' := fun t b' hb' =>
                ⟨hoth b' (by intro e; subst e; exact hbF t hb'), fun o' => prExt_other (by intro e; subst e; exact hbF t hb') o'⟩
              have hx' : Ext (fun b => ∃ t, b ∈ F t) Pr w (prExt Pr b (off + l.length * es'.length) uss.flatten) w' := by
                refine ⟨by rw [← hw']; rfl, by rw [← hw']; rfl, by rw [← hw']; rfl, by omega, hle, fun k hk hna => ?_⟩
                have hkb : k ≠ b := by intro e; subst e; exact hna (h4 _ hbB)
                exact ⟨hoth k hkb, fun o' => prExt_other hkb o'⟩
              refine wp_value (start hrun) (fin hd hn (h1.mono hle hk) hP' hx' (fun t b hb => .inl ⟨t, h3 t b hb⟩) (B := B) ?_ h6 h5 (fun b' hb' => .inl (h4 b' hb')) rfl (by simp) (by simp) (by simp) hev)
              simp only [RepS]
              right
              have hvals := rows_vals l off hrows
              obtain ⟨vss, hv1, hv2⟩ := hvals
              refine ⟨b, off, cap, _, T', by simp, hB1, hbl', by simpa using hroom, ?_, ?_, ?_⟩
              · simp; omega
              · intro j x hj
                refine vals_rows (l ++ l') (vss ++ uss) off (RowsVals.append _ _ _ _ (RowsVals.mono' hle _ _ hv1) (RowsVals.mono' hle _ _ hu1)) ?_ j x hj
                intro q v hq
                rw [List.flatten_append] at hq
                have hvl := RowsVals.length l vss hv1
                by_cases hql : q < vss.flatten.length
                · rw [List.getElem?_append_left hql] at hq; exact hle _ _ _ (hv2 q v hq)
                · rw [List.getElem?_append_right (by omega)] at hq
                  have := prExt_at (Pr := Pr) (b := b) (lo := off + l.length * es'.length) hq
                  rw [show off + l.length * es'.length + (q - vss.flatten.length) = off + q by omega] at this
                  exact this
              · intro o' ho'
                simp only [List.length_append, Nat.add_mul] at ho'
                simp only [prExt]
                rw [if_neg (by omega)]
                exact hspare o' (by omega)
            · exact fresh _ _ _ hv rfl hcap (by omega) (.inr ⟨b, off, rfl, hrows⟩)
        · rw [hb, cond_true] at hev; cases hev
      · cases hev
    · cases hev
  · cases hev
end
end Go.Proofs.YtfafmpiajlgojaaDoor.Lg
