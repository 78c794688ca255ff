/- Part of a proof of the seat's statements: no statement by itself. -/
import Derived.Test.YtoopcfjmmhmamaaLgB1
namespace Go.Proofs.Ytoopcfjmmhmamaa.Lg
open Go
section
variable {R : Type} {P : Program} {T : Tab} {E : CallS} {o : Oper} {fr : Fr} {K : Fr → Option R} {r : R} {Pr : PM} {w : World} {a : Act} {F : Nat → List Nat}
  {next : Act → World → Prop} {Q : Exit → Act → World → Prop}

theorem first_cells {es : List Sh} {l : List (RowE es)} {p : Option Addr} {cap : Nat} (hP : PrOK Pr w) (hrow : l = [] ∨ ∃ b off, p = some ⟨b, off, none⟩ ∧ ∀ i x, l[i]? = some x → RepRow Pr es x b (off + i * es.length)) :
    ∃ uss, RowsVals Pr es l uss ∧ ∀ n : Nat, (Builtin.firstCells es.length l.length (.slice p l.length cap)).run P { w with drawn := n } = .ok uss.flatten.toArray { w with drawn := n } := by
  by_cases hl : l = []
  · subst hl
    refine ⟨[], trivial, fun n => ?_⟩
    cases p <;> simp [Builtin.firstCells, loadCells, loadCellsFrom]
  · replace hrow := hrow.resolve_left hl; obtain ⟨b, off, rfl, hrow⟩ := hrow
    obtain ⟨uss, h1, h2⟩ := rows_vals l off hrow
    refine ⟨uss, h1, fun n => ?_⟩
    have := run_loadCells_list (P := P) { w with drawn := n } ⟨b, off, none⟩ uss.flatten (fun j v hj => by rw [Addr.add_lit]; exact hP _ _ _ (h2 j v hj))
    rw [RowsVals.length l uss h1] at this
    simpa [Builtin.firstCells] using this

/-! ### A slice that is owned whole -/
theorem RowsVals.take {es : List Sh} : ∀ (n : Nat) (l : List (RowE es)) (vss : List (List Value)), RowsVals Pr es l vss → RowsVals Pr es (l.take n) (vss.take n)
  | 0, _, _, _ => by simp [RowsVals]
  | n + 1, [], [], _ => by simp [RowsVals]
  | n + 1, r :: l, vs :: vss, h => ⟨h.1, RowsVals.take n l vss h.2⟩
  | _ + 1, [], _ :: _, h => by simp [RowsVals] at h
  | _ + 1, _ :: _, [], h => by simp [RowsVals] at h
theorem RowsVals.take_flat {es : List Sh} : ∀ (n : Nat) (l : List (RowE es)) (vss : List (List Value)), RowsVals Pr es l vss → ∀ (j : Nat) (v : Value), (vss.take n).flatten[j]? = some v → vss.flatten[j]? = some v
  | 0, _, _, _, j, v, hj => by simp at hj
  | n + 1, [], [], _, j, v, hj => by simp at hj
  | n + 1, r :: l, vs :: vss, h, j, v, hj => by
    rw [List.take_succ_cons, List.flatten_cons] at hj
    rw [List.flatten_cons]
    by_cases q : j < vs.length
    · rw [List.getElem?_append_left q] at hj ⊢; exact hj
    · rw [List.getElem?_append_right (by omega)] at hj ⊢
      exact RowsVals.take_flat n l vss h.2 _ v hj
  | _ + 1, [], _ :: _, h, _, _, _ => by simp [RowsVals] at h
  | _ + 1, _ :: _, [], h, _, _, _ => by simp [RowsVals] at h
theorem zero_size {i : TI} {t : TypeId} (ef : ElF P t i) : ef.z.cells.size = i.es.length := by
  have : ∀ (es : List Sh) (vs : List Value), zerosB es vs = true → vs.length = es.length := by
    intro es
    induction es with
    | nil => intro vs h; cases vs <;> simp_all [zerosB]
    | cons e es ih => intro vs h; cases vs with
      | nil => simp [zerosB] at h
      | cons v vs => simp only [zerosB, Bool.and_eq_true] at h; simp [ih vs h.2]
  simpa using this _ _ ef.hzb
/-- A new row that is owned whole. -/
theorem finOwn {es : List Sh} {l : List (RowE es)} {vss : List (List Value)} {c : Array Value} {e : TypeId} {cap : Nat} {n : Nat} {fr1 : Fr} {F1 : Nat → List Nat} (hF : RepF Pr w fr1 a.tmps F1) (hsub : ∀ t b, b ∈ F1 t → ∃ t', b ∈ F t') (hP : PrOK Pr w) (hd : DOK o a) (hn : Nx K r o.dst Pr w a F next)
    (hv : RowsVals Pr es l vss) (hc : ∀ (j : Nat) (v : Value), vss.flatten[j]? = some v → c[j]? = some v) (hcap : l.length ≤ cap) (hsz : cap * es.length ≤ c.size)
    (hK : K (dset o.dst (.own es l) fr1) = some r) :
    next (a.put o.dst (.slice (some ⟨w.heap.size, 0, none⟩) l.length cap)) { w with heap := w.heap.push (.cells c e), drawn := n } := by
  have hx0 : Ext (fun b => ∃ t, b ∈ F t) Pr w Pr { w with heap := w.heap.push (.cells c e), drawn := n } := (Ext.push _ Pr w _).drew n
  have hP1 : PrOK Pr { w with heap := w.heap.push (.cells c e), drawn := n } := hP.push (.cells c e)
  have h1 : RepF Pr { w with heap := w.heap.push (.cells c e), drawn := n } fr1 a.tmps F1 := hF.mono (PrLe.refl _) fun t b hb => by
    have := hF.lt t b hb
    exact ⟨by simp only [Array.getElem?_push]; rw [if_neg (by omega)], fun _ => rfl⟩
  refine fin hd hn h1 hP1 hx0 (fun t b hb => .inl (hsub t b hb)) (B := [w.heap.size]) ?_ (by simp) ?_ (by simp) rfl (by simp) (by simp) (by simp) hK
  · simp only [RepS]
    right
    exact ⟨w.heap.size, 0, cap, c, e, vss, rfl, rfl, by simp, hcap, by omega, fun o' _ => hP.new o', hv, fun j v hj => by rw [Nat.zero_add]; exact hc j v hj⟩
  · intro t b hb q
    simp at hb; subst hb
    exact absurd (hF.lt t _ q) (by omega)
theorem op_appendOwn {c : Call} {t u : TypeId} {i i' : TI} {s d hi : Nat} {es : List Sh} {l : List (RowE es)} {x : Operand} (tf : TyF P t i) (tu : TyF P u i') (ho : o.op = .call c) (hc : c.callee = .builtin .append) (hA : c.args = #[.tmp s, x]) (hT : c.argTypes = #[t, u])
    (hvw : view s fr = some (d, 0, hi, ⟨es, l⟩))
    (hev : (match rdO fr x with
      | some (.d (.sl es' l')) => match Sh.eqs? es' es, Sh.eqs? es i.es, Sh.eqs? es i'.es with
        | some ⟨h⟩, some _, some _ => bif i.agg || i'.agg || es.isEmpty then none else chk (((hi : Int) + l'.length) * i.eb < lim) (K (dset o.dst (.own es (l.take hi ++ (h ▸ l'))) ((d, .unk) :: fr)))
        | _, _, _ => none
      | _ => none) = some r) (hF : RepF Pr w fr a.tmps F) (hP : PrOK Pr w) (hd : DOK o a) (hn : Nx K r o.dst Pr w a F next) : o.wp P a w next Q := by
  obtain ⟨hl, ⟨p, len, cap, q1, q2, q3, q4⟩, hbl, p', cap', r1, r2, r3⟩ := view_sound hF hvw
  rw [q1] at r1
  simp only [Value.slice.injEq] at r1
  obtain ⟨rfl, rfl, rfl⟩ := r1
  rw [Nat.zero_mul, addr0, ite_self, Nat.sub_zero, Nat.sub_zero] at q4
  split at hev
  · rename_i es' l' hx
    split at hev
    · rename_i e1 e2 e3 g1 g2 g3
      have e2 := e2.down; have e3 := e3.down
      subst e1
      cases hb : (i.agg || i'.agg || es'.isEmpty)
      · rw [hb, cond_false] at hev
        simp only [Bool.or_eq_false_iff] at hb
        obtain ⟨⟨ha, ha'⟩, hne⟩ := hb
        have hne' : es' ≠ [] := by rintro rfl; simp at hne
        obtain ⟨hlim, hev⟩ := chk_some hev
        obtain ⟨ef⟩ := tf.slice ha (.inl (e2 ▸ hne'))
        obtain ⟨eu⟩ := tu.slice ha' (.inl (e3 ▸ hne'))
        have hxr := rdO_sound hF hx
        simp only [RepA, RepD, RepC] at hxr
        obtain ⟨px, lenx, capx, hvx, hlenx, hcx, hrowx⟩ := hxr
        subst hlenx
        obtain ⟨uss, hu1, hu2⟩ := first_cells (P := P) (cap := capx) hP hrowx
        have hsz : ∀ w', (Go.sizeOf ef.e).run P w' = .ok es'.length w' := fun w' => by rw [e2]; exact ef.run_size w'
        have hfl := RowsVals.length l' uss hu1
        have hone := RowsVals.one l' uss hu1
        have hpos : 0 < es'.length := List.length_pos_iff.2 hne'
        have hux : ∀ w', (underlying u).run P w' = .ok (.slice eu.e) w' := fun w' => run_underlying eu.hd w'
        have hvs : a.eval (.tmp s) = .slice p hi cap := q4
        have h1 : RepF Pr w ((d, .unk) :: fr) a.tmps (fun t => if t = d then [] else F t) := hF.plain (fun _ _ => rfl) (by simp [RepS]) rfl (by simp) (by simp)
        have h3 : ∀ t b, b ∈ (fun t => if t = d then [] else F t) t → ∃ t', b ∈ F t' := fun t b hb => by
          by_cases e : t = d
          · simp [e] at hb
          · simp only [if_neg e] at hb; exact ⟨t, hb⟩
        have hm : (l.take hi).length = hi := by rw [List.length_take]; omega
        have start : ∀ {v : Value} {w' : World}, (Builtin.append_ #[t, u] o.type #[.slice p hi cap, .slice px l'.length capx]).run P w = .ok v w' → (execOp a.eval o).run P w = .ok (.value v) w' := by
          intro v w' h
          simp only [execOp, ho, resolve, hc]
          simp [invoke, builtin, hA, hT, hvx, hvs, h]
        have h2 := hF.rep d
        rw [hl, q1] at h2
        simp only [RepS] at h2
        have fresh : ∀ (vss : List (List Value)), RowsVals Pr es' (l.take hi) vss → (∀ n : Nat, (Builtin.firstCells es'.length hi (.slice p hi cap)).run P { w with drawn := n } = .ok vss.flatten.toArray { w with drawn := n }) → hi ≤ cap → cap < hi + l'.length → o.wp P a w next Q := by
          intro vss hv1 hv2 hcp hgt
          have hvl := RowsVals.length _ vss hv1
          rw [hm] at hvl
          have hbnd : Builtin.nextslicecap (hi + l'.length) cap * i.eb ≤ 281474976710656 := by
            have := nextslicecap_le (need := hi + l'.length) (old := cap) hgt
            have h' : ((hi : Int) + l'.length) * i.eb < 140737488355328 := hlim
            have hcst : (((hi + l'.length) * i.eb : Nat) : Int) = ((hi : Int) + l'.length) * i.eb := by rw [Int.natCast_mul, Int.natCast_add]
            have h'' : (hi + l'.length) * i.eb < 140737488355328 := by rw [← hcst] at h'; omega
            calc _ ≤ 2 * (hi + l'.length) * i.eb := Nat.mul_le_mul_right _ this
              _ = 2 * ((hi + l'.length) * i.eb) := by rw [Nat.mul_assoc]
              _ ≤ _ := by omega
          have hnotle : ¬ (hi + l'.length ≤ cap) := by omega
          generalize hcap : grownCap w (hi + l'.length) cap ef.e = ncap
          have hncap : hi + l'.length ≤ ncap := by rw [← hcap]; exact grownCap_ge _ _ _ _
          have hrun : (Builtin.append_ #[t, u] o.type #[.slice p hi cap, .slice px l'.length capx]).run P w =
              .ok (.slice (some ⟨w.heap.size, 0, none⟩) (hi + l'.length) ncap) (w.drew.alloc (.cells (vss.flatten.toArray ++ uss.flatten.toArray ++ Builtin.zeroCells ef.z.cells (ncap - (hi + l'.length))) ef.e)) := by
            have hv2' : (Builtin.firstCells es'.length hi (.slice p hi cap)).run P w.drew = .ok vss.flatten.toArray w.drew := hv2 (w.drawn + 1)
            have hu2' : (Builtin.firstCells es'.length l'.length (.slice px l'.length capx)).run P w.drew = .ok uss.flatten.toArray w.drew := hu2 (w.drawn + 1)
            have hb0 : i.eb ≠ 0 := ef.hb ▸ ef.hb0
            have hnc : ¬ (281474976710656 < Builtin.nextslicecap (hi + l'.length) cap * i.eb) := by omega
            rw [← hcap]
            simp [Builtin.append_, run_underlying ef.hd, hux, hsz, Builtin.lenOf, hnotle, run_typeInfo _ ef.hf, ef.hb, hb0, hnc, Question.forced, hv2', hu2', ef.run_zero, newRow, grownCap]
            congr 2
            apply Array.ext'
            simp [List.append_assoc]
          have hzs : (Builtin.zeroCells ef.z.cells (ncap - (hi + l'.length))).size = (ncap - (hi + l'.length)) * es'.length := by rw [size_zeroCells, zero_size ef]; exact congrArg _ (congrArg List.length e2.symm)
          refine wp_value (start hrun) ?_
          have hfin := finOwn (l := l.take hi ++ l') (vss := vss ++ uss) (c := vss.flatten.toArray ++ uss.flatten.toArray ++ Builtin.zeroCells ef.z.cells (ncap - (hi + l'.length))) (e := ef.e) (cap := ncap) (n := w.drawn + 1) h1 h3 hP hd hn (RowsVals.append _ _ _ _ hv1 hu1) (fun j v hj => by
            rw [List.flatten_append] at hj
            have hlt := (List.getElem?_eq_some_iff.1 hj).1
            rw [Array.getElem?_append_left (by simpa using hlt)]
            simpa using hj) (by rw [List.length_append, hm]; exact hncap) (by
              simp only [Array.size_append, hzs, List.size_toArray, hvl, hfl]
              rw [← Nat.add_mul, ← Nat.add_mul]
              refine Nat.mul_le_mul_right _ ?_
              omega) hev
          rw [List.length_append, hm] at hfin
          exact hfin
        rcases h2 with ⟨hv, hl0, hB0⟩ | ⟨b, off, cap', cc, T', vss, hv, hB1, hblk, hcap, hfit, hspare, hrows, hcells⟩
        · simp only [Value.slice.injEq] at hv
          obtain ⟨rfl, _, rfl⟩ := hv
          subst hl0
          have hi0 : hi = 0 := by simp at q3; exact q3
          subst hi0
          by_cases hz : l' = []
          · subst hz
            have hrun : (Builtin.append_ #[t, u] o.type #[.slice none 0 0, .slice px 0 capx]).run P w = .ok (.slice none 0 0) w := by
              have hu0' := hu2 w.drawn
              simp only [List.length_nil] at hu0'
              have hflat : uss.flatten = [] := List.eq_nil_of_length_eq_zero (by simpa using hfl)
              rw [hflat] at hu0'
              simp [Builtin.append_, run_underlying ef.hd, hux, hsz, Builtin.lenOf, hu0']
            refine wp_value (start hrun) (fin hd hn h1 hP (Ext.refl _ _ _) (fun t b hb => .inl (h3 t b hb)) (B := []) (show RepS Pr w (.own es' ([] ++ [])) (.slice none 0 0) [] by simp [RepS]) List.nodup_nil (by simp) (by simp) rfl (by simp) (by simp) (by simp) hev)
          · have hpl' : 0 < l'.length := List.length_pos_iff.2 hz
            exact fresh [] (by simp [RowsVals]) (fun n => by simp [Builtin.firstCells, loadCells]) (Nat.le_refl _) (by simpa using hpl')
        · simp only [Value.slice.injEq] at hv
          obtain ⟨rfl, _, rfl⟩ := hv
          have ht1 := RowsVals.take hi l vss hrows
          have htl := RowsVals.length _ _ ht1
          rw [hm] at htl
          have htc : ∀ (j : Nat) (v : Value), (vss.take hi).flatten[j]? = some v → cc[off + j]? = some v := fun j v hj => hcells j v (RowsVals.take_flat hi l vss hrows j v hj)
          by_cases hroom : hi + l'.length ≤ cap
          · -- in place
            have hcs : off + hi * es'.length + uss.flatten.length ≤ cc.size := by
              rw [hfl]
              have := Nat.mul_le_mul_right es'.length hroom
              rw [Nat.add_mul] at this; omega
            have hst := run_storeCells_at P b (off + hi * es'.length) T' uss.flatten 0 cc w hblk (by simpa using hcs) hone
            simp only [Nat.add_zero] at hst
            generalize hw' : w.setRow b (cc.toList.take (off + hi * es'.length) ++ uss.flatten ++ cc.toList.drop (off + hi * es'.length + uss.flatten.length)).toArray = w' at hst
            have hrun : (Builtin.append_ #[t, u] o.type #[.slice (some ⟨b, off, none⟩) hi cap, .slice px l'.length capx]).run P w = .ok (.slice (some ⟨b, off, none⟩) (hi + l'.length) cap) w' := by
              have hu0' := hu2 w.drawn
              simp [Builtin.append_, run_underlying ef.hd, hux, hsz, Builtin.lenOf, hroom, Addr.add_lit]
              rw [show ({ w with drawn := w.drawn } : World) = w from rfl] at hu0'
              simp [hu0', hst]
            have hbl' : w'.heap[b]? = some (.cells (cc.toList.take (off + hi * es'.length) ++ uss.flatten ++ cc.toList.drop (off + hi * es'.length + uss.flatten.length)).toArray T' (0, 0)) := by
              rw [← hw']; exact setRow_heap w b cc _ T' (0, 0) hblk
            have hoth : ∀ k, k ≠ b → w'.heap[k]? = w.heap[k]? := fun k hk => by rw [← hw']; exact setRow_other w b k _ hk
            have hsize : w'.heap.size = w.heap.size := by rw [← hw']; simp
            have hbB : b ∈ F d := by rw [hB1]; simp
            have hbF : ∀ t, b ∉ (fun t => if t = d then [] else F t) t := fun t q => by
              by_cases e : t = d
              · simp [e] at q
              · simp only [if_neg e] at q; exact hF.apart d t (Ne.symm e) b hbB q
            have hlow : ∀ o', o' < off + hi * es'.length → (cc.toList.take (off + hi * es'.length) ++ uss.flatten ++ cc.toList.drop (off + hi * es'.length + uss.flatten.length)).toArray[o']? = cc[o']? := by
              intro o' ho'
              rw [List.getElem?_toArray, List.append_assoc, List.getElem?_append_left (by simp; omega), List.getElem?_take, if_pos ho']
              simp
            have hP' : PrOK Pr w' := by
              intro b' o' v hv'
              by_cases e : b' = b
              · subst e
                have hlt : o' < off := by
                  rcases Nat.lt_or_ge o' off with h | h
                  · exact h
                  · rw [hspare o' h] at hv'; cases hv'
                rw [cell_cells hbl', hlow o' (by omega), ← cell_cells hblk]; exact hP _ _ _ hv'
              · have := hP b' o' v hv'
                simp only [World.cell?, hoth b' e] at this ⊢; exact this
            have hk : ∀ t, Keeps ((fun t => if t = d then [] else F t) t) Pr w Pr w' := fun t b' hb' => ⟨hoth b' (by intro e; subst e; exact hbF t hb'), fun o' => rfl⟩
            have hx' : Ext (fun b => ∃ t, b ∈ F t) Pr w Pr w' := by
              refine ⟨by rw [← hw']; rfl, by rw [← hw']; rfl, by rw [← hw']; rfl, by omega, PrLe.refl _, fun k hk hna => ?_⟩
              have hkb : k ≠ b := by intro e; subst e; exact hna ⟨d, hbB⟩
              exact ⟨hoth k hkb, fun o' => rfl⟩
            refine wp_value (start hrun) (fin hd hn (h1.mono (PrLe.refl _) hk) hP' hx' (fun t b hb => .inl (h3 t b hb)) (B := F d) ?_ (hF.nodup d) (fun t b' hb' => by rw [hB1] at hb'; simp at hb'; subst hb'; exact hbF t) (fun b' hb' => .inl ⟨d, hb'⟩) rfl (by simp) (by simp) (by simp) hev)
            simp only [RepS]
            right
            refine ⟨b, off, cap, _, T', vss.take hi ++ uss, by rw [List.length_append, hm], hB1, hbl', by rw [List.length_append, hm]; exact hroom, ?_, hspare, RowsVals.append _ _ _ _ ht1 hu1, ?_⟩
            · simp; omega
            · intro j v hj
              rw [List.flatten_append] at hj
              by_cases hql : j < (vss.take hi).flatten.length
              · rw [List.getElem?_append_left hql] at hj
                rw [hlow _ (by omega)]
                exact htc j v hj
              · rw [List.getElem?_append_right (by omega)] at hj
                have hlt := (List.getElem?_eq_some_iff.1 hj).1
                have htl' : (List.take (off + hi * es'.length) cc.toList).length = off + hi * es'.length := by rw [List.length_take]; simp; omega
                rw [List.getElem?_toArray, List.append_assoc, List.getElem?_append_right (by rw [htl']; omega), htl', List.getElem?_append_left (by omega)]
                rw [show off + j - (off + hi * es'.length) = j - (vss.take hi).flatten.length by omega]
                exact hj
          · refine fresh (vss.take hi) ht1 (fun n => ?_) (by omega) (by omega)
            have := run_loadCells_list (P := P) { w with drawn := n } ⟨b, off, none⟩ (vss.take hi).flatten (fun j v hj => by rw [Addr.add_lit]; show w.cell? _ = _; rw [cell_cells hblk]; exact htc j v hj)
            rw [htl] at this
            simpa [Builtin.firstCells] using this
      · rw [hb, cond_true] at hev; cases hev
    · cases hev
  · cases hev
theorem op_append {c : Call} (hC : Cx P T) (ho : o.op = .call c) (hc : c.callee = .builtin .append) (hev : evOp T E o fr K = some r) (hF : RepF Pr w fr a.tmps F) (hP : PrOK Pr w) (hd : DOK o a) (hn : Nx K r o.dst Pr w a F next) : o.wp P a w next Q := by
  simp only [evOp, ho, hc, evAppend] at hev
  split at hev
  · rename_i t u s x htys hargs
    replace hev := withT_some hev; obtain ⟨i, hi, hev⟩ := hev
    replace hev := withT_some hev; obtain ⟨i', hi', hev⟩ := hev
    obtain ⟨tf⟩ := hC.facts hi
    obtain ⟨tu⟩ := hC.facts hi'
    have hA : c.args = #[.tmp s, x] := by apply Array.toList_inj.1; simpa using hargs
    have hT : c.argTypes = #[t, u] := by apply Array.toList_inj.1; simpa using htys
    cases hvw : view s fr with
    | some vw =>
      obtain ⟨d, a0, hi', es, l⟩ := vw
      rw [hvw] at hev
      cases a0 with
      | succ n => cases hev
      | zero => exact op_appendOwn tf tu ho hc hA hT hvw hev hF hP hd hn
    | none =>
    rw [hvw] at hev
    dsimp only at hev
    split at hev
    · rename_i es l fr' es' l' hg hx
      split at hev
      · rename_i q1 q2 q3 g1 g2 g3
        have e2 := q2.down; have e3 := q3.down
        subst q1
        cases hb : (i.agg || i'.agg || es'.isEmpty)
        · rw [hb, cond_false] at hev
          simp only [Bool.or_eq_false_iff] at hb
          obtain ⟨⟨ha, ha'⟩, hne⟩ := hb
          have hne' : es' ≠ [] := by rintro rfl; simp at hne
          obtain ⟨hlim, hev⟩ := chk_some hev
          obtain ⟨ef⟩ := tf.slice ha (.inl (e2 ▸ hne'))
          obtain ⟨eu⟩ := tu.slice ha' (.inl (e3 ▸ hne'))
          have hxr := rdO_sound hF hx
          simp only [RepA, RepD, RepC] at hxr
          obtain ⟨px, lenx, capx, hvx, hlenx, hcx, hrowx⟩ := hxr
          subst hlenx
          obtain ⟨uss, hu1, hu2⟩ := first_cells (P := P) (cap := capx) hP hrowx
          obtain ⟨B, F', h1, h2, h3, h4, h5, h6⟩ := grow_sound hF hg
          have hsz : ∀ w', (Go.sizeOf ef.e).run P w' = .ok es'.length w' := fun w' => by rw [e2]; exact ef.run_size w'
          have hfl := RowsVals.length l' uss hu1
          have hone := RowsVals.one l' uss hu1
          have hpos : 0 < es'.length := List.length_pos_iff.2 hne'
          have hux : ∀ w', (underlying u).run P w' = .ok (.slice eu.e) w' := fun w' => run_underlying eu.hd w'
          have hu0 := hu2 w.drawn
          obtain ⟨vs, hvs⟩ : ∃ vs, a.tmps.getD s undef = vs := ⟨_, rfl⟩
          have hvs' : a.eval (.tmp s) = vs := hvs
          rw [hvs] at h2
          -- what the machine does
          have start : ∀ {v : Value} {w' : World}, (Builtin.append_ #[t, u] o.type #[vs, .slice px l'.length capx]).run P w = .ok v w' → (execOp a.eval o).run P w = .ok (.value v) w' := by
            intro v w' h
            simp only [execOp, ho, resolve, hc]
            simp [invoke, builtin, hA, hT, hvx, hvs', h]
          simp only [RepS] at h2
          have fresh : ∀ (p : Option Addr) (n cp : Nat), vs = .slice p n cp → n = l.length → n ≤ cp → cp < n + l'.length → (l = [] ∨ ∃ b off, p = some ⟨b, off, none⟩ ∧ ∀ i x, l[i]? = some x → RepRow Pr es' x b (off + i * es'.length)) → o.wp P a w next Q := by
            intro p n cp hv hn' hcp hgt hrow
            subst hn'
            obtain ⟨vss, hv1, hv2⟩ := first_cells (P := P) (cap := cp) hP hrow
            have hvl := RowsVals.length l vss hv1
            have hbnd : Builtin.nextslicecap (l.length + l'.length) cp * i.eb ≤ 281474976710656 := by
              have := nextslicecap_le (need := l.length + l'.length) (old := cp) hgt
              have h' : ((l.length : Int) + l'.length) * i.eb < 140737488355328 := hlim
              have hcst : (((l.length + l'.length) * i.eb : Nat) : Int) = ((l.length : Int) + l'.length) * i.eb := by rw [Int.natCast_mul, Int.natCast_add]
              have h'' : (l.length + l'.length) * i.eb < 140737488355328 := by rw [← hcst] at h'; omega
              calc _ ≤ 2 * (l.length + l'.length) * i.eb := Nat.mul_le_mul_right _ this
                _ = 2 * ((l.length + l'.length) * i.eb) := by rw [Nat.mul_assoc]
                _ ≤ _ := by omega
            have hnotle : ¬ (l.length + l'.length ≤ cp) := by omega
            generalize hcap : grownCap w (l.length + l'.length) cp ef.e = ncap
            have hncap : l.length + l'.length ≤ ncap := by rw [← hcap]; exact grownCap_ge _ _ _ _
            have hrun : (Builtin.append_ #[t, u] o.type #[vs, .slice px l'.length capx]).run P w =
                .ok (.slice (some ⟨w.heap.size, 0, none⟩) (l.length + l'.length) ncap) (w.drew.alloc (.cells (vss.flatten.toArray ++ uss.flatten.toArray ++ Builtin.zeroCells ef.z.cells (ncap - (l.length + l'.length))) ef.e)) := by
              have hv2' : (Builtin.firstCells es'.length l.length (.slice p l.length cp)).run P w.drew = .ok vss.flatten.toArray w.drew := hv2 (w.drawn + 1)
              have hu2' : (Builtin.firstCells es'.length l'.length (.slice px l'.length capx)).run P w.drew = .ok uss.flatten.toArray w.drew := hu2 (w.drawn + 1)
              have hb0 : i.eb ≠ 0 := ef.hb ▸ ef.hb0
              have hnc : ¬ (281474976710656 < Builtin.nextslicecap (l.length + l'.length) cp * i.eb) := by omega
              rw [hv, ← hcap]
              simp [Builtin.append_, run_underlying ef.hd, hux, hsz, Builtin.lenOf, hnotle, run_typeInfo _ ef.hf, ef.hb, hb0, hnc, Question.forced, hv2', hu2', ef.run_zero, newRow, grownCap]
              congr 2
              apply Array.ext'
              simp [List.append_assoc]
            have hzs : (Builtin.zeroCells ef.z.cells (ncap - (l.length + l'.length))).size = (ncap - (l.length + l'.length)) * es'.length := by
              have : ef.z.cells.size = es'.length := by
                have : ∀ (es : List Sh) (vs : List Value), zerosB es vs = true → vs.length = es.length := by
                  intro es
                  induction es with
                  | nil => intro vs h; cases vs <;> simp_all [zerosB]
                  | cons e es ih => intro vs h; cases vs with
                    | nil => simp [zerosB] at h
                    | cons v vs => simp only [zerosB, Bool.and_eq_true] at h; simp [ih vs h.2]
                have := this _ _ ef.hzb
                rw [e2]; simpa using this
              rw [size_zeroCells, this]
            refine wp_value (start hrun) ?_
            have hfin := finRow (l := l ++ l') (vss := vss ++ uss) (c := vss.flatten.toArray ++ uss.flatten.toArray ++ Builtin.zeroCells ef.z.cells (ncap - (l.length + l'.length))) (e := ef.e) (cap := ncap) (n := w.drawn + 1) h1 (fun t b hb => ⟨t, h3 t b hb⟩) hP hd hn (RowsVals.append _ _ _ _ hv1 hu1) (fun j v hj => by
              rw [List.flatten_append] at hj
              have hlt := (List.getElem?_eq_some_iff.1 hj).1
              rw [Array.getElem?_append_left (by simpa using hlt)]
              simpa using hj) (by simpa using hncap) (by
                simp only [Array.size_append, hzs, List.size_toArray, hvl, hfl]
                rw [← Nat.add_mul, ← Nat.add_mul]
                refine Nat.mul_le_mul_right _ ?_
                omega) hev
            rw [List.length_append] at hfin
            exact hfin
          rcases h2 with ⟨hv, hl0, hB0⟩ | ⟨b, off, cap, cc, T', hv, hB1, hbl, hcap, hfit, hrows, hspare⟩
          · subst hl0
            by_cases hz : l' = []
            · subst hz
              have hrun : (Builtin.append_ #[t, u] o.type #[vs, .slice px 0 capx]).run P w = .ok (.slice none 0 0) w := by
                have hu0' := hu2 w.drawn
                rw [hv]
                simp only [List.length_nil] at hu0'
                have hflat : uss.flatten = [] := List.eq_nil_of_length_eq_zero (by simpa using hfl)
                rw [hflat] at hu0'
                simp [Builtin.append_, run_underlying ef.hd, hux, hsz, Builtin.lenOf, hu0']
              refine wp_value (start hrun) (fin hd hn h1 hP (Ext.refl _ _ _) (fun t b hb => .inl ⟨t, h3 t b hb⟩) (B := []) (RepS_nil es' Pr w) List.nodup_nil (by simp) (by simp) rfl (by simp) (by simp) (by simp) hev)
            · have hpl' : 0 < l'.length := List.length_pos_iff.2 hz
              exact fresh none 0 0 hv rfl (Nat.le_refl _) (by simpa using hpl') (.inl rfl)
          · by_cases hroom : l.length + l'.length ≤ cap
            · -- in place
              have hcs : off + l.length * es'.length + uss.flatten.length ≤ cc.size := by
                rw [hfl]
                have := Nat.mul_le_mul_right es'.length hroom
                rw [Nat.add_mul] at this; omega
              have hst := run_storeCells_at P b (off + l.length * es'.length) T' uss.flatten 0 cc w hbl (by simpa using hcs) hone
              simp only [Nat.add_zero] at hst
              generalize hw' : w.setRow b (cc.toList.take (off + l.length * es'.length) ++ uss.flatten ++ cc.toList.drop (off + l.length * es'.length + uss.flatten.length)).toArray = w' at hst
              have hrun : (Builtin.append_ #[t, u] o.type #[vs, .slice px l'.length capx]).run P w = .ok (.slice (some ⟨b, off, none⟩) (l.length + l'.length) cap) w' := by
                have hu0' := hu2 w.drawn
                rw [hv]
                simp [Builtin.append_, run_underlying ef.hd, hux, hsz, Builtin.lenOf, hroom, Addr.add_lit]
                rw [show ({ w with drawn := w.drawn } : World) = w from rfl] at hu0'
                simp [hu0', hst]
              have hbl' : w'.heap[b]? = some (.cells (cc.toList.take (off + l.length * es'.length) ++ uss.flatten ++ cc.toList.drop (off + l.length * es'.length + uss.flatten.length)).toArray T' (0, 0)) := by
                rw [← hw']; exact setRow_heap w b cc _ T' (0, 0) hbl
              have hoth : ∀ k, k ≠ b → w'.heap[k]? = w.heap[k]? := fun k hk => by rw [← hw']; exact setRow_other w b k _ hk
              have hsize : w'.heap.size = w.heap.size := by rw [← hw']; simp
              have hbB : b ∈ B := by rw [hB1]; simp
              have hbF : ∀ t, b ∉ F' t := fun t => h5 t b hbB
              have hle : PrLe Pr (prExt Pr b (off + l.length * es'.length) uss.flatten) := prExt_le hspare
              have hlow : ∀ o', o' < off + l.length * es'.length → (cc.toList.take (off + l.length * es'.length) ++ uss.flatten ++ cc.toList.drop (off + l.length * es'.length + uss.flatten.length)).toArray[o']? = cc[o']? := by
                intro o' ho'
                rw [List.getElem?_toArray, List.append_assoc, List.getElem?_append_left (by simp; omega), List.getElem?_take, if_pos ho']
                simp
              have hP' : PrOK (prExt Pr b (off + l.length * es'.length) uss.flatten) w' := by
                intro b' o' v hv'
                simp only [prExt] at hv'
                split at hv'
                · rename_i hq
                  obtain ⟨rfl, g1, g2⟩ := hq
                  have htl : (List.take (off + l.length * es'.length) cc.toList).length = off + l.length * es'.length := by rw [List.length_take]; simp; omega
                  rw [cell_cells hbl', List.getElem?_toArray, List.append_assoc, List.getElem?_append_right (by rw [htl]; exact g1), htl, List.getElem?_append_left (by omega)]
                  exact hv'
                · by_cases e : b' = b
                  · subst e
                    have hlt : o' < off + l.length * es'.length := by
                      rcases Nat.lt_or_ge o' (off + l.length * es'.length) with h | h
                      · exact h
                      · rw [hspare o' h] at hv'; cases hv'
                    rw [cell_cells hbl', hlow o' hlt, ← cell_cells hbl]; exact hP _ _ _ hv'
                  · have := hP b' o' v hv'
                    simp only [World.cell?, hoth b' e] at this ⊢; exact this
              have hk : ∀ t, Keeps (F' t) Pr w (prExt Pr b (off + l.length * es'.length) uss.flatten) w' := fun t b' hb' =>
                ⟨hoth b' (by intro e; subst e; exact hbF t hb'), fun o' => prExt_other (by intro e; subst e; exact hbF t hb') o'⟩
              have hx' : Ext (fun b => ∃ t, b ∈ F t) Pr w (prExt Pr b (off + l.length * es'.length) uss.flatten) w' := by
                refine ⟨by rw [← hw']; rfl, by rw [← hw']; rfl, by rw [← hw']; rfl, by omega, hle, fun k hk hna => ?_⟩
                have hkb : k ≠ b := by intro e; subst e; exact hna (h4 _ hbB)
                exact ⟨hoth k hkb, fun o' => prExt_other hkb o'⟩
              refine wp_value (start hrun) (fin hd hn (h1.mono hle hk) hP' hx' (fun t b hb => .inl ⟨t, h3 t b hb⟩) (B := B) ?_ h6 h5 (fun b' hb' => .inl (h4 b' hb')) rfl (by simp) (by simp) (by simp) hev)
              simp only [RepS]
              right
              have hvals := rows_vals l off hrows
              obtain ⟨vss, hv1, hv2⟩ := hvals
              refine ⟨b, off, cap, _, T', by simp, hB1, hbl', by simpa using hroom, ?_, ?_, ?_⟩
              · simp; omega
              · intro j x hj
                refine vals_rows (l ++ l') (vss ++ uss) off (RowsVals.append _ _ _ _ (RowsVals.mono' hle _ _ hv1) (RowsVals.mono' hle _ _ hu1)) ?_ j x hj
                intro q v hq
                rw [List.flatten_append] at hq
                have hvl := RowsVals.length l vss hv1
                by_cases hql : q < vss.flatten.length
                · rw [List.getElem?_append_left hql] at hq; exact hle _ _ _ (hv2 q v hq)
                · rw [List.getElem?_append_right (by omega)] at hq
                  have := prExt_at (Pr := Pr) (b := b) (lo := off + l.length * es'.length) hq
                  rw [show off + l.length * es'.length + (q - vss.flatten.length) = off + q by omega] at this
                  exact this
              · intro o' ho'
                simp only [List.length_append, Nat.add_mul] at ho'
                simp only [prExt]
                rw [if_neg (by omega)]
                exact hspare o' (by omega)
            · exact fresh _ _ _ hv rfl hcap (by omega) (.inr ⟨b, off, rfl, hrows⟩)
        · rw [hb, cond_true] at hev; cases hev
      · cases hev
    · cases hev
  · cases hev
end
end Go.Proofs.Ytoopcfjmmhmamaa.Lg
