/- Part of a proof of the seat's statements: no statement by itself. -/
import Derived.Test.YtfpojhphmgnfhaaLgB1
section
namespace Go.Proofs.Ytfpojhphmgnfhaa.Lg
open Go
section
variable {R : Type} {P : Program} {T : Tab} {E : CallS} {o : Oper} {fr : Fr} {K : Fr → Option R} {r : R} {Pr : PM} {w : World} {a : Act} {F : Nat → List Nat}
  {next : Act → World → Prop} {Q : Exit → Act → World → Prop}

theorem first_cells {es : List Sh} {l : List (RowE es)} {p : Option Addr} {cap : Nat} (hP : PrOK Pr w) (hrow : l = [] ∨ ∃ b off, p = some ⟨b, off, none⟩ ∧ ∀ i x, l[i]? = some x → RepRow Pr es x b (off + i * es.length)) :
    ∃ uss, RowsVals Pr es l uss ∧ ∀ n : Nat, (Builtin.firstCells es.length l.length (.slice p l.length cap)).run P { w with drawn := n } = .ok uss.flatten.toArray { w with drawn := n } := by
  by_cases hl : l = []
  · subst hl
    refine ⟨[], trivial, fun n => ?_⟩
    cases p <;> simp [Builtin.firstCells, loadCells, loadCellsFrom]
  · replace hrow := hrow.resolve_left hl; obtain ⟨b, off, rfl, hrow⟩ := hrow
    obtain ⟨uss, h1, h2⟩ := rows_vals l off hrow
    refine ⟨uss, h1, fun n => ?_⟩
    have := run_loadCells_list (P := P) { w with drawn := n } ⟨b, off, none⟩ uss.flatten (fun j v hj => by rw [Addr.add_lit]; exact hP.cell (h2 j v hj) (one_tup (RowsVals.one l uss h1 v (List.mem_of_getElem? hj))))
    rw [RowsVals.length l uss h1] at this
    simpa [Builtin.firstCells] using this

/-! ### A slice that is owned whole -/
theorem RowsVals.take {es : List Sh} : ∀ (n : Nat) (l : List (RowE es)) (vss : List (List Value)), RowsVals Pr es l vss → RowsVals Pr es (l.take n) (vss.take n)
  | 0, _, _, _ => by simp [RowsVals]
  | n + 1, [], [], _ => by simp [RowsVals]
  | n + 1, r :: l, vs :: vss, h => ⟨h.1, RowsVals.take n l vss h.2⟩
  | _ + 1, [], _ :: _, h => by simp [RowsVals] at h
  | _ + 1, _ :: _, [], h => by simp [RowsVals] at h
theorem RowsVals.take_flat {es : List Sh} : ∀ (n : Nat) (l : List (RowE es)) (vss : List (List Value)), RowsVals Pr es l vss → ∀ (j : Nat) (v : Value), (vss.take n).flatten[j]? = some v → vss.flatten[j]? = some v
  | 0, _, _, _, j, v, hj => by simp at hj
  | n + 1, [], [], _, j, v, hj => by simp at hj
  | n + 1, r :: l, vs :: vss, h, j, v, hj => by
    rw [List.take_succ_cons, List.flatten_cons] at hj
    rw [List.flatten_cons]
    by_cases q : j < vs.length
    · rw [List.getElem?_append_left q] at hj ⊢; exact hj
    · rw [List.getElem?_append_right (by omega)] at hj ⊢
      exact RowsVals.take_flat n l vss h.2 _ v hj
  | _ + 1, [], _ :: _, h, _, _, _ => by simp [RowsVals] at h
  | _ + 1, _ :: _, [], h, _, _, _ => by simp [RowsVals] at h
theorem zero_size {i : TI} {t : TypeId} (ef : ElF P t i) : ef.z.cells.size = i.es.length := by
  have : ∀ (es : List Sh) (vs : List Value), zerosB es vs = true → vs.length = es.length := by
    intro es
    induction es with
    | nil => intro vs h; cases vs <;> simp_all [zerosB]
    | cons e es ih => intro vs h; cases vs with
      | nil => simp [zerosB] at h
      | cons v vs => simp only [zerosB, Bool.and_eq_true] at h; simp [ih vs h.2]
  simpa using this _ _ ef.hzb
/-- A new row that is owned whole. -/
theorem finOwn {es : List Sh} {l : List (RowE es)} {vss : List (List Value)} {c : Array Value} {e : TypeId} {cap : Nat} {n : Nat} {fr1 : Fr} {F1 : Nat → List Nat} (hF : RepF Pr w fr1 a.tmps F1) (hsub : ∀ t b, b ∈ F1 t → ∃ t', b ∈ F t') (hP : PrOK Pr w) (hd : DOK o a) (hn : Nx K r o.dst Pr w a F next)
    (hv : RowsVals Pr es l vss) (hc : ∀ (j : Nat) (v : Value), vss.flatten[j]? = some v → c[j]? = some v) (hcap : l.length ≤ cap) (hsz : cap * es.length ≤ c.size)
    (hK : K (dset o.dst (.own es l) fr1) = some r) :
    next (a.put o.dst (.slice (some ⟨w.heap.size, 0, none⟩) l.length cap)) { w with heap := w.heap.push (.cells c e), drawn := n } := by
  have hx0 : Ext (fun b => ∃ t, b ∈ F t) Pr w Pr { w with heap := w.heap.push (.cells c e), drawn := n } := (Ext.push _ Pr w _).drew n
  have hP1 : PrOK Pr { w with heap := w.heap.push (.cells c e), drawn := n } := hP.push (.cells c e)
  have h1 : RepF Pr { w with heap := w.heap.push (.cells c e), drawn := n } fr1 a.tmps F1 := hF.mono (PrLe.refl _) fun t b hb => by
    have := hF.lt t b hb
    exact ⟨by simp only [Array.getElem?_push]; rw [if_neg (by omega)], fun _ => rfl⟩
  refine fin hd hn h1 hP1 hx0 (fun t b hb => .inl (hsub t b hb)) (B := [w.heap.size]) ?_ (by simp) ?_ (by simp) rfl (by simp) (by simp) (by simp) hK
  · simp only [RepS]
    right
    exact ⟨w.heap.size, 0, cap, c, e, vss, rfl, rfl, by simp, hcap, by omega, fun o' _ => hP.new o', hv, fun j v hj => by rw [Nat.zero_add]; exact hc j v hj⟩
  · intro t b hb q
    simp at hb; subst hb
    exact absurd (hF.lt t _ q) (by omega)
theorem op_appendOwn {c : Call} {t u : TypeId} {i i' : TI} {s d hi : Nat} {es : List Sh} {l : List (RowE es)} {x : Operand} (tf : TyF P t i) (tu : TyF P u i') (ho : o.op = .call c) (hc : c.callee = .builtin .append) (hA : c.args = #[.tmp s, x]) (hT : c.argTypes = #[t, u])
    (hvw : view s fr = some (d, 0, hi, ⟨es, l⟩))
    (hev : (match rdO fr x with
      | some (.d (.sl es' l')) => match Sh.eqs? es' es, Sh.eqs? es i.es, Sh.eqs? es i'.es with
        | some ⟨h⟩, some _, some _ => bif i.agg || i'.agg || es.isEmpty then none else chk (((hi : Int) + l'.length) * i.eb < lim) (K (dset o.dst (.own es (l.take hi ++ (h ▸ l'))) ((d, .unk) :: fr)))
        | _, _, _ => none
      | _ => none) = some r) (hF : RepF Pr w fr a.tmps F) (hP : PrOK Pr w) (hd : DOK o a) (hn : Nx K r o.dst Pr w a F next) : o.wp P a w next Q := by
  obtain ⟨hl, ⟨p, len, cap, q1, q2, q3, q4⟩, hbl, p', cap', r1, r2, r3⟩ := view_sound hF hvw
  rw [q1] at r1
  simp only [Value.slice.injEq] at r1
  obtain ⟨rfl, rfl, rfl⟩ := r1
  rw [Nat.zero_mul, addr0, ite_self, Nat.sub_zero, Nat.sub_zero] at q4
  split at hev
  · rename_i es' l' hx
    split at hev
    · rename_i e1 e2 e3 g1 g2 g3
      have e2 := e2.down; have e3 := e3.down
      subst e1
      cases hb : (i.agg || i'.agg || es'.isEmpty)
      · rw [hb, cond_false] at hev
        simp only [Bool.or_eq_false_iff] at hb
        obtain ⟨⟨ha, ha'⟩, hne⟩ := hb
        have hne' : es' ≠ [] := by rintro rfl; simp at hne
        obtain ⟨hlim, hev⟩ := chk_some hev
        obtain ⟨ef⟩ := tf.slice ha (.inl (e2 ▸ hne'))
        obtain ⟨eu⟩ := tu.slice ha' (.inl (e3 ▸ hne'))
        have hxr := rdO_sound hF hx
        simp only [RepA, RepD, RepC] at hxr
        obtain ⟨px, lenx, capx, hvx, hlenx, hcx, hrowx⟩ := hxr
        subst hlenx
        obtain ⟨uss, hu1, hu2⟩ := first_cells (P := P) (cap := capx) hP hrowx
        have hsz : ∀ w', (Go.sizeOf ef.e).run P w' = .ok es'.length w' := fun w' => by rw [e2]; exact ef.run_size w'
        have hfl := RowsVals.length l' uss hu1
        have hone := RowsVals.one l' uss hu1
        have hpos : 0 < es'.length := List.length_pos_iff.2 hne'
        have hux : ∀ w', (underlying u).run P w' = .ok (.slice eu.e) w' := fun w' => run_underlying eu.hd w'
        have hvs : a.eval (.tmp s) = .slice p hi cap := q4
        have h1 : RepF Pr w ((d, .unk) :: fr) a.tmps (fun t => if t = d then [] else F t) := hF.plain (fun _ _ => rfl) (by simp [RepS]) rfl (by simp) (by simp)
        have h3 : ∀ t b, b ∈ (fun t => if t = d then [] else F t) t → ∃ t', b ∈ F t' := fun t b hb => by
          by_cases e : t = d
          · simp [e] at hb
          · simp only [if_neg e] at hb; exact ⟨t, hb⟩
        have hm : (l.take hi).length = hi := by rw [List.length_take]; omega
        have start : ∀ {v : Value} {w' : World}, (Builtin.append_ #[t, u] o.type #[.slice p hi cap, .slice px l'.length capx]).run P w = .ok v w' → (execOp a.eval o).run P w = .ok (.value v) w' := by
          intro v w' h
          simp only [execOp, ho, resolve, hc]
          simp [invoke, builtin, hA, hT, hvx, hvs, h]
        have h2 := hF.rep d
        rw [hl, q1] at h2
        simp only [RepS] at h2
        have fresh : ∀ (vss : List (List Value)), RowsVals Pr es' (l.take hi) vss → (∀ n : Nat, (Builtin.firstCells es'.length hi (.slice p hi cap)).run P { w with drawn := n } = .ok vss.flatten.toArray { w with drawn := n }) → hi ≤ cap → cap < hi + l'.length → o.wp P a w next Q := by
          intro vss hv1 hv2 hcp hgt
          have hvl := RowsVals.length _ vss hv1
          rw [hm] at hvl
          have hbnd : Builtin.nextslicecap (hi + l'.length) cap * i.eb ≤ 281474976710656 := by
            have := nextslicecap_le (need := hi + l'.length) (old := cap) hgt
            have h' : ((hi : Int) + l'.length) * i.eb < 140737488355328 := hlim
            have hcst : (((hi + l'.length) * i.eb : Nat) : Int) = ((hi : Int) + l'.length) * i.eb := by rw [Int.natCast_mul, Int.natCast_add]
            have h'' : (hi + l'.length) * i.eb < 140737488355328 := by rw [← hcst] at h'; omega
            calc _ ≤ 2 * (hi + l'.length) * i.eb := Nat.mul_le_mul_right _ this
              _ = 2 * ((hi + l'.length) * i.eb) := by rw [Nat.mul_assoc]
              _ ≤ _ := by omega
          have hnotle : ¬ (hi + l'.length ≤ cap) := by omega
          generalize hcap : grownCap w (hi + l'.length) cap ef.e = ncap
          have hncap : hi + l'.length ≤ ncap := by rw [← hcap]; exact grownCap_ge _ _ _ _
          have hrun : (Builtin.append_ #[t, u] o.type #[.slice p hi cap, .slice px l'.length capx]).run P w =
              .ok (.slice (some ⟨w.heap.size, 0, none⟩) (hi + l'.length) ncap) (w.drew.alloc (.cells (vss.flatten.toArray ++ uss.flatten.toArray ++ Builtin.zeroCells ef.z.cells (ncap - (hi + l'.length))) ef.e)) := by
            have hv2' : (Builtin.firstCells es'.length hi (.slice p hi cap)).run P w.drew = .ok vss.flatten.toArray w.drew := hv2 (w.drawn + 1)
            have hu2' : (Builtin.firstCells es'.length l'.length (.slice px l'.length capx)).run P w.drew = .ok uss.flatten.toArray w.drew := hu2 (w.drawn + 1)
            have hb0 : i.eb ≠ 0 := ef.hb ▸ ef.hb0
            have hnc : ¬ (281474976710656 < Builtin.nextslicecap (hi + l'.length) cap * i.eb) := by omega
            rw [← hcap]
            simp [Builtin.append_, run_underlying ef.hd, hux, hsz, Builtin.lenOf, hnotle, run_typeInfo _ ef.hf, ef.hb, hb0, hnc, Question.forced, hv2', hu2', ef.run_zero, newRow, grownCap]
            congr 2
            apply Array.ext'
            simp [List.append_assoc]
          have hzs : (Builtin.zeroCells ef.z.cells (ncap - (hi + l'.length))).size = (ncap - (hi + l'.length)) * es'.length := by rw [size_zeroCells, zero_size ef]; exact congrArg _ (congrArg List.length e2.symm)
          refine wp_value (start hrun) ?_
          have hfin := finOwn (l := l.take hi ++ l') (vss := vss ++ uss) (c := vss.flatten.toArray ++ uss.flatten.toArray ++ Builtin.zeroCells ef.z.cells (ncap - (hi + l'.length))) (e := ef.e) (cap := ncap) (n := w.drawn + 1) h1 h3 hP hd hn (RowsVals.append _ _ _ _ hv1 hu1) (fun j v hj => by
            rw [List.flatten_append] at hj
            have hlt := (List.getElem?_eq_some_iff.1 hj).1
            rw [Array.getElem?_append_left (by simpa using hlt)]
            simpa using hj) (by rw [List.length_append, hm]; exact hncap) (by
              simp only [Array.size_append, hzs, List.size_toArray, hvl, hfl]
              rw [← Nat.add_mul, ← Nat.add_mul]
              refine Nat.mul_le_mul_right _ ?_
              omega) hev
          rw [List.length_append, hm] at hfin
          exact hfin
        rcases h2 with ⟨hv, hl0, hB0⟩ | ⟨b, off, cap', cc, T', vss, hv, hB1, hblk, hcap, hfit, hspare, hrows, hcells⟩
        · simp only [Value.slice.injEq] at hv
          obtain ⟨rfl, _, rfl⟩ := hv
          subst hl0
          have hi0 : hi = 0 := by simp at q3; exact q3
          subst hi0
          by_cases hz : l' = []
          · subst hz
            have hrun : (Builtin.append_ #[t, u] o.type #[.slice none 0 0, .slice px 0 capx]).run P w = .ok (.slice none 0 0) w := by
              have hu0' := hu2 w.drawn
              simp only [List.length_nil] at hu0'
              have hflat : uss.flatten = [] := List.eq_nil_of_length_eq_zero (by simpa using hfl)
              rw [hflat] at hu0'
              simp [Builtin.append_, run_underlying ef.hd, hux, hsz, Builtin.lenOf, hu0']
            refine wp_value (start hrun) (fin hd hn h1 hP (Ext.refl _ _ _) (fun t b hb => .inl (h3 t b hb)) (B := []) (show RepS Pr w (.own es' ([] ++ [])) (.slice none 0 0) [] by simp [RepS]) List.nodup_nil (by simp) (by simp) rfl (by simp) (by simp) (by simp) hev)
          · have hpl' : 0 < l'.length := List.length_pos_iff.2 hz
            exact fresh [] (by simp [RowsVals]) (fun n => by simp [Builtin.firstCells, loadCells]) (Nat.le_refl _) (by simpa using hpl')
        · simp only [Value.slice.injEq] at hv
          obtain ⟨rfl, _, rfl⟩ := hv
          have ht1 := RowsVals.take hi l vss hrows
          have htl := RowsVals.length _ _ ht1
          rw [hm] at htl
          have htc : ∀ (j : Nat) (v : Value), (vss.take hi).flatten[j]? = some v → cc[off + j]? = some v := fun j v hj => hcells j v (RowsVals.take_flat hi l vss hrows j v hj)
          by_cases hroom : hi + l'.length ≤ cap
          · -- in place
            have hcs : off + hi * es'.length + uss.flatten.length ≤ cc.size := by
              rw [hfl]
              have := Nat.mul_le_mul_right es'.length hroom
              rw [Nat.add_mul] at this; omega
            have hst := run_storeCells_at P b (off + hi * es'.length) T' uss.flatten 0 cc w hblk (by simpa using hcs) hone
            simp only [Nat.add_zero] at hst
            generalize hw' : w.setRow b (cc.toList.take (off + hi * es'.length) ++ uss.flatten ++ cc.toList.drop (off + hi * es'.length + uss.flatten.length)).toArray = w' at hst
            have hrun : (Builtin.append_ #[t, u] o.type #[.slice (some ⟨b, off, none⟩) hi cap, .slice px l'.length capx]).run P w = .ok (.slice (some ⟨b, off, none⟩) (hi + l'.length) cap) w' := by
              have hu0' := hu2 w.drawn
              simp [Builtin.append_, run_underlying ef.hd, hux, hsz, Builtin.lenOf, hroom, Addr.add_lit]
              rw [show ({ w with drawn := w.drawn } : World) = w from rfl] at hu0'
              simp [hu0', hst]
            have hbl' : w'.heap[b]? = some (.cells (cc.toList.take (off + hi * es'.length) ++ uss.flatten ++ cc.toList.drop (off + hi * es'.length + uss.flatten.length)).toArray T' (0, 0)) := by
              rw [← hw']; exact setRow_heap w b cc _ T' (0, 0) hblk
            have hoth : ∀ k, k ≠ b → w'.heap[k]? = w.heap[k]? := fun k hk => by rw [← hw']; exact setRow_other w b k _ hk
            have hsize : w'.heap.size = w.heap.size := by rw [← hw']; simp
            have hbB : b ∈ F d := by rw [hB1]; simp
            have hbF : ∀ t, b ∉ (fun t => if t = d then [] else F t) t := fun t q => by
              by_cases e : t = d
              · simp [e] at q
              · simp only [if_neg e] at q; exact hF.apart d t (Ne.symm e) b hbB q
            have hlow : ∀ o', o' < off + hi * es'.length → (cc.toList.take (off + hi * es'.length) ++ uss.flatten ++ cc.toList.drop (off + hi * es'.length + uss.flatten.length)).toArray[o']? = cc[o']? := by
              intro o' ho'
              rw [List.getElem?_toArray, List.append_assoc, List.getElem?_append_left (by simp; omega), List.getElem?_take, if_pos ho']
              simp
            have hP' : PrOK Pr w' := by
              intro b' o' v hv'
              by_cases e : b' = b
              · subst e
                have hlt : o' < off := by
                  rcases Nat.lt_or_ge o' off with h | h
                  · exact h
                  · rw [hspare o' h] at hv'; cases hv'
                rw [cellX_cells hbl', hlow o' (by omega), ← cellX_cells hblk]; exact hP _ _ _ hv'
              · have := hP b' o' v hv'
                simp only [cellX, World.cell?, hoth b' e] at this ⊢; exact this
            have hk : ∀ t, Keeps ((fun t => if t = d then [] else F t) t) Pr w Pr w' := fun t b' hb' => ⟨hoth b' (by intro e; subst e; exact hbF t hb'), fun o' => rfl⟩
            have hx' : Ext (fun b => ∃ t, b ∈ F t) Pr w Pr w' := by
              refine ⟨by rw [← hw']; rfl, by rw [← hw']; rfl, by rw [← hw']; rfl, by omega, PrLe.refl _, fun k hk hna => ?_⟩
              have hkb : k ≠ b := by intro e; subst e; exact hna ⟨d, hbB⟩
              exact ⟨hoth k hkb, fun o' => rfl⟩
            refine wp_value (start hrun) (fin hd hn (h1.mono (PrLe.refl _) hk) hP' hx' (fun t b hb => .inl (h3 t b hb)) (B := F d) ?_ (hF.nodup d) (fun t b' hb' => by rw [hB1] at hb'; simp at hb'; subst hb'; exact hbF t) (fun b' hb' => .inl ⟨d, hb'⟩) rfl (by simp) (by simp) (by simp) hev)
            simp only [RepS]
            right
            refine ⟨b, off, cap, _, T', vss.take hi ++ uss, by rw [List.length_append, hm], hB1, hbl', by rw [List.length_append, hm]; exact hroom, ?_, hspare, RowsVals.append _ _ _ _ ht1 hu1, ?_⟩
            · simp; omega
            · intro j v hj
              rw [List.flatten_append] at hj
              by_cases hql : j < (vss.take hi).flatten.length
              · rw [List.getElem?_append_left hql] at hj
                rw [hlow _ (by omega)]
                exact htc j v hj
              · rw [List.getElem?_append_right (by omega)] at hj
                have hlt := (List.getElem?_eq_some_iff.1 hj).1
                have htl' : (List.take (off + hi * es'.length) cc.toList).length = off + hi * es'.length := by rw [List.length_take]; simp; omega
                rw [List.getElem?_toArray, List.append_assoc, List.getElem?_append_right (by rw [htl']; omega), htl', List.getElem?_append_left (by omega)]
                rw [show off + j - (off + hi * es'.length) = j - (vss.take hi).flatten.length by omega]
                exact hj
          · refine fresh (vss.take hi) ht1 (fun n => ?_) (by omega) (by omega)
            have := run_loadCells_list (P := P) { w with drawn := n } ⟨b, off, none⟩ (vss.take hi).flatten (fun j v hj => by rw [Addr.add_lit]; show w.cell? _ = _; rw [cell_cells hblk]; exact htc j v hj)
            rw [htl] at this
            simpa [Builtin.firstCells] using this
      · rw [hb, cond_true] at hev; cases hev
    · cases hev
  · cases hev
theorem op_append {c : Call} (hC : Cx P T) (ho : o.op = .call c) (hc : c.callee = .builtin .append) (hev : evOp T E o fr K = some r) (hF : RepF Pr w fr a.tmps F) (hP : PrOK Pr w) (hd : DOK o a) (hn : Nx K r o.dst Pr w a F next) : o.wp P a w next Q := by
  simp only [evOp, ho, hc, evAppend] at hev
  split at hev
  · rename_i t u s x htys hargs
    replace hev := withT_some hev; obtain ⟨i, hi, hev⟩ := hev
    replace hev := withT_some hev; obtain ⟨i', hi', hev⟩ := hev
    obtain ⟨tf⟩ := hC.facts hi
    obtain ⟨tu⟩ := hC.facts hi'
    have hA : c.args = #[.tmp s, x] := by apply Array.toList_inj.1; simpa using hargs
    have hT : c.argTypes = #[t, u] := by apply Array.toList_inj.1; simpa using htys
    cases hvw : view s fr with
    | some vw =>
      obtain ⟨d, a0, hi', es, l⟩ := vw
      rw [hvw] at hev
      cases a0 with
      | succ n => cases hev
      | zero => exact op_appendOwn tf tu ho hc hA hT hvw hev hF hP hd hn
    | none =>
    rw [hvw] at hev
    dsimp only at hev
    split at hev
    · rename_i es l fr' es' l' hg hx
      split at hev
      · rename_i q1 q2 q3 g1 g2 g3
        have e2 := q2.down; have e3 := q3.down
        subst q1
        cases hb : (i.agg || i'.agg || es'.isEmpty)
        · rw [hb, cond_false] at hev
          simp only [Bool.or_eq_false_iff] at hb
          obtain ⟨⟨ha, ha'⟩, hne⟩ := hb
          have hne' : es' ≠ [] := by rintro rfl; simp at hne
          obtain ⟨hlim, hev⟩ := chk_some hev
          obtain ⟨ef⟩ := tf.slice ha (.inl (e2 ▸ hne'))
          obtain ⟨eu⟩ := tu.slice ha' (.inl (e3 ▸ hne'))
          have hxr := rdO_sound hF hx
          simp only [RepA, RepD, RepC] at hxr
          obtain ⟨px, lenx, capx, hvx, hlenx, hcx, hrowx⟩ := hxr
          subst hlenx
          obtain ⟨uss, hu1, hu2⟩ := first_cells (P := P) (cap := capx) hP hrowx
          obtain ⟨B, F', h1, h2, h3, h4, h5, h6⟩ := grow_sound hF hg
          have hsz : ∀ w', (Go.sizeOf ef.e).run P w' = .ok es'.length w' := fun w' => by rw [e2]; exact ef.run_size w'
          have hfl := RowsVals.length l' uss hu1
          have hone := RowsVals.one l' uss hu1
          have hpos : 0 < es'.length := List.length_pos_iff.2 hne'
          have hux : ∀ w', (underlying u).run P w' = .ok (.slice eu.e) w' := fun w' => run_underlying eu.hd w'
          have hu0 := hu2 w.drawn
          obtain ⟨vs, hvs⟩ : ∃ vs, a.tmps.getD s undef = vs := ⟨_, rfl⟩
          have hvs' : a.eval (.tmp s) = vs := hvs
          rw [hvs] at h2
          -- what the machine does
          have start : ∀ {v : Value} {w' : World}, (Builtin.append_ #[t, u] o.type #[vs, .slice px l'.length capx]).run P w = .ok v w' → (execOp a.eval o).run P w = .ok (.value v) w' := by
            intro v w' h
            simp only [execOp, ho, resolve, hc]
            simp [invoke, builtin, hA, hT, hvx, hvs', h]
          simp only [RepS] at h2
          have fresh : ∀ (p : Option Addr) (n cp : Nat), vs = .slice p n cp → n = l.length → n ≤ cp → cp < n + l'.length → (l = [] ∨ ∃ b off, p = some ⟨b, off, none⟩ ∧ ∀ i x, l[i]? = some x → RepRow Pr es' x b (off + i * es'.length)) → o.wp P a w next Q := by
            intro p n cp hv hn' hcp hgt hrow
            subst hn'
            obtain ⟨vss, hv1, hv2⟩ := first_cells (P := P) (cap := cp) hP hrow
            have hvl := RowsVals.length l vss hv1
            have hbnd : Builtin.nextslicecap (l.length + l'.length) cp * i.eb ≤ 281474976710656 := by
              have := nextslicecap_le (need := l.length + l'.length) (old := cp) hgt
              have h' : ((l.length : Int) + l'.length) * i.eb < 140737488355328 := hlim
              have hcst : (((l.length + l'.length) * i.eb : Nat) : Int) = ((l.length : Int) + l'.length) * i.eb := by rw [Int.natCast_mul, Int.natCast_add]
              have h'' : (l.length + l'.length) * i.eb < 140737488355328 := by rw [← hcst] at h'; omega
              calc _ ≤ 2 * (l.length + l'.length) * i.eb := Nat.mul_le_mul_right _ this
                _ = 2 * ((l.length + l'.length) * i.eb) := by rw [Nat.mul_assoc]
                _ ≤ _ := by omega
            have hnotle : ¬ (l.length + l'.length ≤ cp) := by omega
            generalize hcap : grownCap w (l.length + l'.length) cp ef.e = ncap
            have hncap : l.length + l'.length ≤ ncap := by rw [← hcap]; exact grownCap_ge _ _ _ _
            have hrun : (Builtin.append_ #[t, u] o.type #[vs, .slice px l'.length capx]).run P w =
                .ok (.slice (some ⟨w.heap.size, 0, none⟩) (l.length + l'.length) ncap) (w.drew.alloc (.cells (vss.flatten.toArray ++ uss.flatten.toArray ++ Builtin.zeroCells ef.z.cells (ncap - (l.length + l'.length))) ef.e)) := by
              have hv2' : (Builtin.firstCells es'.length l.length (.slice p l.length cp)).run P w.drew = .ok vss.flatten.toArray w.drew := hv2 (w.drawn + 1)
              have hu2' : (Builtin.firstCells es'.length l'.length (.slice px l'.length capx)).run P w.drew = .ok uss.flatten.toArray w.drew := hu2 (w.drawn + 1)
              have hb0 : i.eb ≠ 0 := ef.hb ▸ ef.hb0
              have hnc : ¬ (281474976710656 < Builtin.nextslicecap (l.length + l'.length) cp * i.eb) := by omega
              rw [hv, ← hcap]
              simp [Builtin.append_, run_underlying ef.hd, hux, hsz, Builtin.lenOf, hnotle, run_typeInfo _ ef.hf, ef.hb, hb0, hnc, Question.forced, hv2', hu2', ef.run_zero, newRow, grownCap]
              congr 2
              apply Array.ext'
              simp [List.append_assoc]
            have hzs : (Builtin.zeroCells ef.z.cells (ncap - (l.length + l'.length))).size = (ncap - (l.length + l'.length)) * es'.length := by
              have : ef.z.cells.size = es'.length := by
                have : ∀ (es : List Sh) (vs : List Value), zerosB es vs = true → vs.length = es.length := by
                  intro es
                  induction es with
                  | nil => intro vs h; cases vs <;> simp_all [zerosB]
                  | cons e es ih => intro vs h; cases vs with
                    | nil => simp [zerosB] at h
                    | cons v vs => simp only [zerosB, Bool.and_eq_true] at h; simp [ih vs h.2]
                have := this _ _ ef.hzb
                rw [e2]; simpa using this
              rw [size_zeroCells, this]
            refine wp_value (start hrun) ?_
            have hfin := finRow (l := l ++ l') (vss := vss ++ uss) (c := vss.flatten.toArray ++ uss.flatten.toArray ++ Builtin.zeroCells ef.z.cells (ncap - (l.length + l'.length))) (e := ef.e) (cap := ncap) (n := w.drawn + 1) h1 (fun t b hb => ⟨t, h3 t b hb⟩) hP hd hn (RowsVals.append _ _ _ _ hv1 hu1) (fun j v hj => by
              rw [List.flatten_append] at hj
              have hlt := (List.getElem?_eq_some_iff.1 hj).1
              rw [Array.getElem?_append_left (by simpa using hlt)]
              simpa using hj) (by simpa using hncap) (by
                simp only [Array.size_append, hzs, List.size_toArray, hvl, hfl]
                rw [← Nat.add_mul, ← Nat.add_mul]
                refine Nat.mul_le_mul_right _ ?_
                omega) hev
            rw [List.length_append] at hfin
            exact hfin
          rcases h2 with ⟨hv, hl0, hB0⟩ | ⟨b, off, cap, cc, T', hv, hB1, hbl, hcap, hfit, hrows, hspare⟩
          · subst hl0
            by_cases hz : l' = []
            · subst hz
              have hrun : (Builtin.append_ #[t, u] o.type #[vs, .slice px 0 capx]).run P w = .ok (.slice none 0 0) w := by
                have hu0' := hu2 w.drawn
                rw [hv]
                simp only [List.length_nil] at hu0'
                have hflat : uss.flatten = [] := List.eq_nil_of_length_eq_zero (by simpa using hfl)
                rw [hflat] at hu0'
                simp [Builtin.append_, run_underlying ef.hd, hux, hsz, Builtin.lenOf, hu0']
              refine wp_value (start hrun) (fin hd hn h1 hP (Ext.refl _ _ _) (fun t b hb => .inl ⟨t, h3 t b hb⟩) (B := []) (RepS_nil es' Pr w) List.nodup_nil (by simp) (by simp) rfl (by simp) (by simp) (by simp) hev)
            · have hpl' : 0 < l'.length := List.length_pos_iff.2 hz
              exact fresh none 0 0 hv rfl (Nat.le_refl _) (by simpa using hpl') (.inl rfl)
          · by_cases hroom : l.length + l'.length ≤ cap
            · -- in place
              have hcs : off + l.length * es'.length + uss.flatten.length ≤ cc.size := by
                rw [hfl]
                have := Nat.mul_le_mul_right es'.length hroom
                rw [Nat.add_mul] at this; omega
              have hst := run_storeCells_at P b (off + l.length * es'.length) T' uss.flatten 0 cc w hbl (by simpa using hcs) hone
              simp only [Nat.add_zero] at hst
              generalize hw' : w.setRow b (cc.toList.take (off + l.length * es'.length) ++ uss.flatten ++ cc.toList.drop (off + l.length * es'.length + uss.flatten.length)).toArray = w' at hst
              have hrun : (Builtin.append_ #[t, u] o.type #[vs, .slice px l'.length capx]).run P w = .ok (.slice (some ⟨b, off, none⟩) (l.length + l'.length) cap) w' := by
                have hu0' := hu2 w.drawn
                rw [hv]
                simp [Builtin.append_, run_underlying ef.hd, hux, hsz, Builtin.lenOf, hroom, Addr.add_lit]
                rw [show ({ w with drawn := w.drawn } : World) = w from rfl] at hu0'
                simp [hu0', hst]
              have hbl' : w'.heap[b]? = some (.cells (cc.toList.take (off + l.length * es'.length) ++ uss.flatten ++ cc.toList.drop (off + l.length * es'.length + uss.flatten.length)).toArray T' (0, 0)) := by
                rw [← hw']; exact setRow_heap w b cc _ T' (0, 0) hbl
              have hoth : ∀ k, k ≠ b → w'.heap[k]? = w.heap[k]? := fun k hk => by rw [← hw']; exact setRow_other w b k _ hk
              have hsize : w'.heap.size = w.heap.size := by rw [← hw']; simp
              have hbB : b ∈ B := by rw [hB1]; simp
              have hbF : ∀ t, b ∉ F' t := fun t => h5 t b hbB
              have hle : PrLe Pr (prExt Pr b (off + l.length * es'.length) uss.flatten) := prExt_le hspare
              have hlow : ∀ o', o' < off + l.length * es'.length → (cc.toList.take (off + l.length * es'.length) ++ uss.flatten ++ cc.toList.drop (off + l.length * es'.length + uss.flatten.length)).toArray[o']? = cc[o']? := by
                intro o' ho'
                rw [List.getElem?_toArray, List.append_assoc, List.getElem?_append_left (by simp; omega), List.getElem?_take, if_pos ho']
                simp
              have hP' : PrOK (prExt Pr b (off + l.length * es'.length) uss.flatten) w' := by
                intro b' o' v hv'
                simp only [prExt] at hv'
                split at hv'
                · rename_i hq
                  obtain ⟨rfl, g1, g2⟩ := hq
                  have htl : (List.take (off + l.length * es'.length) cc.toList).length = off + l.length * es'.length := by rw [List.length_take]; simp; omega
                  refine cellX_of ?_ (one_tup (RowsVals.one _ _ hu1 v (List.mem_of_getElem? hv')))
                  rw [cell_cells hbl', List.getElem?_toArray, List.append_assoc, List.getElem?_append_right (by rw [htl]; exact g1), htl, List.getElem?_append_left (by omega)]
                  exact hv'
                · by_cases e : b' = b
                  · subst e
                    have hlt : o' < off + l.length * es'.length := by
                      rcases Nat.lt_or_ge o' (off + l.length * es'.length) with h | h
                      · exact h
                      · rw [hspare o' h] at hv'; cases hv'
                    rw [cellX_cells hbl', hlow o' hlt, ← cellX_cells hbl]; exact hP _ _ _ hv'
                  · have := hP b' o' v hv'
                    simp only [cellX, World.cell?, hoth b' e] at this ⊢; exact this
              have hk : ∀ t, Keeps (F' t) Pr w (prExt Pr b (off + l.length * es'.length) uss.flatten) w' := fun t b' hb' =>
                ⟨hoth b' (by intro e; subst e; exact hbF t hb'), fun o' => prExt_other (by intro e; subst e; exact hbF t hb') o'⟩
              have hx' : Ext (fun b => ∃ t, b ∈ F t) Pr w (prExt Pr b (off + l.length * es'.length) uss.flatten) w' := by
                refine ⟨by rw [← hw']; rfl, by rw [← hw']; rfl, by rw [← hw']; rfl, by omega, hle, fun k hk hna => ?_⟩
                have hkb : k ≠ b := by intro e; subst e; exact hna (h4 _ hbB)
                exact ⟨hoth k hkb, fun o' => prExt_other hkb o'⟩
              refine wp_value (start hrun) (fin hd hn (h1.mono hle hk) hP' hx' (fun t b hb => .inl ⟨t, h3 t b hb⟩) (B := B) ?_ h6 h5 (fun b' hb' => .inl (h4 b' hb')) rfl (by simp) (by simp) (by simp) hev)
              simp only [RepS]
              right
              have hvals := rows_vals l off hrows
              obtain ⟨vss, hv1, hv2⟩ := hvals
              refine ⟨b, off, cap, _, T', by simp, hB1, hbl', by simpa using hroom, ?_, ?_, ?_⟩
              · simp; omega
              · intro j x hj
                refine vals_rows (l ++ l') (vss ++ uss) off (RowsVals.append _ _ _ _ (RowsVals.mono' hle _ _ hv1) (RowsVals.mono' hle _ _ hu1)) ?_ j x hj
                intro q v hq
                rw [List.flatten_append] at hq
                have hvl := RowsVals.length l vss hv1
                by_cases hql : q < vss.flatten.length
                · rw [List.getElem?_append_left hql] at hq; exact hle _ _ _ (hv2 q v hq)
                · rw [List.getElem?_append_right (by omega)] at hq
                  have := prExt_at (Pr := Pr) (b := b) (lo := off + l.length * es'.length) hq
                  rw [show off + l.length * es'.length + (q - vss.flatten.length) = off + q by omega] at this
                  exact this
              · intro o' ho'
                simp only [List.length_append, Nat.add_mul] at ho'
                simp only [prExt]
                rw [if_neg (by omega)]
                exact hspare o' (by omega)
            · exact fresh _ _ _ hv rfl hcap (by omega) (.inr ⟨b, off, rfl, hrows⟩)
        · rw [hb, cond_true] at hev; cases hev
      · cases hev
    · cases hev
  · cases hev
end
end Go.Proofs.Ytfpojhphmgnfhaa.Lg
end

section
namespace Go.Proofs.Ytfpojhphmgnfhaa.Lg
open Go

/-! ### Maps: what is found, put and left -/
def simpleK : Sh → Bool
  | .int _ | .bool | .str => true
  | _ => false
theorem eqE_iff {k : Sh} (hk : simpleK k = true) (a b : CE k) : eqE k a b = true ↔ a = b := by
  cases k <;> simp [simpleK] at hk <;> simp [eqE]
theorem eqE_self {k : Sh} (hk : simpleK k = true) (a : CE k) : eqE k a a = true := (eqE_iff hk a a).2 rfl
theorem eqE_ne {k : Sh} (hk : simpleK k = true) {a b : CE k} (h : a ≠ b) : eqE k a b = false := by
  cases hb : eqE k a b
  · rfl
  · exact absurd ((eqE_iff hk a b).1 hb) h
theorem keyB_simple {k : Sh} {d : Option TypeDesc} (h : keyB k d = true) : simpleK k = true := by
  unfold keyB at h
  split at h <;> first | rfl | cases h
theorem mget_perm {k : Sh} {es : List Sh} (hk : simpleK k = true) {m m' : List (CE k × RowE es)} (h : m'.Perm m) : (m'.map Prod.fst).Nodup → ∀ key, mget k es m' key = mget k es m key ∧ mhas k es m' key = mhas k es m key := by
  induction h with
  | nil => intro _ key; exact ⟨rfl, rfl⟩
  | cons x _ ih =>
    intro hn key
    simp only [List.map_cons, List.nodup_cons] at hn
    simp only [mget, mhas]
    rw [(ih hn.2 key).1, (ih hn.2 key).2]
    exact ⟨rfl, rfl⟩
  | swap x y l =>
    intro hn key
    simp only [List.map_cons, List.nodup_cons, List.mem_cons, not_or] at hn
    simp only [mget, mhas]
    cases h1 : eqE k key x.1 <;> cases h2 : eqE k key y.1 <;> simp only [cond_true, cond_false, and_self]
    exact absurd (((eqE_iff hk _ _).1 h2).symm.trans ((eqE_iff hk _ _).1 h1)) hn.1.1
  | trans h1 h2 ih1 ih2 =>
    intro hn key
    have hn2 := (h1.map Prod.fst).nodup_iff.1 hn
    exact ⟨(ih1 hn key).1.trans (ih2 hn2 key).1, (ih1 hn key).2.trans (ih2 hn2 key).2⟩
theorem mset_perm {k : Sh} {es : List Sh} (hk : simpleK k = true) {m m' : List (CE k × RowE es)} (h : m'.Perm m) : (m'.map Prod.fst).Nodup → ∀ key v, (mset k es key v m').Perm (mset k es key v m) := by
  induction h with
  | nil => intro _ key v; exact .refl _
  | cons x hp ih =>
    intro hn key v
    simp only [List.map_cons, List.nodup_cons] at hn
    simp only [mset]
    cases eqE k key x.1
    · exact (ih hn.2 key v).cons x
    · exact hp.cons _
  | swap x y l =>
    intro hn key v
    simp only [List.map_cons, List.nodup_cons, List.mem_cons, not_or] at hn
    simp only [mset]
    cases h1 : eqE k key x.1 <;> cases h2 : eqE k key y.1 <;> simp only [cond_true, cond_false]
    · exact .swap _ _ _
    · exact .swap _ _ _
    · exact .swap _ _ _
    · exact absurd (((eqE_iff hk _ _).1 h2).symm.trans ((eqE_iff hk _ _).1 h1)) hn.1.1
  | trans h1 h2 ih1 ih2 =>
    intro hn key v
    have hn2 := (h1.map Prod.fst).nodup_iff.1 hn
    exact (ih1 hn key v).trans (ih2 hn2 key v)
theorem mins_perm {k : Sh} {es : List Sh} (key : CE k) (v : RowE es) : ∀ m : List (CE k × RowE es), (mins k es key v m).Perm ((key, v) :: m)
  | [] => .refl _
  | x :: m => by
    simp only [mins]
    cases ltE k key x.1
    · exact ((mins_perm key v m).cons x).trans (.swap _ _ _)
    · exact .refl _
theorem mset_keys {k : Sh} {es : List Sh} (key : CE k) (v : RowE es) : ∀ m : List (CE k × RowE es), (mset k es key v m).map Prod.fst = m.map Prod.fst
  | [] => rfl
  | x :: m => by
    simp only [mset]
    cases eqE k key x.1
    · simp [mset_keys key v m]
    · simp
theorem mhas_mem {k : Sh} {es : List Sh} (hk : simpleK k = true) (key : CE k) : ∀ m : List (CE k × RowE es), mhas k es m key = false → key ∉ m.map Prod.fst
  | [], _ => by simp
  | x :: m, h => by
    simp only [mhas] at h
    cases hb : eqE k key x.1
    · rw [hb, cond_false] at h
      simp only [List.map_cons, List.mem_cons, not_or]
      exact ⟨fun e => (by rw [(eqE_iff hk _ _).2 e] at hb; cases hb), mhas_mem hk key m h⟩
    · rw [hb, cond_true] at h; cases h
theorem mput_keys {k : Sh} {es : List Sh} (hk : simpleK k = true) {m : List (CE k × RowE es)} (hn : (m.map Prod.fst).Nodup) (key : CE k) (v : RowE es) : ((mput k es m key v).map Prod.fst).Nodup := by
  unfold mput
  cases hb : mhas k es m key
  · rw [cond_false]
    refine ((mins_perm key v m).map Prod.fst).nodup_iff.2 ?_
    simp only [List.map_cons, List.nodup_cons]
    exact ⟨mhas_mem hk key m hb, hn⟩
  · rw [cond_true, mset_keys]; exact hn

section
variable {P : Program} {Pr : PM} {w : World}
theorem RepC.simple {k : Sh} (hk : simpleK k = true) {x : CE k} {u v : Value} (h : RepC Pr k x u) (q : RepC Pr k x v) : u = v := by
  cases k <;> simp [simpleK] at hk <;> simp only [RepC] at h q <;> rw [h, q]
theorem str_beq (a b : List UInt8) : ((⟨a.toArray⟩ : ByteArray) == ⟨b.toArray⟩) = (a == b) := by
  show (a.toArray == b.toArray) = (a == b)
  simp
theorem sameNow_eq {k : Sh} {kd : TypeDesc} (hk : keyB k (some kd) = true) {x y : CE k} {u v : Value} (h : RepC Pr k x u) (q : RepC Pr k y v) : Instr.sameNow kd u v = some (eqE k x y) := by
  cases k <;> cases kd <;> simp only [keyB] at hk <;> first | (cases hk; done) | skip
  · simp only [RepC] at h q; subst h; subst q; simp [Instr.sameNow, eqE]
  · simp only [RepC] at h q; subst h; subst q; simp [Instr.sameNow, eqE]
  · simp only [RepC] at h q; subst h; subst q; simp only [Instr.sameNow, eqE, str_beq]
theorem find_sound {k : Sh} {b : Bool} {es : List Sh} {kd : TypeDesc} (hk : keyB k (some kd) = true) {key : CE k} {u : Value} (hu : RepC Pr k key u) : ∀ (m : List (CE k × RowE es)) (ens : List MapEntry) (j : Nat), m.length = ens.length →
    (∀ (i : Nat) (x : CE k × RowE es), m[i]? = some x → ∃ en : MapEntry, ens[i]? = some en ∧ RepC Pr k x.1 en.key ∧ ValR b en.val (RowVals Pr es x.2)) →
    (mhas k es m key = false ∧ Instr.findNow kd u ens j = some none) ∨ ∃ i en, mhas k es m key = true ∧ Instr.findNow kd u ens j = some (some (j + i, en.val)) ∧ ens[i]? = some en ∧ en.key = u ∧ ValR b en.val (RowVals Pr es (mget k es m key)) ∧ m[i]? = some (key, mget k es m key) ∧ ∀ v, mset k es key v m = m.set i (key, v)
  | [], [], j, _, _ => .inl ⟨rfl, rfl⟩
  | x :: m, e :: ens, j, hl, h => by
    have hs := keyB_simple hk
    obtain ⟨en, h1, h2, h3⟩ := h 0 x rfl
    simp at h1; subst h1
    simp only [mhas, mget, mset, Instr.findNow]
    rw [sameNow_eq hk hu h2]
    cases hb : eqE k key x.1
    · simp only [cond_false]
      rcases find_sound hk hu m ens (j + 1) (by simpa using hl) (fun i x hi => by
        obtain ⟨en, q1, q2⟩ := h (i + 1) x (by simpa using hi)
        exact ⟨en, by simpa using q1, q2⟩) with ⟨g1, g2⟩ | ⟨i, en, g1, g2, g3, g4, g5, g6, g7⟩
      · exact .inl ⟨g1, g2⟩
      · exact .inr ⟨i + 1, en, g1, by rw [g2, show j + 1 + i = j + (i + 1) by omega], by simpa using g3, g4, g5, by simpa using g6, fun v => by rw [g7 v]; rfl⟩
    · have he := (eqE_iff hs _ _).1 hb
      simp only [cond_true]
      refine .inr ⟨0, e, by simp, by simp, by simp, ?_, h3, ?_, fun v => by rw [he]; rfl⟩
      · rw [← he] at h2; exact h2.simple hs hu
      · rw [he]; rfl
  | [], _ :: _, _, hl, _ => by simp at hl
  | _ :: _, [], _, hl, _ => by simp at hl
theorem run_findKey {kt : TypeId} {kd : TypeDesc} (hd : P.underlying kt = some kd) {u : Value} {es : List MapEntry} {r : Option (Nat × Value)} (h : Instr.findNow kd u es 0 = some r) : (Instr.findKey kt u es).run P w = .ok r w := by
  simp [Instr.findKey, run_underlying hd, h]
theorem run_checkKey {k : Sh} {kt : TypeId} {kd : TypeDesc} (hd : P.underlying kt = some kd) (hk : keyB k (some kd) = true) (e : Bool) (u : Value) : (Instr.checkKey e 10000 kt u).run P w = .ok () w := by
  show (Instr.checkKey e (9999 + 1) kt u).run P w = .ok () w
  cases k <;> cases kd <;> simp only [keyB] at hk <;> first | (cases hk; done) | skip
  all_goals
    unfold Instr.checkKey
    simp only [Sem.run_bind, run_underlying hd, Result.andThen_ok]
    simp
theorem run_keyThatStays {k : Sh} (hk : simpleK k = true) {x : CE k} {u : Value} (h : RepC Pr k x u) : (Instr.keyThatStays u u).run P w = .ok u w := by
  have : Instr.sameBits 10000 u u = true := by
    show Instr.sameBits (9999 + 1) u u = true
    cases k <;> simp [simpleK] at hk <;> simp only [RepC] at h <;> subst h <;> simp [Instr.sameBits, str_beq]
  simp [Instr.keyThatStays, this]
theorem zerosD_vals : ∀ (es : List Sh) (vs : List Value), zerosB es vs = true → RowVals Pr es (RowE.dflt es) vs
  | [], [], _ => by simp [RowVals]
  | e :: es, v :: vs, h => by
    have h0 := h
    simp only [zerosB, Bool.and_eq_true] at h
    simp only [RowVals, RowE.dflt]
    refine ⟨?_, zerosD_vals es vs h.2⟩
    have h1 := h.1
    cases e with
    | int k => cases v <;> simp [zeroB] at h1; obtain ⟨rfl, rfl⟩ := h1; simp [RepC, CE.dflt]
    | bool => cases v <;> simp [zeroB] at h1; subst h1; simp [RepC, CE.dflt]
    | str => cases v <;> simp [zeroB] at h1; subst h1; simp only [RepC, CE.dflt]; rfl
    | sl es' =>
      unfold zeroB at h1
      split at h1 <;> simp_all
      simp only [CE.dflt, RepC]
      exact ⟨none, 0, 0, rfl, rfl, Nat.le_refl _, by simp⟩
    | mp k' b' es' =>
      unfold zeroB at h1
      split at h1 <;> simp_all
      simp [RepC, CE.dflt]
  | [], _ :: _, h => by simp [zerosB] at h
  | _ :: _, [], h => by simp [zerosB] at h
theorem ValR.zero {b : Bool} {es : List Sh} {z : Value} (h : zerosB es z.cells.toList = true) (hv : valB b z = true) : ValR b z (RowVals Pr es (RowE.dflt es)) := by
  unfold ValR
  cases b
  · simp only [Bool.false_eq_true, if_false]
    have : z.cells.toList = [z] := by
      unfold valB at hv
      split at hv
      · cases hv
      · rename_i hn; cases z <;> first | rfl | exact absurd rfl (hn _)
    rw [this] at h
    exact zerosD_vals es [z] h
  · simp only [if_true]
    unfold valB at hv
    split at hv
    · exact ⟨_, rfl, zerosD_vals es _ h⟩
    · cases hv
theorem ValR.av {b : Bool} {es : List Sh} {r : RowE es} {v : Value} (h : ValR b v (RowVals Pr es r)) : RepA Pr (argAV b es r) v := by
  unfold ValR at h
  cases b
  · simp only [Bool.false_eq_true, if_false] at h
    match es, r, h with
    | [], r, h => simp [RowVals] at h
    | e :: es, r, h =>
      simp only [RowVals] at h
      simp only [argAV, RepA]
      exact RepC.toD e r.1 v h.1
  · simp only [if_true] at h
    obtain ⟨vs, rfl, h⟩ := h
    simp only [argAV, RepA]
    exact ⟨vs, rfl, RowVals.ds es r vs.toList h⟩
theorem argOf_val {b : Bool} {es : List Sh} {x : AV} {r : RowE es} {v : Value} (h : argOf b es x = some r) (hr : RepA Pr x v) : ValR b v (RowVals Pr es r) := by
  unfold argOf at h
  split at h
  · simp only [RepA] at hr
    obtain ⟨vs, rfl, hr⟩ := hr
    exact ⟨vs, rfl, ofDs_vals _ _ _ _ h hr⟩
  · split at h
    · rename_i y hy
      simp at h; subst h
      simp only [RepA] at hr
      show RowVals Pr [_] (y, ()) [v]
      simp only [RowVals]
      exact ⟨ofD_rep _ _ _ _ hy hr, trivial⟩
    · cases h
  · cases h
end

section
variable {R : Type} {P : Program} {T : Tab} {E : CallS} {o : Oper} {fr : Fr} {K : Fr → Option R} {r : R} {Pr : PM} {w : World} {a : Act} {F : Nat → List Nat}
  {next : Act → World → Prop} {Q : Exit → Act → World → Prop}

theorem op_makeMap {t : TypeId} {z : Option Operand} (hC : Cx P T) (ho : o.op = .makeMap t z) (hev : evOp T E o fr K = some r) (hF : RepF Pr w fr a.tmps F) (hP : PrOK Pr w) (hd : DOK o a) (hn : Nx K r o.dst Pr w a F next) : o.wp P a w next Q := by
  cases z with
  | some z => simp [evOp, ho] at hev
  | none =>
    simp only [evOp, ho] at hev
    replace hev := withT_some hev; obtain ⟨i, hi, hev⟩ := hev
    split at hev
    · rename_i k b es hs
      refine wp_value (v := .map (some w.heap.size)) (w' := { w with heap := w.heap.push (.map #[] 0) }) (by simp [execOp, ho, Instr.makeMap, newObj, Sem.run]) ?_
      have h1 : RepF Pr { w with heap := w.heap.push (.map #[] 0) } fr a.tmps F := hF.mono (PrLe.refl _) fun t => keeps_push (hF.lt t)
      refine fin hd hn h1 (hP.push _) (Ext.push _ _ _ _) sub_self (B := [w.heap.size]) ?_ (by simp) ?_ (by simp) rfl (by simp) (by simp) (by simp) hev
      · simp only [RepS]
        exact ⟨w.heap.size, #[], 0, rfl, rfl, by simp, fun o => hP.new o, ⟨by simp, by simp⟩, by simp, [], .refl _, by simp, by simp⟩
      · intro t b' hb q
        simp at hb; subst hb
        exact absurd (hF.lt t _ q) (by omega)
    · cases hev

theorem op_lookup {t : TypeId} {x y : Operand} {ok : Bool} (hC : Cx P T) (ho : o.op = .lookup t x y ok) (hev : evOp T E o fr K = some r) (hF : RepF Pr w fr a.tmps F) (hP : PrOK Pr w) (hd : DOK o a) (hn : Nx K r o.dst Pr w a F next) : o.wp P a w next Q := by
  simp only [evOp, ho] at hev
  replace hev := withT_some hev; obtain ⟨i, hi, hev⟩ := hev
  obtain ⟨tf⟩ := hC.facts hi
  split at hev
  · rename_i k b es m d hag hm hy
    split at hev
    · rename_i hs key hsh hkey
      have hsh' : i.sh = [.mp k b es] := hs.down.symm
      obtain ⟨mf⟩ := tf.mp hsh' hag
      obtain ⟨kd, hkd⟩ : ∃ kd, P.underlying mf.kt = some kd := by
        cases hq : P.underlying mf.kt with
        | none => have := mf.hk; rw [hq] at this; cases k <;> simp [keyB] at this
        | some kd => exact ⟨kd, rfl⟩
      have hkB : keyB k (some kd) = true := hkd ▸ mf.hk
      have hyr := rdO_sound hF hy
      simp only [RepA] at hyr
      have hyc := ofD_rep _ _ _ _ hkey hyr
      have hz : ∀ w, (zeroValue mf.et).run P w = .ok mf.z w := fun w => by
        unfold Go.zeroValue
        simp [run_typeInfo w mf.hf, mf.hz]
      have done : ∀ (v : Value) (h : Bool) (row : RowE es), mhas k es m key = h → mget k es m key = row → ValR b v (RowVals Pr es row) → (execOp a.eval o).run P w = .ok (.value (if ok then .tuple #[v, .bool h] else v)) w → o.wp P a w next Q := by
        intro v h row e1 e2 hv hrun
        rw [e1, e2] at hev
        refine wp_value hrun (finV hF hP hd hn ?_ hev)
        cases ok
        · simp only [cond_false, Bool.false_eq_true, if_false]; exact hv.av
        · simp only [cond_true, if_true, RepA]
          exact ⟨_, rfl, by simp only [RepAs, RepA, RepD]; exact ⟨hv.av, trivial, trivial⟩⟩
      obtain ⟨s, rfl, hx⟩ := mapV_sound hF hP hm
      rcases hx with ⟨hx, rfl⟩ | ⟨bl, es', ck, hx, hbl, hb1, hb2, m', hb3, hb4, hb5⟩
      · refine done mf.z false (RowE.dflt es) rfl rfl (ValR.zero mf.hzb mf.hv) ?_
        have hf := run_findKey (P := P) (w := w) hkd (u := a.eval y) (es := []) (r := none) rfl
        simp [execOp, ho, (show a.eval (.tmp s) = _ from hx), Instr.lookup, run_underlying mf.hd, run_checkKey hkd hkB, hf, hz]
      · have hks := keyB_simple hkB
        have hp := mget_perm hks hb3 ((hb3.map Prod.fst).nodup_iff.2 hb2) key
        rcases find_sound hkB hyc m' es'.toList 0 (by simpa using hb4) (fun i x hi => by simpa using hb5 i x hi) with ⟨g1, g2⟩ | ⟨i', en, g1, g2, g3, g4, g5, _, _⟩
        · have hh : mhas k es m key = false := by rw [← hp.2]; exact g1
          have hg : mget k es m key = RowE.dflt es := by
            have key2 : ∀ (l : List (CE k × RowE es)), mhas k es l key = false → mget k es l key = RowE.dflt es := by
              intro l
              induction l with
              | nil => intro _; rfl
              | cons x l ih =>
                intro h
                simp only [mhas, mget] at h ⊢
                cases hb : eqE k key x.1
                · rw [hb, cond_false] at h; rw [cond_false]; exact ih h
                · rw [hb, cond_true] at h; cases h
            exact key2 m hh
          refine done mf.z false (RowE.dflt es) hh hg (ValR.zero mf.hzb mf.hv) ?_
          have hf := run_findKey (P := P) (w := w) hkd g2
          simp [execOp, ho, (show a.eval (.tmp s) = _ from hx), Instr.lookup, run_underlying mf.hd, run_checkKey hkd hkB, hf, hz, Go.getObj, Sem.run, hbl]
        · refine done en.val true _ (by rw [← hp.2]; exact g1) hp.1.symm g5 ?_
          have hf := run_findKey (P := P) (w := w) hkd g2
          simp [execOp, ho, (show a.eval (.tmp s) = _ from hx), Instr.lookup, run_underlying mf.hd, run_checkKey hkd hkB, hf, Go.getObj, Sem.run, hbl]
    · cases hev
  · cases hev

/-- An object that a slot owns is written. -/
theorem objSet {d bl n : Nat} {sv : SV} {ob : Obj} {ts : Array Value} (hF : RepF Pr w fr ts F) (hP : PrOK Pr w) (hb : bl ∈ F d) (hpr : ∀ o, Pr bl o = none)
    (hr : ∀ w' : World, w'.heap[bl]? = some ob → RepS Pr w' sv (ts.getD d undef) [bl]) (hu : sv.isUpd = false) (h0 : ∀ d' o, sv ≠ .al d' o) (h1 : ∀ d' o, sv ≠ .ref d' o) (h2 : ∀ d' k, sv ≠ .ow d' k) :
    RepF Pr { w with heap := w.heap.setIfInBounds bl ob, drawn := n } ((d, sv) :: fr) ts (fun t => if t = d then [bl] else F t) ∧ PrOK Pr { w with heap := w.heap.setIfInBounds bl ob, drawn := n } ∧
      Ext (fun b => ∃ t, b ∈ F t) Pr w Pr { w with heap := w.heap.setIfInBounds bl ob, drawn := n } ∧ ∀ t b, b ∈ (if t = d then [bl] else F t) → (∃ t', b ∈ F t') ∨ w.heap.size ≤ b := by
  generalize hw' : ({ w with heap := w.heap.setIfInBounds bl ob, drawn := n } : World) = w'
  have hlt := hF.lt d bl hb
  have hb' : w'.heap[bl]? = some ob := by rw [← hw']; simp [hlt]
  have hoth : ∀ k, k ≠ bl → w'.heap[k]? = w.heap[k]? := fun k hk => by rw [← hw']; simp [Array.getElem?_setIfInBounds, Ne.symm hk]
  have hsize : w'.heap.size = w.heap.size := by rw [← hw']; simp
  have hkeep : ∀ (B : List Nat), bl ∉ B → Keeps B Pr w Pr w' := fun B hb b' hb' => ⟨hoth b' (fun e => hb (e ▸ hb')), fun _ => rfl⟩
  refine ⟨?_, ?_, ?_, ?_⟩
  · refine hF.rebind (PrLe.refl _) (fun t ht => hkeep _ (fun q => hF.apart t d ht bl q hb)) (fun _ _ => rfl) (hr w' hb') (by simp) ?_ (by simp [hu]) (fun d' h => absurd h (h0 d' _)) (fun d' o' h => absurd h (h0 d' _)) (fun d' o' h => absurd h (h1 d' _)) (fun d' o' h => absurd h (h2 d' _))
    intro t ht b' hb' q; simp at hb'; subst hb'; exact hF.apart t d ht _ q hb
  · intro b' o' v hv'
    have := hP b' o' v hv'
    by_cases e : b' = bl
    · subst e; rw [hpr] at hv'; cases hv'
    · simp only [cellX, World.cell?, hoth b' e] at this ⊢; exact this
  · refine ⟨by rw [← hw'], by rw [← hw'], by rw [← hw'], by omega, PrLe.refl _, fun k hk hna => ⟨hoth k (fun e => ?_), fun _ => rfl⟩⟩
    subst e; exact hna ⟨d, hb⟩
  · intro t b' hb'
    by_cases e : t = d
    · simp [e] at hb'; subst hb'; exact .inl ⟨d, hb⟩
    · rw [if_neg e] at hb'; exact .inl ⟨t, hb'⟩

theorem op_mapUpdate {t : TypeId} {x y z : Operand} (hC : Cx P T) (ho : o.op = .mapUpdate t x y z) (hev : evOp T E o fr K = some r) (hF : RepF Pr w fr a.tmps F) (hP : PrOK Pr w) (hn : Nx K r o.dst Pr w a F next) : o.wp P a w next Q := by
  simp only [evOp, ho] at hev
  cases hdst : o.dst.isSome
  case true => rw [hdst] at hev; cases hev
  rw [hdst, cond_false] at hev
  have hdst' : o.dst = none := by simpa using hdst
  replace hev := withT_some hev; obtain ⟨i, hi, hev⟩ := hev
  obtain ⟨tf⟩ := hC.facts hi
  cases hag : i.agg
  case true => rw [hag] at hev; cases hev
  rw [hag, cond_false] at hev
  split at hev
  · rename_i s
    split at hev
    · rename_i d' k b es m d v hm hy hz
      split at hev
      · rename_i hs key row hsh hkey hrow
        have hsh' : i.sh = [.mp k b es] := hs.down.symm
        obtain ⟨mf⟩ := tf.mp hsh' hag
        obtain ⟨kd, hkd⟩ : ∃ kd, P.underlying mf.kt = some kd := by
          cases hq : P.underlying mf.kt with
          | none => have := mf.hk; rw [hq] at this; cases k <;> simp [keyB] at this
          | some kd => exact ⟨kd, rfl⟩
        have hkB : keyB k (some kd) = true := hkd ▸ mf.hk
        have hks := keyB_simple hkB
        have hyr := rdO_sound hF hy
        simp only [RepA] at hyr
        have hyc := ofD_rep _ _ _ _ hkey hyr
        have hzr := argOf_val hrow (rdO_sound hF hz)
        obtain ⟨g1, g2⟩ := mpOf_sound hF hm
        have hr := hF.rep d'
        rw [g1] at hr
        simp only [RepS] at hr
        obtain ⟨bl, es', ck, g3, g4, g5, g6, hborn, hnod, m', hp, hlen, hrep⟩ := hr
        have hx : a.eval (.tmp s) = .map (some bl) := by show a.tmps.getD s undef = _; rw [g2]; exact g3
        have hbl : bl ∈ F d' := by rw [g4]; simp
        have hnod' := (hp.map Prod.fst).nodup_iff.2 hnod
        have hpm := mget_perm hks hp hnod' key
        have done : ∀ (es2 : Array MapEntry) (ck2 : Nat) (m2 : List (CE k × RowE es)), BornOK es2 ck2 → m2.Perm (mput k es m key row) → m2.length = es2.size →
            (∀ (i : Nat) (x : CE k × RowE es), m2[i]? = some x → ∃ en : MapEntry, es2[i]? = some en ∧ RepC Pr k x.1 en.key ∧ ValR b en.val (RowVals Pr es x.2)) →
            (execOp a.eval o).run P w = .ok .skip { w with heap := w.heap.setIfInBounds bl (.map es2 ck2), drawn := w.drawn } → o.wp P a w next Q := by
          intro es2 ck2 m2 k1 k2 k3 k4 hrun
          obtain ⟨q1, q2, q3, q4⟩ := objSet (n := w.drawn) (ob := .map es2 ck2) (sv := .mp k b es (mput k es m key row)) hF hP hbl g6 (fun w' hw' => by
            simp only [RepS]
            exact ⟨bl, es2, ck2, g3, rfl, hw', g6, k1, mput_keys hks hnod key row, m2, k2, k3, k4⟩) rfl (by simp) (by simp) (by simp)
          refine wp_skip' hrun ?_
          rw [hdst'] at hn ⊢
          exact hn undef _ Pr _ _ hev q1 q2 q3 q4
        rcases find_sound hkB hyc m' es'.toList 0 (by simpa using hlen) (fun i x hi => by simpa using hrep i x hi) with ⟨f1, f2⟩ | ⟨i', en, f1, f2, f3, f4, f5, f6, f7⟩
        · have hh : mhas k es m key = false := by rw [← hpm.2]; exact f1
          have hf := run_findKey (P := P) (w := w) hkd f2
          refine done (es'.push { key := a.eval y, val := a.eval z, born := ck }) (ck + 1) (m' ++ [(key, row)]) ?_ ?_ (by simp [hlen]) ?_ ?_
          · refine ⟨?_, ?_⟩
            · simp only [Array.toList_push, List.map_append, List.map_cons, List.map_nil]
              rw [List.nodup_append]
              refine ⟨hborn.1, by simp, fun x hx y hy e => ?_⟩
              simp at hy; subst hy; subst e
              obtain ⟨en, he, e⟩ := List.mem_map.1 hx
              have := hborn.2 en he; omega
            · intro e he
              simp only [Array.toList_push, List.mem_append, List.mem_singleton] at he
              rcases he with he | rfl
              · have := hborn.2 e he; omega
              · show ck < ck + 1; omega
          · unfold mput
            rw [hh, cond_false]
            exact ((List.perm_append_comm).trans (hp.cons _)).trans (mins_perm key row m).symm
          · intro i x hi
            rcases Nat.lt_trichotomy i m'.length with h | h | h
            · rw [List.getElem?_append_left h] at hi
              obtain ⟨en, q1, q2, q3⟩ := hrep i x hi
              exact ⟨en, by rw [Array.getElem?_push_lt (by omega)]; rw [Array.getElem?_eq_getElem (by omega)] at q1; exact q1, q2, q3⟩
            · subst h
              simp at hi; subst hi
              refine ⟨{ key := a.eval y, val := a.eval z, born := ck }, ?_, hyc, hzr⟩
              rw [hlen]; simp
            · rw [List.getElem?_eq_none (by simp; omega)] at hi; cases hi
          · simp [execOp, ho, hx, Instr.mapUpdate, run_underlying mf.hd, Go.getObj, Go.setObj, Sem.run, g5, run_checkKey hkd hkB, hf]
        · have hh : mhas k es m key = true := by rw [← hpm.2]; exact f1
          have hf := run_findKey (P := P) (w := w) hkd f2
          have hey : en.key = a.eval y := f4
          have hi' : i' < es'.size := by
            have := (List.getElem?_eq_some_iff.1 f3).1; simpa using this
          have hkt := run_keyThatStays (P := P) (w := w) hks hyc
          refine done (es'.modify i' fun e => { e with key := a.eval y, val := a.eval z }) ck (m'.set i' (key, row)) ?_ ?_ (by simp [hlen]) ?_ ?_
          · have hmb : (es'.modify i' fun e => { e with key := a.eval y, val := a.eval z }).toList.map (·.born) = es'.toList.map (·.born) := by
              refine List.ext_getElem? fun j => ?_
              simp only [List.getElem?_map, Array.getElem?_toList, Array.getElem?_modify]
              split
              · cases es'[j]? <;> rfl
              · rfl
            refine ⟨by rw [hmb]; exact hborn.1, fun e he => ?_⟩
            have : e.born ∈ es'.toList.map (·.born) := by rw [← hmb]; exact List.mem_map_of_mem he
            obtain ⟨e', h1, h2⟩ := List.mem_map.1 this
            have := hborn.2 e' h1
            omega
          · unfold mput
            rw [hh, cond_true, ← f7 row]
            exact mset_perm hks hp hnod' key row
          · intro i x hi
            rw [List.getElem?_set] at hi
            rw [Array.getElem?_modify]
            split at hi
            · rename_i e
              subst e
              split at hi
              · simp only [Option.some.injEq] at hi; subst hi
                rw [if_pos rfl, Array.getElem?_eq_getElem hi']
                exact ⟨_, rfl, hyc, hzr⟩
              · cases hi
            · rename_i e
              rw [if_neg e]
              exact hrep i x hi
          · have f3' : es'[i']? = some en := by simpa using f3
            simp [execOp, ho, hx, Instr.mapUpdate, run_underlying mf.hd, Go.getObj, Go.setObj, Sem.run, g5, run_checkKey hkd hkB, hf, f3', hey, hkt]
      · cases hev
    · cases hev
  · cases hev
end
end Go.Proofs.Ytfpojhphmgnfhaa.Lg
end

section
namespace Go.Proofs.Ytfpojhphmgnfhaa.Lg
open Go

/-! ### Ranges over maps: whatever is drawn -/
theorem anyN_some {R : Type} {n : Nat} {f : Nat → Option R} {r : R} (h : anyN n f = some r) (i : Nat) (hi : i < n) : f i = some r := by
  unfold anyN at h
  split at h
  · rename_i hq; rw [hq.2 i hi]; exact h
  · cases h
theorem anyN_mk {R : Type} {n : Nat} {f : Nat → Option R} {r : R} (h0 : 0 < n) (h : ∀ i, i < n → f i = some r) : anyN n f = some r := by
  unfold anyN
  rw [if_pos ⟨h0, fun i hi => (h i hi).trans (h 0 h0).symm⟩]
  exact h 0 h0
theorem perm_erase {α : Type} {l l' : List α} (h : l.Perm l') {i : Nat} {x : α} (hx : l[i]? = some x) : ∃ j, l'[j]? = some x ∧ (l.eraseIdx i).Perm (l'.eraseIdx j) := by
  have hm : x ∈ l' := h.mem_iff.1 (List.mem_of_getElem? hx)
  obtain ⟨j, hj⟩ := List.getElem?_of_mem hm
  refine ⟨j, hj, ?_⟩
  have key : ∀ (l : List α) (i : Nat), l[i]? = some x → l.Perm (x :: l.eraseIdx i) := by
    intro l
    induction l with
    | nil => intro i h; simp at h
    | cons y l ih =>
      intro i h
      cases i with
      | zero => simp at h; subst h; exact .refl _
      | succ i =>
        simp only [List.getElem?_cons_succ] at h
        exact ((ih i h).cons y).trans (.swap _ _ _)
  exact (((key l i hx).symm.trans h).trans (key l' j hj)).cons_inv
/-- Of entries of different births one is taken out. -/
theorem filter_erase (l : List MapEntry) (p : MapEntry → Bool) (hn : (l.map (·.born)).Nodup) (i : Nat) (e : MapEntry) (he : (l.filter p)[i]? = some e) : l.filter (fun x => p x && !(x.born == e.born)) = (l.filter p).eraseIdx i := by
  induction l generalizing i with
  | nil => simp at he
  | cons x l ih =>
    simp only [List.map_cons, List.nodup_cons] at hn
    cases hp : p x
    · simp only [List.filter_cons, hp, Bool.false_and, Bool.false_eq_true, if_false] at he ⊢
      exact ih hn.2 i he
    · simp only [List.filter_cons, hp, if_true, Bool.true_and] at he ⊢
      cases i with
      | zero =>
        simp at he; subst he
        simp only [BEq.rfl, Bool.not_true, Bool.false_eq_true, if_false, List.eraseIdx_cons_zero]
        refine List.filter_congr fun y hy => ?_
        have : y.born ≠ x.born := fun e => hn.1 (by rw [← e]; exact List.mem_map_of_mem hy)
        simp [this]
      | succ i =>
        simp only [List.getElem?_cons_succ] at he
        have hmem : e ∈ l := (List.mem_filter.1 (List.mem_of_getElem? he)).1
        have : x.born ≠ e.born := fun q => hn.1 (by rw [q]; exact List.mem_map_of_mem hmem)
        simp only [beq_eq_false_iff_ne.2 this, Bool.not_false, if_true, List.eraseIdx_cons_succ]
        rw [ih hn.2 i he]

section
variable {P : Program} {w : World}
theorem run_choose (n : Nat) (hn : 0 < n) : ∃ i m, i < n ∧ (Go.choose (.mapNext n)).run P w = .ok i { w with drawn := m } := by
  by_cases h : n = 1
  · subst h
    exact ⟨0, w.drawn, by omega, by simp [Go.choose, Sem.run, Question.forced]⟩
  · refine ⟨w.tape w.drawn (.mapNext n) % n, w.drawn + 1, Nat.mod_lt _ hn, ?_⟩
    have : ¬ n ≤ 1 := by omega
    simp [Go.choose, Sem.run, Question.forced, Question.cut, this]
/-- A step of an iterator over a map. -/
theorem run_nextMap {bl mb ck : Nat} {seen : Array Nat} {es' : Array MapEntry} {t : TypeId} (h1 : w.heap[bl]? = some (.mapIter (some mb) ck seen ck)) (h2 : w.heap[mb]? = some (.map es' ck)) (hB : BornOK es' ck) :
    (es'.toList.filter (fun e => !seen.contains e.born) = [] ∧ ∃ m, (Instr.next (.pointer (some ⟨bl, 0, none⟩)) false t).run P w = .ok (.tuple #[.bool false]) { w with drawn := m }) ∨
    ∃ (i : Nat) (e : MapEntry) (m : Nat), (es'.toList.filter (fun e => !seen.contains e.born))[i]? = some e ∧ (Instr.next (.pointer (some ⟨bl, 0, none⟩)) false t).run P w = .ok (.tuple #[.bool true, e.key, e.val]) { w with heap := w.heap.setIfInBounds bl (.mapIter (some mb) ck (seen.push e.born) ck), drawn := m } := by
  have hfirst : (!seen.isEmpty && !es'.isEmpty && es'.all (fun e => decide (e.born ≥ ck))) = false := by
    cases he : es'.toList with
    | nil =>
      have : es' = #[] := by simpa using he
      subst this; simp
    | cons x l =>
      have hx := hB.2 x (by rw [he]; simp)
      have : es'.all (fun e => decide (e.born ≥ ck)) = false := by
        rw [← Array.all_toList, he]
        have : ¬ ck ≤ x.born := by omega
        simp [this]
      rw [this, Bool.and_false]
  have hold : (es'.filter fun e => !seen.contains e.born).filter (fun e => decide (e.born < ck)) = es'.filter fun e => !seen.contains e.born := by
    apply Array.ext'
    rw [Array.toList_filter]
    refine List.filter_eq_self.2 fun e he => ?_
    have := hB.2 e (by simpa using (Array.mem_filter.1 (Array.mem_toList_iff.1 he)).1)
    simpa using this
  have hnew : (es'.filter fun e => !seen.contains e.born).filter (fun e => decide (e.born ≥ ck)) = #[] := by
    apply Array.ext'
    rw [Array.toList_filter]
    refine List.filter_eq_nil_iff.2 fun e he => ?_
    have := hB.2 e (by simpa using (Array.mem_filter.1 (Array.mem_toList_iff.1 he)).1)
    simp; omega
  have hcan : ∀ (L : Array MapEntry), L = es'.filter (fun e => !seen.contains e.born) → ∃ C : Array (Option MapEntry), C = (if L.isEmpty then #[none] else #[]) ++ (L ++ #[]).map some ∧ 0 < C.size := by
    intro L _
    refine ⟨_, rfl, ?_⟩
    cases hE : L.isEmpty
    · have : L.size ≠ 0 := by simpa [Array.isEmpty] using hE
      simp; omega
    · simp; omega
  obtain ⟨C, hC, hpos⟩ := hcan _ rfl
  obtain ⟨i, m, hi, hch⟩ := run_choose (P := P) (w := w) C.size hpos
  have hrun : (Instr.next (.pointer (some ⟨bl, 0, none⟩)) false t).run P w = ((match C[i]? with
      | some (some e) => (do Go.setObj bl (.mapIter (some mb) ck (seen.push e.born) ck); pure (.tuple #[.bool true, e.key, e.val]) : Sem Value)
      | some none => pure (.tuple #[.bool false])
      | none => Go.stuck "Next: no such candidate")).run P { w with drawn := m } := by
    unfold Instr.next
    simp only [Sem.run_bind, Go.getObj, Sem.run, h1, h2, Result.andThen_ok, hfirst, Bool.false_eq_true, if_false, hold, hnew]
    rw [← hC, hch]
    rfl
  have hli : (es'.filter fun e => !seen.contains e.born).toList = es'.toList.filter (fun e => !seen.contains e.born) := Array.toList_filter ..
  cases hE : (es'.filter fun e => !seen.contains e.born).isEmpty
  · rw [hE] at hC
    simp only [Bool.false_eq_true, if_false, Array.append_empty, Array.empty_append] at hC
    subst hC
    simp only [Array.size_map] at hi
    right
    refine ⟨i, (es'.filter fun e => !seen.contains e.born)[i], m, ?_, ?_⟩
    · rw [← hli, Array.getElem?_toList]; exact Array.getElem?_eq_getElem hi
    · rw [hrun]
      have hbl : bl < w.heap.size := (Array.getElem?_eq_some_iff.1 h1).1
      simp only [Array.getElem?_map, Array.getElem?_eq_getElem hi, Option.map_some, Sem.run_bind, Go.setObj, Sem.run, h1, Result.andThen_ok]
      rfl
  · rw [hE] at hC
    have hemp : es'.filter (fun e => !seen.contains e.born) = #[] := by simpa [Array.isEmpty_iff] using hE
    rw [hemp] at hC
    simp only [if_true, Array.append_empty, Array.map_empty] at hC
    subst hC
    simp at hi; subst hi
    left
    refine ⟨by rw [← hli, hemp], m, ?_⟩
    rw [hrun]
    rfl
end

section
variable {R : Type} {P : Program} {T : Tab} {E : CallS} {o : Oper} {fr : Fr} {K : Fr → Option R} {r : R} {Pr : PM} {w : World} {a : Act} {F : Nat → List Nat}
  {next : Act → World → Prop} {Q : Exit → Act → World → Prop}

theorem op_nextMap {x : Operand} (ho : o.op = .next x false) (hev : evOp T E o fr K = some r) (hF : RepF Pr w fr a.tmps F) (hP : PrOK Pr w) (hd : DOK o a) (hn : Nx K r o.dst Pr w a F next) : o.wp P a w next Q := by
  simp only [evOp, ho] at hev
  split at hev
  · rename_i s
    split at hev
    · rename_i pre k b es rem cur rest hf
      have hl := find_look s fr [] _ _ _ hf
      have hr := hF.rep s
      rw [hl] at hr
      simp only [RepS] at hr
      obtain ⟨bl, hv, hB, hpr, hr⟩ := hr
      have hbl : bl ∈ F s := by rw [hB]; simp
      have hx : a.eval (.tmp s) = .pointer (some ⟨bl, 0, none⟩) := hv
      have over : ∀ m, rem = [] → (Instr.next (.pointer (some ⟨bl, 0, none⟩)) false o.type).run P w = .ok (.tuple #[.bool false]) { w with drawn := m } → o.wp P a w next Q := by
        intro m hrem hrun
        rcases brP_some hev with ⟨_, h⟩ | ⟨hne, _⟩
        · refine wp_value (v := .tuple #[.bool false]) (w' := { w with drawn := m }) (by simp [execOp, ho, hx, hrun]) ?_
          have h1 : RepF Pr { w with drawn := m } fr a.tmps F := hF.mono (PrLe.refl _) fun t b _ => ⟨rfl, fun _ => rfl⟩
          refine fin hd hn h1 hP ((Ext.refl _ _ _).drew m) sub_self (B := []) (by simp [RepS, RepA, RepAs, RepD]) List.nodup_nil (by simp) (by simp) rfl (by simp) (by simp) (by simp) h
        · exact absurd hrem hne
      rcases hr with ⟨s', n, h1, h2, h3⟩ | ⟨mb, es', ck, seen, h1, h2, hborn, hse, ⟨m', hp, ens, hens, hlen, hrep⟩, hcur⟩
      · refine over w.drawn h2 ?_
        simp [Instr.next, Go.getObj, Sem.run, h1]
      · have hmb := hP.map h2
        rcases run_nextMap (P := P) (t := o.type) h1 hmb hborn with ⟨hnil, m, hrun⟩ | ⟨i, e, m, he, hrun⟩
        · refine over m ?_ hrun
          rw [hens, hnil] at hlen
          have : m' = [] := List.length_eq_zero_iff.1 hlen
          rw [this] at hp
          exact List.nil_perm.1 hp
        · rw [← hens] at he
          have hi : i < m'.length := by rw [hlen]; exact (List.getElem?_eq_some_iff.1 he).1
          obtain ⟨en, g1, g2, g3⟩ := hrep i m'[i] (List.getElem?_eq_getElem hi)
          rw [he] at g1; simp only [Option.some.injEq] at g1; subst g1
          obtain ⟨j, hj, hpe⟩ := perm_erase hp (List.getElem?_eq_getElem hi)
          have hjl : j < rem.length := (List.getElem?_eq_some_iff.1 hj).1
          rcases brP_some hev with ⟨hq, _⟩ | ⟨_, h⟩
          · subst hq; simp at hjl
          have hK := anyN_some h j hjl
          have hgd : rem.getD j (CE.dflt k, RowE.dflt es) = m'[i] := by
            rw [List.getD_eq_getElem?_getD, hj]; rfl
          rw [hgd] at hK
          have hmem : e ∈ es'.toList := by
            have := List.mem_of_getElem? he
            rw [hens] at this
            exact (List.mem_filter.1 this).1
          obtain ⟨q1, q2, q3, q4⟩ := objSet (n := m) (ob := .mapIter (some mb) ck (seen.push e.born) ck) (sv := .mit k b es (rem.eraseIdx j) (some m'[i])) hF hP hbl hpr (fun w' hw' => by
            simp only [RepS]
            refine ⟨bl, hv, rfl, hpr, .inr ⟨mb, es', ck, seen.push e.born, hw', h2, hborn, fun q => by subst q; simp at hmem, ⟨m'.eraseIdx i, hpe, ens.eraseIdx i, ?_, by rw [List.length_eraseIdx, List.length_eraseIdx, hlen], ?_⟩, ?_⟩⟩
            · rw [hens] at he ⊢
              rw [← filter_erase es'.toList _ hborn.1 i e he]
              refine List.filter_congr fun y _ => ?_
              by_cases e1 : y.born = e.born <;> by_cases e2 : y.born ∈ seen <;> simp [e1, e2]
            · intro i' x hi'
              rw [List.getElem?_eraseIdx] at hi' ⊢
              split at hi'
              · rename_i hlt; rw [if_pos hlt]; exact hrep _ _ hi'
              · rename_i hlt; rw [if_neg hlt]; exact hrep _ _ hi'
            · intro x hx
              simp only [Option.some.injEq] at hx; subst hx
              exact ⟨e, hmem, by simp, g2, g3⟩) rfl (by simp) (by simp) (by simp)
          refine wp_value (v := .tuple #[.bool true, e.key, e.val]) (w' := { w with heap := w.heap.setIfInBounds bl (.mapIter (some mb) ck (seen.push e.born) ck), drawn := m }) (by simp [execOp, ho, hx, hrun]) ?_
          refine fin hd hn q1 q2 q3 q4 (B := []) ?_ List.nodup_nil (by simp) (by simp) rfl (by simp) (by simp) (by simp) hK
          simp only [RepS, RepA, and_true]
          exact ⟨_, rfl, by simp only [RepAs, RepA, RepD]; exact ⟨trivial, (RepC.toD k _ _ g2), g3.av, trivial⟩⟩
    · cases hev
  · cases hev

theorem op_entry {x : Operand} (ho : o.op = .entry x) (hev : evOp T E o fr K = some r) (hF : RepF Pr w fr a.tmps F) (hP : PrOK Pr w) (hd : DOK o a) (hn : Nx K r o.dst Pr w a F next) : o.wp P a w next Q := by
  simp only [evOp, ho] at hev
  split at hev
  · rename_i s
    split at hev
    · rename_i pre k b es rem x rest hf
      have hl := find_look s fr [] _ _ _ hf
      have hr := hF.rep s
      rw [hl] at hr
      simp only [RepS] at hr
      obtain ⟨bl, hv, hB, hpr, hr⟩ := hr
      have hx : a.eval (.tmp s) = .pointer (some ⟨bl, 0, none⟩) := hv
      rcases hr with ⟨s', n, h1, h2, h3⟩ | ⟨mb, es', ck, seen, h1, h2, hborn, hse, _, hcur⟩
      · cases h3
      · obtain ⟨en, hm, hb, g2, g3⟩ := hcur x rfl
        have hmb := hP.map h2
        have hfind : es'.find? (fun e => e.born == en.born) = some en := by
          rw [← Array.find?_toList]
          have key : ∀ l : List MapEntry, (l.map (·.born)).Nodup → en ∈ l → l.find? (fun e => e.born == en.born) = some en := by
            intro l
            induction l with
            | nil => intro _ h; cases h
            | cons y l ih =>
              intro hn hm
              simp only [List.map_cons, List.nodup_cons] at hn
              rcases List.mem_cons.1 hm with rfl | hm
              · simp
              · have : y.born ≠ en.born := fun e => hn.1 (by rw [e]; exact List.mem_map_of_mem hm)
                rw [List.find?_cons_of_neg (by simpa using this)]
                exact ih hn.2 hm
          exact key _ hborn.1 hm
        refine wp_value (v := .tuple #[en.key, en.val]) (w' := w) ?_ (finV hF hP hd hn ?_ hev)
        · simp [execOp, ho, hx, Instr.entry, Go.getObj, Sem.run, h1, hb, hmb, hfind]
        · simp only [RepA]
          exact ⟨_, rfl, by simp only [RepAs, RepA]; exact ⟨(RepC.toD k _ _ g2), g3.av, trivial⟩⟩
    · cases hev
  · cases hev
end
end Go.Proofs.Ytfpojhphmgnfhaa.Lg
end
