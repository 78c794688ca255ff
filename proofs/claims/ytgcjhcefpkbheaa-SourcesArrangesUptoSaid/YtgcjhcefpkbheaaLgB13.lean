/- Stores into slices that are owned whole; closures; slices that are made; what is left as it is from then on. -/
import Derived.Test.YtgcjhcefpkbheaaLgB1
import Derived.Laws.AppendOwn
import Derived.Laws.BytesArg
import Derived.Laws.MakeOwn
import Derived.Laws.Cover3
section
namespace Go.Proofs.Ytgcjhcefpkbheaa.Lg
open Go
variable {Lz : PM}
section
variable {R : Type} {P : Program} {T : Tab} {E : CallS} {o : Oper} {fr : Fr} {K : Fr → Option R} {r : R} {Pr : PM} {w : World} {a : Act} {F : Nat → List Nat}
  {next : Act → World → Prop} {Q : Exit → Act → World → Prop}

theorem RowsVals.mono' {Pr Pr' : PM} (h : PrLe Pr Pr') {es : List Sh} : ∀ (l : List (RowE es)) (vss : List (List Value)), RowsVals Pr es l vss → RowsVals Pr' es l vss
  | [], [], q => q
  | r :: l, vs :: vss, q => ⟨RowVals.mono h es r vs q.1, RowsVals.mono' h l vss q.2⟩
  | [], _ :: _, q => by simp [RowsVals] at q
  | _ :: _, [], q => by simp [RowsVals] at q

/-- A new row: its first cells are there for ever. -/
theorem finRow {es : List Sh} {l : List (RowE es)} {vss : List (List Value)} {c : Array Value} {e : TypeId} {cap : Nat} {n : Nat} (hdn : w.drawn ≤ n) {fr1 : Fr} {F1 : Nat → List Nat} (hF : RepF Lz Pr w fr1 a.tmps F1) (hsub : ∀ t b, b ∈ F1 t → ∃ t', b ∈ F t') (hP : PrOK Pr w) (hd : DOK o a) (hn : Nx Lz K r o.dst Pr w a F next)
    (hv : RowsVals Pr es l vss) (hc : ∀ (j : Nat) (v : Value), vss.flatten[j]? = some v → c[j]? = some v) (hcap : l.length ≤ cap) (hsz : cap * es.length ≤ c.size)
    (hK : K (dset o.dst (.app es l) fr1) = some r) :
    next (a.put o.dst (.slice (some ⟨w.heap.size, 0, none⟩) l.length cap)) { w with heap := w.heap.push (.cells c e), drawn := n } := by
  have hfl := RowsVals.length l vss hv
  have hnew : ∀ o, Pr w.heap.size o = none := fun o => hP.new o
  have hle : PrLe Pr (prExt Pr w.heap.size 0 vss.flatten) := prExt_le fun o _ => hnew o
  have hx0 : Ext (fun b => ∃ t, b ∈ F t) Pr w Pr { w with heap := w.heap.push (.cells c e), drawn := n } := (Ext.push _ Pr w _).drew hdn
  have hP1 : PrOK (prExt Pr w.heap.size 0 vss.flatten) { w with heap := w.heap.push (.cells c e), drawn := n } := by
    intro b o' v hv'
    simp only [prExt] at hv'
    split at hv'
    · rename_i hq
      obtain ⟨rfl, _, _⟩ := hq
      refine cellX_of ?_ (one_tup (RowsVals.one l vss hv v (List.mem_of_getElem? (by simpa using hv'))))
      simp only [World.cell?, Array.getElem?_push_size]
      simp only [Option.isSome_none, Bool.false_eq_true, if_false]
      exact hc _ v (by simpa using hv')
    · exact hP.push (.cells c e) b o' v hv'
  have hk : ∀ t, Keeps (F1 t) Pr w (prExt Pr w.heap.size 0 vss.flatten) { w with heap := w.heap.push (.cells c e), drawn := n } := by
    intro t b hb
    have := hF.lt t b hb
    exact ⟨by simp only [Array.getElem?_push]; rw [if_neg (by omega)], fun o' => prExt_other (by omega) o'⟩
  have h1 : RepF Lz (prExt Pr w.heap.size 0 vss.flatten) { w with heap := w.heap.push (.cells c e), drawn := n } fr1 a.tmps F1 := hF.mono hle hk
  have hx1 : Ext (fun b => ∃ t, b ∈ F t) Pr w (prExt Pr w.heap.size 0 vss.flatten) { w with heap := w.heap.push (.cells c e), drawn := n } :=
    hx0.pr hle fun b hb _ o' => prExt_other (by omega) o'
  refine fin hd hn h1 hP1 hx1 (fun t b hb => .inl (hsub t b hb)) (B := [w.heap.size]) ?_ (by simp) ?_ (by simp) rfl (by simp) (by simp) (by simp) hK
  · simp only [RepS]
    right
    refine ⟨w.heap.size, 0, cap, c, e, rfl, rfl, by simp, hcap, by omega, ?_, ?_⟩
    · exact vals_rows l vss 0 (RowsVals.mono' hle l vss hv) (fun j v hj => by simpa using prExt_at (lo := 0) hj)
    · intro o' ho'
      simp only [prExt]
      rw [if_neg (by omega)]
      exact hnew o'
  · intro t b hb q
    simp at hb; subst hb
    exact absurd (hF.lt t _ q) (by omega)

theorem op_buildSlice {t : TypeId} {n : Nat} {parts : Array (Nat × Operand)} (hC : Cx P T) (ho : o.op = .buildSlice t n parts) (hev : evOp0 T E o fr K = some r) (hF : RepF Lz Pr w fr a.tmps F) (hP : PrOK Pr w) (hd : DOK o a) (hn : Nx Lz K r o.dst Pr w a F next) : o.wp P a w next Q := by
  simp only [evOp0, ho] at hev
  replace hev := withT_some hev; obtain ⟨i, hi, hev⟩ := hev
  obtain ⟨tf⟩ := hC.facts hi
  split at hev
  · rename_i l hrows
    replace hev := bif_some hev; obtain ⟨e1, hev⟩ := hev
    replace hev := bif_some hev; obtain ⟨e2, hev⟩ := hev
    replace hev := bif_some hev; obtain ⟨e3, hev⟩ := hev
    have e1 := Nat.eq_of_beq_eq_true e1
    have e2 := Nat.le_of_ble_eq_true e2
    have hne : i.es ≠ [] := by rintro q; simp [q] at e3
    have ha : i.agg = false := by
      cases h : i.agg
      · rfl
      · rw [h] at hev; cases hev
    rw [ha, cond_false] at hev
    obtain ⟨ef⟩ := tf.slice ha (.inl hne)
    have hpl : parts.toList.length = n := by
      rw [← e1]
      have : ∀ (ps : List (Nat × Operand)) (k : Nat) (m : List (RowE i.es)), rowsOf i.es fr k ps = some m → m.length = ps.length := by
        intro ps
        induction ps with
        | nil => intro k m hm; simp [rowsOf] at hm; subst hm; rfl
        | cons p ps ih =>
          intro k m hm
          obtain ⟨j, x⟩ := p
          simp only [rowsOf] at hm
          replace hm := bif_some hm; obtain ⟨_, hm⟩ := hm
          split at hm
          · rename_i r' l2 _ hr2
            simp at hm; subst hm
            simp [ih _ _ hr2]
          · cases hm
      exact (this _ _ _ hrows).symm
    have go : ∀ (c0 : Array Value), c0.size = n * i.es.length → (∀ cells, Instr.fill (fun j => some (j * i.es.length, i.es.length)) c0 (parts.toList.map fun x => (x.1, a.eval x.2)) = some cells →
        (execOp a.eval o).run P w = .ok (.value (.slice (some ⟨w.heap.size, 0, none⟩) n n)) { w with heap := w.heap.push (.cells cells ef.e) }) → o.wp P a w next Q := by
      intro c0 hc0 hrun
      obtain ⟨vss, cells', h1, h2, h3⟩ := rows_fill hF parts.toList 0 l c0 hrows (by rw [hpl, hc0]; simp)
      have hfl := RowsVals.length l vss h1
      have hfull : cells'.toList = vss.flatten := by
        rw [h3]; unfold spl; simp only [Nat.zero_mul, List.take_zero, List.nil_append, Nat.zero_add]
        rw [List.drop_eq_nil_of_le (by rw [hfl, e1]; simp [hc0])]; simp
      refine wp_value (hrun cells' h2) ?_
      have := finRow (c := cells') (e := ef.e) (cap := n) (n := w.drawn) (Nat.le_refl _) hF (fun t b hb => ⟨t, hb⟩) hP hd hn h1 (fun j v hj => by rw [← Array.getElem?_toList, hfull]; exact hj) (by omega) (by
        have : cells'.size = l.length * i.es.length := by rw [← hfl, ← hfull]; simp
        rw [this, e1]; exact Nat.le_refl _) hev
      rw [e1] at this
      exact this
    by_cases hn0 : n = 0
    · subst hn0
      have hnil : parts.toList = [] := List.eq_nil_of_length_eq_zero hpl
      refine go #[] (by simp) fun cells hcells => ?_
      rw [hnil] at hcells
      simp [Instr.fill] at hcells; subst hcells
      have hp' : parts = #[] := by cases parts; simp at hnil; simp [hnil]
      have hr0 : Array.range 0 = #[] := rfl
      simp [execOp, ho, Instr.buildSlice, run_underlying ef.hd, ef.run_size, hp', Instr.fill, newRow, hr0]
    · refine go ((Array.range (n * i.es.length)).map (ef.z.cells[· % ef.z.cells.size]!)) (by simp) fun cells hcells => ?_
      have h24 : ¬ n * ef.f.size > 2 ^ 24 := by
        rw [ef.hs]
        have : (2 : Nat) ^ 24 = 16777216 := by decide
        omega
      have h0 : ¬ n * ef.f.size = 0 := by
        rw [ef.hs]
        have : i.es.length ≠ 0 := by simpa using hne
        exact Nat.mul_ne_zero hn0 this
      have := run_buildSlice (P := P) w t ef.e n (parts.map fun (x : Nat × Operand) => (x.1, a.eval x.2)) cells ef.f ef.z ef.hd ef.hf ef.hz h24 h0 (by rw [ef.hs]; simpa using hcells)
      simp only [execOp, ho]
      simp [this]
  · cases hev

/-- How long a part of a slice is that is owned whole. -/
theorem own_len {t : TypeId} {i : TI} {c : Call} {s d lo hi : Nat} {es : List Sh} {l : List (RowE es)} (tf : TyF P t i) (ho : o.op = .call c) (hc : c.callee = .builtin .len) (hA : c.args = #[.tmp s]) (hT : c.argTypes = #[t]) (hF : RepF Lz Pr w fr a.tmps F) (hvw : view s fr = some (d, lo, hi, ⟨es, l⟩))
    (hev : (bif i.agg || (Sh.eqs? es i.es).isNone || es.isEmpty then none else K (dset o.dst (.val (.d (.int .i64 ((hi : Int) - lo)))) fr)) = some r) :
    (∀ w, (execOp a.eval o).run P w = .ok (.value (.int .i64 ((hi : Int) - lo))) w) ∧ K (dset o.dst (.val (.d (.int .i64 ((hi : Int) - lo)))) fr) = some r := by
  obtain ⟨hl, ⟨p, len, cap, q1, q2, q3, q4⟩, _⟩ := view_sound hF hvw
  cases hb : (i.agg || (Sh.eqs? es i.es).isNone || es.isEmpty)
  · rw [hb, cond_false] at hev
    obtain ⟨ha, he, hne⟩ := own_cond hb
    obtain ⟨ef⟩ := tf.slice ha (.inl (he ▸ hne))
    refine ⟨fun w => ?_, hev⟩
    have hx : a.eval (.tmp s) = _ := q4
    have e : ((hi - lo : Nat) : Int) = (hi : Int) - lo := by omega
    simp [execOp, ho, resolve, hc, hA, hT, invoke, builtin, Builtin.len_, hx, run_underlying ef.hd, goInt, e]
  · rw [hb, cond_true] at hev; cases hev
theorem op_len {c : Call} (hC : Cx P T) (ho : o.op = .call c) (hc : c.callee = .builtin .len) (hev : evOp0 T E o fr K = some r) (hF : RepF Lz Pr w fr a.tmps F) (hP : PrOK Pr w) (hd : DOK o a) (hn : Nx Lz K r o.dst Pr w a F next) : o.wp P a w next Q := by
  simp only [evOp0, ho, hc] at hev
  split at hev
  · rename_i x t hargs htys
    replace hev := withT_some hev; obtain ⟨i, hi, hev⟩ := hev
    obtain ⟨tf⟩ := hC.facts hi
    have hA : c.args = #[x] := by apply Array.toList_inj.1; simpa using hargs
    have hT : c.argTypes = #[t] := by apply Array.toList_inj.1; simpa using htys
    cases hvw : viewO fr x with
    | some vw =>
      obtain ⟨d, lo, hi', es, l⟩ := vw
      rw [hvw] at hev
      obtain ⟨s, rfl, hvw⟩ := viewO_tmp hvw
      obtain ⟨h1, h3⟩ := own_len tf ho hc hA hT hF hvw hev
      exact wp_value (h1 w) (finV hF hP hd hn (x := .d (.int .i64 ((hi' : Int) - lo))) (by simp [RepA, RepD]) h3)
    | none =>
    rw [hvw] at hev
    dsimp only at hev
    split at hev
    · rename_i v ha hx
      replace hev := bif_some hev; obtain ⟨hfit, hev⟩ := hev
      have hxr := rdO_sound hF hx
      split at hev
      · rename_i s
        simp only [RepA, RepD] at hxr
        refine wp_value (v := .int .i64 s.length) (w' := w) ?_ (finV hF hP hd hn (x := .d (.int .i64 s.length)) (by simp [RepA, RepD]) hev)
        simp [execOp, ho, resolve, hc, hA, hT, invoke, builtin, Builtin.len_, hxr, run_underlying (tf.str ha (fitsV_str hfit)), goInt, str_size]
      · rename_i es l
        obtain ⟨hsh, hes⟩ := fitsV_sl hfit
        obtain ⟨ef⟩ := tf.slice ha (.inr ⟨es, hsh⟩)
        simp only [RepA, RepD, RepC] at hxr
        obtain ⟨p, len, cap, hv, hlen, hc', hrow⟩ := hxr
        subst hlen
        refine wp_value (v := .int .i64 l.length) (w' := w) ?_ (finV hF hP hd hn (x := .d (.int .i64 l.length)) (by simp [RepA, RepD]) hev)
        simp [execOp, ho, resolve, hc, hA, hT, invoke, builtin, Builtin.len_, hv, run_underlying ef.hd, goInt]
      · cases hev
    · cases hev
  · cases hev

theorem bytes_fold : ∀ (ns : List Int) (b : ByteArray), ns.foldl (fun r n => r.push (UInt8.ofNat n.toNat)) b = ⟨b.data ++ (ns.map fun n => UInt8.ofNat n.toNat).toArray⟩
  | [], b => by simp
  | n :: ns, b => by
    rw [List.foldl_cons, bytes_fold ns]
    simp [ByteArray.push]

theorem op_convert {t u : TypeId} {x : Operand} (hC : Cx P T) (ho : o.op = .convert u t x) (hev : evOp0 T E o fr K = some r) (hF : RepF Lz Pr w fr a.tmps F) (hP : PrOK Pr w) (hd : DOK o a) (hn : Nx Lz K r o.dst Pr w a F next) : o.wp P a w next Q := by
  simp only [evOp0, ho] at hev
  replace hev := withT_some hev; obtain ⟨i, hi, hev⟩ := hev
  replace hev := withT_some hev; obtain ⟨j, hj, hev⟩ := hev
  obtain ⟨tf⟩ := hC.facts hi
  obtain ⟨tj⟩ := hC.facts hj
  split at hev
  · rename_i k k0 k' n ha hs ha' hs' hx
    have hxr := rdO_sound hF hx
    simp only [RepA, RepD] at hxr
    refine wp_value (v := .int k (k.wrap n)) (w' := w) ?_ (finV hF hP hd hn (x := .d (.int k (k.wrap n))) (by simp [RepA, RepD]) hev)
    simp [execOp, ho, hxr, convert, run_underlying (tf.int ha hs), run_underlying (tj.int ha' hs'), Conv.intToInt]
  · rename_i s ha hs ha' hs' hx
    have hxr := rdO_sound hF hx
    simp only [RepA, RepD] at hxr
    refine wp_value (v := .string ⟨s.toArray⟩) (w' := w) ?_ (finV hF hP hd hn (x := .d (.str s)) (by simp [RepA, RepD]) hev)
    simp [execOp, ho, hxr, convert, run_underlying (tf.str ha hs), run_underlying (tj.str ha' hs')]
  · rename_i l ha hs ha' hs' hx
    have hxr := rdO_sound hF hx
    simp only [RepA, RepD, RepC] at hxr
    obtain ⟨p, len, cap, hv, hlen, hc, hrow⟩ := hxr
    subst hlen
    obtain ⟨ef⟩ := tj.slice ha' (.inr ⟨_, hs'⟩)
    have hes : j.es = [.int .u8] := by
      obtain ⟨d, f, z, hd', hf, hsz, hz, hzb, desc⟩ := tj
      cases d <;> simp only [descB, ha', hs', shB_iff, Bool.and_eq_true] at desc <;> try (first | (simp at desc; done) | (simp [mpB, hs'] at desc; done))
      simpa using desc.1.1.1.1.2.symm
    have hel := ef.el
    rw [hes] at hel
    have hue : P.underlying ef.e = some (.int .u8) := by
      cases hq : P.underlying ef.e with
      | none => simp [hq, elB] at hel
      | some d => cases d <;> simp [hq, elB] at hel; subst hel; rfl
    refine wp_value (v := .string ⟨(bytesStr l).toArray⟩) (w' := w) ?_ (finV hF hP hd hn (x := .d (.str (bytesStr l))) (by simp [RepA, RepD]) hev)
    have hconv : (Conv.bytesToString (.slice p l.length cap)).run P w = .ok (.string ⟨(bytesStr l).toArray⟩) w := by
      by_cases hl : l = []
      · subst hl
        cases p with
        | none => simp [Conv.bytesToString, bytesStr]; rfl
        | some ad =>
          have := run_bytesToString (P := P) w ad 0 cap [] (by simp [loadCells, loadCellsFrom])
          simp only [List.foldl_nil] at this
          exact this
      · replace hrow := hrow.resolve_left hl; obtain ⟨b, off, rfl, hrow⟩ := hrow
        have hload := run_loadCells_list (P := P) w ⟨b, off, none⟩ (l.map fun r => Value.int .u8 r.1) (fun q v hq => by
          rw [List.getElem?_map] at hq
          cases hlq : l[q]? with
          | none => simp [hlq] at hq
          | some x =>
            simp [hlq] at hq; subst hq
            have := hrow q x hlq
            simp only [RepRow, RepC] at this
            obtain ⟨⟨u, hu, rfl⟩, _⟩ := this
            rw [Addr.add_lit]
            exact hP.cell (by simpa using hu) rfl)
        have := run_bytesToString (P := P) w ⟨b, off, none⟩ l.length cap (l.map fun r => r.1) (by simpa [Function.comp_def] using hload)
        rw [this, bytes_fold]
        congr 2
        simp [bytesStr, Function.comp_def]
    simp [execOp, ho, hv, convert, run_underlying (tf.str ha hs), run_underlying ef.hd, run_underlying hue, hconv]
  · cases hev
end
end Go.Proofs.Ytgcjhcefpkbheaa.Lg
end

section
namespace Go.Proofs.Ytgcjhcefpkbheaa.Lg
open Go
variable {Lz : PM}
section
variable {R : Type} {P : Program} {T : Tab} {E : CallS} {o : Oper} {fr : Fr} {K : Fr → Option R} {r : R} {Pr : PM} {w : World} {a : Act} {F : Nat → List Nat}
  {next : Act → World → Prop} {Q : Exit → Act → World → Prop}

theorem first_cells {es : List Sh} {l : List (RowE es)} {p : Option Addr} {cap : Nat} (hP : PrOK Pr w) (hrow : l = [] ∨ ∃ b off, p = some ⟨b, off, none⟩ ∧ ∀ i x, l[i]? = some x → RepRow Pr es x b (off + i * es.length)) :
    ∃ uss, RowsVals Pr es l uss ∧ ∀ n : Nat, (Builtin.firstCells es.length l.length (.slice p l.length cap)).run P { w with drawn := n } = .ok uss.flatten.toArray { w with drawn := n } := by
  by_cases hl : l = []
  · subst hl
    refine ⟨[], trivial, fun n => ?_⟩
    cases p <;> simp [Builtin.firstCells, loadCells, loadCellsFrom]
  · replace hrow := hrow.resolve_left hl; obtain ⟨b, off, rfl, hrow⟩ := hrow
    obtain ⟨uss, h1, h2⟩ := rows_vals l off hrow
    refine ⟨uss, h1, fun n => ?_⟩
    have := run_loadCells_list (P := P) { w with drawn := n } ⟨b, off, none⟩ uss.flatten (fun j v hj => by rw [Addr.add_lit]; exact hP.cell (h2 j v hj) (one_tup (RowsVals.one l uss h1 v (List.mem_of_getElem? hj))))
    rw [RowsVals.length l uss h1] at this
    simpa [Builtin.firstCells] using this

/-! ### A slice that is owned whole -/
theorem RowsVals.take {es : List Sh} : ∀ (n : Nat) (l : List (RowE es)) (vss : List (List Value)), RowsVals Pr es l vss → RowsVals Pr es (l.take n) (vss.take n)
  | 0, _, _, _ => by simp [RowsVals]
  | n + 1, [], [], _ => by simp [RowsVals]
  | n + 1, r :: l, vs :: vss, h => ⟨h.1, RowsVals.take n l vss h.2⟩
  | _ + 1, [], _ :: _, h => by simp [RowsVals] at h
  | _ + 1, _ :: _, [], h => by simp [RowsVals] at h
theorem RowsVals.take_flat {es : List Sh} : ∀ (n : Nat) (l : List (RowE es)) (vss : List (List Value)), RowsVals Pr es l vss → ∀ (j : Nat) (v : Value), (vss.take n).flatten[j]? = some v → vss.flatten[j]? = some v
  | 0, _, _, _, j, v, hj => by simp at hj
  | n + 1, [], [], _, j, v, hj => by simp at hj
  | n + 1, r :: l, vs :: vss, h, j, v, hj => by
    rw [List.take_succ_cons, List.flatten_cons] at hj
    rw [List.flatten_cons]
    by_cases q : j < vs.length
    · rw [List.getElem?_append_left q] at hj ⊢; exact hj
    · rw [List.getElem?_append_right (by omega)] at hj ⊢
      exact RowsVals.take_flat n l vss h.2 _ v hj
  | _ + 1, [], _ :: _, h, _, _, _ => by simp [RowsVals] at h
  | _ + 1, _ :: _, [], h, _, _, _ => by simp [RowsVals] at h
theorem zero_size {i : TI} {t : TypeId} (ef : ElF P t i) : ef.z.cells.size = i.es.length := by
  have : ∀ (es : List Sh) (vs : List Value), zerosB es vs = true → vs.length = es.length := by
    intro es
    induction es with
    | nil => intro vs h; cases vs <;> simp_all [zerosB]
    | cons e es ih => intro vs h; cases vs with
      | nil => simp [zerosB] at h
      | cons v vs => simp only [zerosB, Bool.and_eq_true] at h; simp [ih vs h.2]
  simpa using this _ _ ef.hzb
/-- A new row that is owned whole. -/
theorem finOwn {es : List Sh} {l : List (RowE es)} {vss : List (List Value)} {c : Array Value} {e : TypeId} {cap : Nat} {n : Nat} (hdn : w.drawn ≤ n) {fr1 : Fr} {F1 : Nat → List Nat} (hF : RepF Lz Pr w fr1 a.tmps F1) (hsub : ∀ t b, b ∈ F1 t → ∃ t', b ∈ F t') (hP : PrOK Pr w) (hd : DOK o a) (hn : Nx Lz K r o.dst Pr w a F next)
    (hv : RowsVals Pr es l vss) (hc : ∀ (j : Nat) (v : Value), vss.flatten[j]? = some v → c[j]? = some v) (hcap : l.length ≤ cap) (hsz : cap * es.length ≤ c.size)
    (hK : K (dset o.dst (.own es l) fr1) = some r) :
    next (a.put o.dst (.slice (some ⟨w.heap.size, 0, none⟩) l.length cap)) { w with heap := w.heap.push (.cells c e), drawn := n } := by
  have hx0 : Ext (fun b => ∃ t, b ∈ F t) Pr w Pr { w with heap := w.heap.push (.cells c e), drawn := n } := (Ext.push _ Pr w _).drew hdn
  have hP1 : PrOK Pr { w with heap := w.heap.push (.cells c e), drawn := n } := hP.push (.cells c e)
  have h1 : RepF Lz Pr { w with heap := w.heap.push (.cells c e), drawn := n } fr1 a.tmps F1 := hF.mono (PrLe.refl _) fun t b hb => by
    have := hF.lt t b hb
    exact ⟨by simp only [Array.getElem?_push]; rw [if_neg (by omega)], fun _ => rfl⟩
  refine fin hd hn h1 hP1 hx0 (fun t b hb => .inl (hsub t b hb)) (B := [w.heap.size]) ?_ (by simp) ?_ (by simp) rfl (by simp) (by simp) (by simp) hK
  · simp only [RepS]
    right
    exact ⟨w.heap.size, 0, cap, c, e, vss, rfl, rfl, by simp, hcap, by omega, fun o' _ => hP.new o', hv, fun j v hj => by rw [Nat.zero_add]; exact hc j v hj⟩
  · intro t b hb q
    simp at hb; subst hb
    exact absurd (hF.lt t _ q) (by omega)
theorem op_appendOwn {c : Call} {t u : TypeId} {i i' : TI} {s d hi : Nat} {es : List Sh} {l : List (RowE es)} {x : Operand} (tf : TyF P t i) (tu : TyF P u i') (ho : o.op = .call c) (hc : c.callee = .builtin .append) (hA : c.args = #[.tmp s, x]) (hT : c.argTypes = #[t, u])
    (hvw : view s fr = some (d, 0, hi, ⟨es, l⟩))
    (hev : (match rdO fr x with
      | some (.d (.sl es' l')) => match Sh.eqs? es' es, Sh.eqs? es i.es, Sh.eqs? es i'.es with
        | some ⟨h⟩, some _, some _ => bif i.agg || i'.agg || es.isEmpty then none else chk (((hi : Int) + l'.length) * i.eb < lim) (K (dset o.dst (.own es (l.take hi ++ (h ▸ l'))) ((d, .unk) :: fr)))
        | _, _, _ => none
      | _ => none) = some r) (hF : RepF Lz Pr w fr a.tmps F) (hP : PrOK Pr w) (hd : DOK o a) (hn : Nx Lz K r o.dst Pr w a F next) : o.wp P a w next Q := by
  obtain ⟨hl, ⟨p, len, cap, q1, q2, q3, q4⟩, hbl, p', cap', r1, r2, r3⟩ := view_sound hF hvw
  rw [q1] at r1
  simp only [Value.slice.injEq] at r1
  obtain ⟨rfl, rfl, rfl⟩ := r1
  rw [Nat.zero_mul, addr0, ite_self, Nat.sub_zero, Nat.sub_zero] at q4
  split at hev
  · rename_i es' l' hx
    split at hev
    · rename_i e1 e2 e3 g1 g2 g3
      have e2 := e2.down; have e3 := e3.down
      subst e1
      cases hb : (i.agg || i'.agg || es'.isEmpty)
      · rw [hb, cond_false] at hev
        simp only [Bool.or_eq_false_iff] at hb
        obtain ⟨⟨ha, ha'⟩, hne⟩ := hb
        have hne' : es' ≠ [] := by rintro rfl; simp at hne
        obtain ⟨hlim, hev⟩ := chk_some hev
        obtain ⟨ef⟩ := tf.slice ha (.inl (e2 ▸ hne'))
        obtain ⟨eu⟩ := tu.slice ha' (.inl (e3 ▸ hne'))
        have hxr := rdO_sound hF hx
        simp only [RepA, RepD, RepC] at hxr
        obtain ⟨px, lenx, capx, hvx, hlenx, hcx, hrowx⟩ := hxr
        subst hlenx
        obtain ⟨uss, hu1, hu2⟩ := first_cells (P := P) (cap := capx) hP hrowx
        have hsz : ∀ w', (Go.sizeOf ef.e).run P w' = .ok es'.length w' := fun w' => by rw [e2]; exact ef.run_size w'
        have hfl := RowsVals.length l' uss hu1
        have hone := RowsVals.one l' uss hu1
        have hpos : 0 < es'.length := List.length_pos_iff.2 hne'
        have hux : ∀ w', (underlying u).run P w' = .ok (.slice eu.e) w' := fun w' => run_underlying eu.hd w'
        have hvs : a.eval (.tmp s) = .slice p hi cap := q4
        have h1 : RepF Lz Pr w ((d, .unk) :: fr) a.tmps (fun t => if t = d then [] else F t) := hF.plain (fun _ _ => rfl) (by simp [RepS]) rfl (by simp) (by simp)
        have h3 : ∀ t b, b ∈ (fun t => if t = d then [] else F t) t → ∃ t', b ∈ F t' := fun t b hb => by
          by_cases e : t = d
          · simp [e] at hb
          · simp only [if_neg e] at hb; exact ⟨t, hb⟩
        have hm : (l.take hi).length = hi := by rw [List.length_take]; omega
        have start : ∀ {v : Value} {w' : World}, (Builtin.append_ #[t, u] o.type #[.slice p hi cap, .slice px l'.length capx]).run P w = .ok v w' → (execOp a.eval o).run P w = .ok (.value v) w' := by
          intro v w' h
          simp only [execOp, ho, resolve, hc]
          simp [invoke, builtin, hA, hT, hvx, hvs, h]
        have h2 := hF.rep d
        rw [hl, q1] at h2
        simp only [RepS] at h2
        have fresh : ∀ (vss : List (List Value)), RowsVals Pr es' (l.take hi) vss → (∀ n : Nat, (Builtin.firstCells es'.length hi (.slice p hi cap)).run P { w with drawn := n } = .ok vss.flatten.toArray { w with drawn := n }) → hi ≤ cap → cap < hi + l'.length → o.wp P a w next Q := by
          intro vss hv1 hv2 hcp hgt
          have hvl := RowsVals.length _ vss hv1
          rw [hm] at hvl
          have hbnd : Builtin.nextslicecap (hi + l'.length) cap * i.eb ≤ 281474976710656 := by
            have := nextslicecap_le (need := hi + l'.length) (old := cap) hgt
            have h' : ((hi : Int) + l'.length) * i.eb < 140737488355328 := hlim
            have hcst : (((hi + l'.length) * i.eb : Nat) : Int) = ((hi : Int) + l'.length) * i.eb := by rw [Int.natCast_mul, Int.natCast_add]
            have h'' : (hi + l'.length) * i.eb < 140737488355328 := by rw [← hcst] at h'; omega
            calc _ ≤ 2 * (hi + l'.length) * i.eb := Nat.mul_le_mul_right _ this
              _ = 2 * ((hi + l'.length) * i.eb) := by rw [Nat.mul_assoc]
              _ ≤ _ := by omega
          have hnotle : ¬ (hi + l'.length ≤ cap) := by omega
          generalize hcap : grownCap w (hi + l'.length) cap ef.e = ncap
          have hncap : hi + l'.length ≤ ncap := by rw [← hcap]; exact grownCap_ge _ _ _ _
          have hrun : (Builtin.append_ #[t, u] o.type #[.slice p hi cap, .slice px l'.length capx]).run P w =
              .ok (.slice (some ⟨w.heap.size, 0, none⟩) (hi + l'.length) ncap) (w.drew.alloc (.cells (vss.flatten.toArray ++ uss.flatten.toArray ++ Builtin.zeroCells ef.z.cells (ncap - (hi + l'.length))) ef.e)) := by
            have hv2' : (Builtin.firstCells es'.length hi (.slice p hi cap)).run P w.drew = .ok vss.flatten.toArray w.drew := hv2 (w.drawn + 1)
            have hu2' : (Builtin.firstCells es'.length l'.length (.slice px l'.length capx)).run P w.drew = .ok uss.flatten.toArray w.drew := hu2 (w.drawn + 1)
            have hb0 : i.eb ≠ 0 := ef.hb ▸ ef.hb0
            have hnc : ¬ (281474976710656 < Builtin.nextslicecap (hi + l'.length) cap * i.eb) := by omega
            rw [← hcap]
            simp [Builtin.append_, run_underlying ef.hd, hux, hsz, Builtin.lenOf, hnotle, run_typeInfo _ ef.hf, ef.hb, hb0, hnc, Question.forced, hv2', hu2', ef.run_zero, newRow, grownCap]
            congr 2
            apply Array.ext'
            simp [List.append_assoc]
          have hzs : (Builtin.zeroCells ef.z.cells (ncap - (hi + l'.length))).size = (ncap - (hi + l'.length)) * es'.length := by rw [size_zeroCells, zero_size ef]; exact congrArg _ (congrArg List.length e2.symm)
          refine wp_value (start hrun) ?_
          have hfin := finOwn (l := l.take hi ++ l') (vss := vss ++ uss) (c := vss.flatten.toArray ++ uss.flatten.toArray ++ Builtin.zeroCells ef.z.cells (ncap - (hi + l'.length))) (e := ef.e) (cap := ncap) (n := w.drawn + 1) (Nat.le_succ _) h1 h3 hP hd hn (RowsVals.append _ _ _ _ hv1 hu1) (fun j v hj => by
            rw [List.flatten_append] at hj
            have hlt := (List.getElem?_eq_some_iff.1 hj).1
            rw [Array.getElem?_append_left (by simpa using hlt)]
            simpa using hj) (by rw [List.length_append, hm]; exact hncap) (by
              simp only [Array.size_append, hzs, List.size_toArray, hvl, hfl]
              rw [← Nat.add_mul, ← Nat.add_mul]
              refine Nat.mul_le_mul_right _ ?_
              omega) hev
          rw [List.length_append, hm] at hfin
          exact hfin
        rcases h2 with ⟨hv, hl0, hB0⟩ | ⟨b, off, cap', cc, T', vss, hv, hB1, hblk, hcap, hfit, hspare, hrows, hcells⟩
        · simp only [Value.slice.injEq] at hv
          obtain ⟨rfl, _, rfl⟩ := hv
          subst hl0
          have hi0 : hi = 0 := by simp at q3; exact q3
          subst hi0
          by_cases hz : l' = []
          · subst hz
            have hrun : (Builtin.append_ #[t, u] o.type #[.slice none 0 0, .slice px 0 capx]).run P w = .ok (.slice none 0 0) w := by
              have hu0' := hu2 w.drawn
              simp only [List.length_nil] at hu0'
              have hflat : uss.flatten = [] := List.eq_nil_of_length_eq_zero (by simpa using hfl)
              rw [hflat] at hu0'
              simp [Builtin.append_, run_underlying ef.hd, hux, hsz, Builtin.lenOf, hu0']
            refine wp_value (start hrun) (fin hd hn h1 hP (Ext.refl _ _ _) (fun t b hb => .inl (h3 t b hb)) (B := []) (show RepS Lz Pr w (.own es' ([] ++ [])) (.slice none 0 0) [] by simp [RepS]) List.nodup_nil (by simp) (by simp) rfl (by simp) (by simp) (by simp) hev)
          · have hpl' : 0 < l'.length := List.length_pos_iff.2 hz
            exact fresh [] (by simp [RowsVals]) (fun n => by simp [Builtin.firstCells, loadCells]) (Nat.le_refl _) (by simpa using hpl')
        · simp only [Value.slice.injEq] at hv
          obtain ⟨rfl, _, rfl⟩ := hv
          have ht1 := RowsVals.take hi l vss hrows
          have htl := RowsVals.length _ _ ht1
          rw [hm] at htl
          have htc : ∀ (j : Nat) (v : Value), (vss.take hi).flatten[j]? = some v → cc[off + j]? = some v := fun j v hj => hcells j v (RowsVals.take_flat hi l vss hrows j v hj)
          by_cases hroom : hi + l'.length ≤ cap
          · -- in place
            have hcs : off + hi * es'.length + uss.flatten.length ≤ cc.size := by
              rw [hfl]
              have := Nat.mul_le_mul_right es'.length hroom
              rw [Nat.add_mul] at this; omega
            have hst := run_storeCells_at P b (off + hi * es'.length) T' uss.flatten 0 cc w hblk (by simpa using hcs) hone
            simp only [Nat.add_zero] at hst
            generalize hw' : w.setRow b (cc.toList.take (off + hi * es'.length) ++ uss.flatten ++ cc.toList.drop (off + hi * es'.length + uss.flatten.length)).toArray = w' at hst
            have hrun : (Builtin.append_ #[t, u] o.type #[.slice (some ⟨b, off, none⟩) hi cap, .slice px l'.length capx]).run P w = .ok (.slice (some ⟨b, off, none⟩) (hi + l'.length) cap) w' := by
              have hu0' := hu2 w.drawn
              simp [Builtin.append_, run_underlying ef.hd, hux, hsz, Builtin.lenOf, hroom, Addr.add_lit]
              rw [show ({ w with drawn := w.drawn } : World) = w from rfl] at hu0'
              simp [hu0', hst]
            have hbl' : w'.heap[b]? = some (.cells (cc.toList.take (off + hi * es'.length) ++ uss.flatten ++ cc.toList.drop (off + hi * es'.length + uss.flatten.length)).toArray T' (0, 0)) := by
              rw [← hw']; exact setRow_heap w b cc _ T' (0, 0) hblk
            have hoth : ∀ k, k ≠ b → w'.heap[k]? = w.heap[k]? := fun k hk => by rw [← hw']; exact setRow_other w b k _ hk
            have hsize : w'.heap.size = w.heap.size := by rw [← hw']; simp
            have hbB : b ∈ F d := by rw [hB1]; simp
            have hbF : ∀ t, b ∉ (fun t => if t = d then [] else F t) t := fun t q => by
              by_cases e : t = d
              · simp [e] at q
              · simp only [if_neg e] at q; exact hF.apart d t (Ne.symm e) b hbB q
            have hlow : ∀ o', o' < off + hi * es'.length → (cc.toList.take (off + hi * es'.length) ++ uss.flatten ++ cc.toList.drop (off + hi * es'.length + uss.flatten.length)).toArray[o']? = cc[o']? := by
              intro o' ho'
              rw [List.getElem?_toArray, List.append_assoc, List.getElem?_append_left (by simp; omega), List.getElem?_take, if_pos ho']
              simp
            have hP' : PrOK Pr w' := by
              intro b' o' v hv'
              by_cases e : b' = b
              · subst e
                have hlt : o' < off := by
                  rcases Nat.lt_or_ge o' off with h | h
                  · exact h
                  · rw [hspare o' h] at hv'; cases hv'
                rw [cellX_cells hbl', hlow o' (by omega), ← cellX_cells hblk]; exact hP _ _ _ hv'
              · have := hP b' o' v hv'
                simp only [cellX, World.cell?, hoth b' e] at this ⊢; exact this
            have hk : ∀ t, Keeps ((fun t => if t = d then [] else F t) t) Pr w Pr w' := fun t b' hb' => ⟨hoth b' (by intro e; subst e; exact hbF t hb'), fun o' => rfl⟩
            have hx' : Ext (fun b => ∃ t, b ∈ F t) Pr w Pr w' := by
              refine ⟨by rw [← hw']; rfl, by rw [← hw']; rfl, by rw [← hw']; rfl, by omega, PrLe.refl _, fun k hk hna => ?_, by rw [← hw']; exact Nat.le_refl _⟩
              have hkb : k ≠ b := by intro e; subst e; exact hna ⟨d, hbB⟩
              exact ⟨hoth k hkb, fun o' => rfl⟩
            refine wp_value (start hrun) (fin hd hn (h1.mono (PrLe.refl _) hk) hP' hx' (fun t b hb => .inl (h3 t b hb)) (B := F d) ?_ (hF.nodup d) (fun t b' hb' => by rw [hB1] at hb'; simp at hb'; subst hb'; exact hbF t) (fun b' hb' => .inl ⟨d, hb'⟩) rfl (by simp) (by simp) (by simp) hev)
            simp only [RepS]
            right
            refine ⟨b, off, cap, _, T', vss.take hi ++ uss, by rw [List.length_append, hm], hB1, hbl', by rw [List.length_append, hm]; exact hroom, ?_, hspare, RowsVals.append _ _ _ _ ht1 hu1, ?_⟩
            · simp; omega
            · intro j v hj
              rw [List.flatten_append] at hj
              by_cases hql : j < (vss.take hi).flatten.length
              · rw [List.getElem?_append_left hql] at hj
                rw [hlow _ (by omega)]
                exact htc j v hj
              · rw [List.getElem?_append_right (by omega)] at hj
                have hlt := (List.getElem?_eq_some_iff.1 hj).1
                have htl' : (List.take (off + hi * es'.length) cc.toList).length = off + hi * es'.length := by rw [List.length_take]; simp; omega
                rw [List.getElem?_toArray, List.append_assoc, List.getElem?_append_right (by rw [htl']; omega), htl', List.getElem?_append_left (by omega)]
                rw [show off + j - (off + hi * es'.length) = j - (vss.take hi).flatten.length by omega]
                exact hj
          · refine fresh (vss.take hi) ht1 (fun n => ?_) (by omega) (by omega)
            have := run_loadCells_list (P := P) { w with drawn := n } ⟨b, off, none⟩ (vss.take hi).flatten (fun j v hj => by rw [Addr.add_lit]; show w.cell? _ = _; rw [cell_cells hblk]; exact htc j v hj)
            rw [htl] at this
            simpa [Builtin.firstCells] using this
      · rw [hb, cond_true] at hev; cases hev
    · cases hev
  · cases hev
theorem op_append {c : Call} (hC : Cx P T) (ho : o.op = .call c) (hc : c.callee = .builtin .append) (hev : evOp0 T E o fr K = some r) (hF : RepF Lz Pr w fr a.tmps F) (hP : PrOK Pr w) (hd : DOK o a) (hn : Nx Lz K r o.dst Pr w a F next) : o.wp P a w next Q := by
  simp only [evOp0, ho, hc, evAppend] at hev
  split at hev
  · rename_i t u s x htys hargs
    replace hev := withT_some hev; obtain ⟨i, hi, hev⟩ := hev
    replace hev := withT_some hev; obtain ⟨i', hi', hev⟩ := hev
    obtain ⟨tf⟩ := hC.facts hi
    obtain ⟨tu⟩ := hC.facts hi'
    have hA : c.args = #[.tmp s, x] := by apply Array.toList_inj.1; simpa using hargs
    have hT : c.argTypes = #[t, u] := by apply Array.toList_inj.1; simpa using htys
    cases hvw : view s fr with
    | some vw =>
      obtain ⟨d, a0, hi', es, l⟩ := vw
      rw [hvw] at hev
      cases a0 with
      | succ n => cases hev
      | zero => exact op_appendOwn tf tu ho hc hA hT hvw hev hF hP hd hn
    | none =>
    rw [hvw] at hev
    dsimp only at hev
    split at hev
    · rename_i es l fr' es' l' hg hx
      split at hev
      · rename_i q1 q2 q3 g1 g2 g3
        have e2 := q2.down; have e3 := q3.down
        subst q1
        cases hb : (i.agg || i'.agg || es'.isEmpty)
        · rw [hb, cond_false] at hev
          simp only [Bool.or_eq_false_iff] at hb
          obtain ⟨⟨ha, ha'⟩, hne⟩ := hb
          have hne' : es' ≠ [] := by rintro rfl; simp at hne
          obtain ⟨hlim, hev⟩ := chk_some hev
          obtain ⟨ef⟩ := tf.slice ha (.inl (e2 ▸ hne'))
          obtain ⟨eu⟩ := tu.slice ha' (.inl (e3 ▸ hne'))
          have hxr := rdO_sound hF hx
          simp only [RepA, RepD, RepC] at hxr
          obtain ⟨px, lenx, capx, hvx, hlenx, hcx, hrowx⟩ := hxr
          subst hlenx
          obtain ⟨uss, hu1, hu2⟩ := first_cells (P := P) (cap := capx) hP hrowx
          obtain ⟨B, F', h1, h2, h3, h4, h5, h6⟩ := grow_sound hF hg
          have hsz : ∀ w', (Go.sizeOf ef.e).run P w' = .ok es'.length w' := fun w' => by rw [e2]; exact ef.run_size w'
          have hfl := RowsVals.length l' uss hu1
          have hone := RowsVals.one l' uss hu1
          have hpos : 0 < es'.length := List.length_pos_iff.2 hne'
          have hux : ∀ w', (underlying u).run P w' = .ok (.slice eu.e) w' := fun w' => run_underlying eu.hd w'
          have hu0 := hu2 w.drawn
          obtain ⟨vs, hvs⟩ : ∃ vs, a.tmps.getD s undef = vs := ⟨_, rfl⟩
          have hvs' : a.eval (.tmp s) = vs := hvs
          rw [hvs] at h2
          -- what the machine does
          have start : ∀ {v : Value} {w' : World}, (Builtin.append_ #[t, u] o.type #[vs, .slice px l'.length capx]).run P w = .ok v w' → (execOp a.eval o).run P w = .ok (.value v) w' := by
            intro v w' h
            simp only [execOp, ho, resolve, hc]
            simp [invoke, builtin, hA, hT, hvx, hvs', h]
          simp only [RepS] at h2
          have fresh : ∀ (p : Option Addr) (n cp : Nat), vs = .slice p n cp → n = l.length → n ≤ cp → cp < n + l'.length → (l = [] ∨ ∃ b off, p = some ⟨b, off, none⟩ ∧ ∀ i x, l[i]? = some x → RepRow Pr es' x b (off + i * es'.length)) → o.wp P a w next Q := by
            intro p n cp hv hn' hcp hgt hrow
            subst hn'
            obtain ⟨vss, hv1, hv2⟩ := first_cells (P := P) (cap := cp) hP hrow
            have hvl := RowsVals.length l vss hv1
            have hbnd : Builtin.nextslicecap (l.length + l'.length) cp * i.eb ≤ 281474976710656 := by
              have := nextslicecap_le (need := l.length + l'.length) (old := cp) hgt
              have h' : ((l.length : Int) + l'.length) * i.eb < 140737488355328 := hlim
              have hcst : (((l.length + l'.length) * i.eb : Nat) : Int) = ((l.length : Int) + l'.length) * i.eb := by rw [Int.natCast_mul, Int.natCast_add]
              have h'' : (l.length + l'.length) * i.eb < 140737488355328 := by rw [← hcst] at h'; omega
              calc _ ≤ 2 * (l.length + l'.length) * i.eb := Nat.mul_le_mul_right _ this
                _ = 2 * ((l.length + l'.length) * i.eb) := by rw [Nat.mul_assoc]
                _ ≤ _ := by omega
            have hnotle : ¬ (l.length + l'.length ≤ cp) := by omega
            generalize hcap : grownCap w (l.length + l'.length) cp ef.e = ncap
            have hncap : l.length + l'.length ≤ ncap := by rw [← hcap]; exact grownCap_ge _ _ _ _
            have hrun : (Builtin.append_ #[t, u] o.type #[vs, .slice px l'.length capx]).run P w =
                .ok (.slice (some ⟨w.heap.size, 0, none⟩) (l.length + l'.length) ncap) (w.drew.alloc (.cells (vss.flatten.toArray ++ uss.flatten.toArray ++ Builtin.zeroCells ef.z.cells (ncap - (l.length + l'.length))) ef.e)) := by
              have hv2' : (Builtin.firstCells es'.length l.length (.slice p l.length cp)).run P w.drew = .ok vss.flatten.toArray w.drew := hv2 (w.drawn + 1)
              have hu2' : (Builtin.firstCells es'.length l'.length (.slice px l'.length capx)).run P w.drew = .ok uss.flatten.toArray w.drew := hu2 (w.drawn + 1)
              have hb0 : i.eb ≠ 0 := ef.hb ▸ ef.hb0
              have hnc : ¬ (281474976710656 < Builtin.nextslicecap (l.length + l'.length) cp * i.eb) := by omega
              rw [hv, ← hcap]
              simp [Builtin.append_, run_underlying ef.hd, hux, hsz, Builtin.lenOf, hnotle, run_typeInfo _ ef.hf, ef.hb, hb0, hnc, Question.forced, hv2', hu2', ef.run_zero, newRow, grownCap]
              congr 2
              apply Array.ext'
              simp [List.append_assoc]
            have hzs : (Builtin.zeroCells ef.z.cells (ncap - (l.length + l'.length))).size = (ncap - (l.length + l'.length)) * es'.length := by
              have : ef.z.cells.size = es'.length := by
                have : ∀ (es : List Sh) (vs : List Value), zerosB es vs = true → vs.length = es.length := by
                  intro es
                  induction es with
                  | nil => intro vs h; cases vs <;> simp_all [zerosB]
                  | cons e es ih => intro vs h; cases vs with
                    | nil => simp [zerosB] at h
                    | cons v vs => simp only [zerosB, Bool.and_eq_true] at h; simp [ih vs h.2]
                have := this _ _ ef.hzb
                rw [e2]; simpa using this
              rw [size_zeroCells, this]
            refine wp_value (start hrun) ?_
            have hfin := finRow (l := l ++ l') (vss := vss ++ uss) (c := vss.flatten.toArray ++ uss.flatten.toArray ++ Builtin.zeroCells ef.z.cells (ncap - (l.length + l'.length))) (e := ef.e) (cap := ncap) (n := w.drawn + 1) (Nat.le_succ _) h1 (fun t b hb => ⟨t, h3 t b hb⟩) hP hd hn (RowsVals.append _ _ _ _ hv1 hu1) (fun j v hj => by
              rw [List.flatten_append] at hj
              have hlt := (List.getElem?_eq_some_iff.1 hj).1
              rw [Array.getElem?_append_left (by simpa using hlt)]
              simpa using hj) (by simpa using hncap) (by
                simp only [Array.size_append, hzs, List.size_toArray, hvl, hfl]
                rw [← Nat.add_mul, ← Nat.add_mul]
                refine Nat.mul_le_mul_right _ ?_
                omega) hev
            rw [List.length_append] at hfin
            exact hfin
          rcases h2 with ⟨hv, hl0, hB0⟩ | ⟨b, off, cap, cc, T', hv, hB1, hbl, hcap, hfit, hrows, hspare⟩
          · subst hl0
            by_cases hz : l' = []
            · subst hz
              have hrun : (Builtin.append_ #[t, u] o.type #[vs, .slice px 0 capx]).run P w = .ok (.slice none 0 0) w := by
                have hu0' := hu2 w.drawn
                rw [hv]
                simp only [List.length_nil] at hu0'
                have hflat : uss.flatten = [] := List.eq_nil_of_length_eq_zero (by simpa using hfl)
                rw [hflat] at hu0'
                simp [Builtin.append_, run_underlying ef.hd, hux, hsz, Builtin.lenOf, hu0']
              refine wp_value (start hrun) (fin hd hn h1 hP (Ext.refl _ _ _) (fun t b hb => .inl ⟨t, h3 t b hb⟩) (B := []) (RepS_nil es' Pr w) List.nodup_nil (by simp) (by simp) rfl (by simp) (by simp) (by simp) hev)
            · have hpl' : 0 < l'.length := List.length_pos_iff.2 hz
              exact fresh none 0 0 hv rfl (Nat.le_refl _) (by simpa using hpl') (.inl rfl)
          · by_cases hroom : l.length + l'.length ≤ cap
            · -- in place
              have hcs : off + l.length * es'.length + uss.flatten.length ≤ cc.size := by
                rw [hfl]
                have := Nat.mul_le_mul_right es'.length hroom
                rw [Nat.add_mul] at this; omega
              have hst := run_storeCells_at P b (off + l.length * es'.length) T' uss.flatten 0 cc w hbl (by simpa using hcs) hone
              simp only [Nat.add_zero] at hst
              generalize hw' : w.setRow b (cc.toList.take (off + l.length * es'.length) ++ uss.flatten ++ cc.toList.drop (off + l.length * es'.length + uss.flatten.length)).toArray = w' at hst
              have hrun : (Builtin.append_ #[t, u] o.type #[vs, .slice px l'.length capx]).run P w = .ok (.slice (some ⟨b, off, none⟩) (l.length + l'.length) cap) w' := by
                have hu0' := hu2 w.drawn
                rw [hv]
                simp [Builtin.append_, run_underlying ef.hd, hux, hsz, Builtin.lenOf, hroom, Addr.add_lit]
                rw [show ({ w with drawn := w.drawn } : World) = w from rfl] at hu0'
                simp [hu0', hst]
              have hbl' : w'.heap[b]? = some (.cells (cc.toList.take (off + l.length * es'.length) ++ uss.flatten ++ cc.toList.drop (off + l.length * es'.length + uss.flatten.length)).toArray T' (0, 0)) := by
                rw [← hw']; exact setRow_heap w b cc _ T' (0, 0) hbl
              have hoth : ∀ k, k ≠ b → w'.heap[k]? = w.heap[k]? := fun k hk => by rw [← hw']; exact setRow_other w b k _ hk
              have hsize : w'.heap.size = w.heap.size := by rw [← hw']; simp
              have hbB : b ∈ B := by rw [hB1]; simp
              have hbF : ∀ t, b ∉ F' t := fun t => h5 t b hbB
              have hle : PrLe Pr (prExt Pr b (off + l.length * es'.length) uss.flatten) := prExt_le hspare
              have hlow : ∀ o', o' < off + l.length * es'.length → (cc.toList.take (off + l.length * es'.length) ++ uss.flatten ++ cc.toList.drop (off + l.length * es'.length + uss.flatten.length)).toArray[o']? = cc[o']? := by
                intro o' ho'
                rw [List.getElem?_toArray, List.append_assoc, List.getElem?_append_left (by simp; omega), List.getElem?_take, if_pos ho']
                simp
              have hP' : PrOK (prExt Pr b (off + l.length * es'.length) uss.flatten) w' := by
                intro b' o' v hv'
                simp only [prExt] at hv'
                split at hv'
                · rename_i hq
                  obtain ⟨rfl, g1, g2⟩ := hq
                  have htl : (List.take (off + l.length * es'.length) cc.toList).length = off + l.length * es'.length := by rw [List.length_take]; simp; omega
                  refine cellX_of ?_ (one_tup (RowsVals.one _ _ hu1 v (List.mem_of_getElem? hv')))
                  rw [cell_cells hbl', List.getElem?_toArray, List.append_assoc, List.getElem?_append_right (by rw [htl]; exact g1), htl, List.getElem?_append_left (by omega)]
                  exact hv'
                · by_cases e : b' = b
                  · subst e
                    have hlt : o' < off + l.length * es'.length := by
                      rcases Nat.lt_or_ge o' (off + l.length * es'.length) with h | h
                      · exact h
                      · rw [hspare o' h] at hv'; cases hv'
                    rw [cellX_cells hbl', hlow o' hlt, ← cellX_cells hbl]; exact hP _ _ _ hv'
                  · have := hP b' o' v hv'
                    simp only [cellX, World.cell?, hoth b' e] at this ⊢; exact this
              have hk : ∀ t, Keeps (F' t) Pr w (prExt Pr b (off + l.length * es'.length) uss.flatten) w' := fun t b' hb' =>
                ⟨hoth b' (by intro e; subst e; exact hbF t hb'), fun o' => prExt_other (by intro e; subst e; exact hbF t hb') o'⟩
              have hx' : Ext (fun b => ∃ t, b ∈ F t) Pr w (prExt Pr b (off + l.length * es'.length) uss.flatten) w' := by
                refine ⟨by rw [← hw']; rfl, by rw [← hw']; rfl, by rw [← hw']; rfl, by omega, hle, fun k hk hna => ?_, by rw [← hw']; exact Nat.le_refl _⟩
                have hkb : k ≠ b := by intro e; subst e; exact hna (h4 _ hbB)
                exact ⟨hoth k hkb, fun o' => prExt_other hkb o'⟩
              refine wp_value (start hrun) (fin hd hn (h1.mono hle hk) hP' hx' (fun t b hb => .inl ⟨t, h3 t b hb⟩) (B := B) ?_ h6 h5 (fun b' hb' => .inl (h4 b' hb')) rfl (by simp) (by simp) (by simp) hev)
              simp only [RepS]
              right
              have hvals := rows_vals l off hrows
              obtain ⟨vss, hv1, hv2⟩ := hvals
              refine ⟨b, off, cap, _, T', by simp, hB1, hbl', by simpa using hroom, ?_, ?_, ?_⟩
              · simp; omega
              · intro j x hj
                refine vals_rows (l ++ l') (vss ++ uss) off (RowsVals.append _ _ _ _ (RowsVals.mono' hle _ _ hv1) (RowsVals.mono' hle _ _ hu1)) ?_ j x hj
                intro q v hq
                rw [List.flatten_append] at hq
                have hvl := RowsVals.length l vss hv1
                by_cases hql : q < vss.flatten.length
                · rw [List.getElem?_append_left hql] at hq; exact hle _ _ _ (hv2 q v hq)
                · rw [List.getElem?_append_right (by omega)] at hq
                  have := prExt_at (Pr := Pr) (b := b) (lo := off + l.length * es'.length) hq
                  rw [show off + l.length * es'.length + (q - vss.flatten.length) = off + q by omega] at this
                  exact this
              · intro o' ho'
                simp only [List.length_append, Nat.add_mul] at ho'
                simp only [prExt]
                rw [if_neg (by omega)]
                exact hspare o' (by omega)
            · exact fresh _ _ _ hv rfl hcap (by omega) (.inr ⟨b, off, rfl, hrows⟩)
        · rw [hb, cond_true] at hev; cases hev
      · cases hev
    · cases hev
  · cases hev
end
end Go.Proofs.Ytgcjhcefpkbheaa.Lg
end

section
namespace Go.Proofs.Ytgcjhcefpkbheaa.Lg
open Go
variable {Lz : PM}

/-! ### Maps: what is found, put and left -/
def simpleK : Sh → Bool
  | .int _ | .bool | .str => true
  | _ => false
theorem eqE_iff {k : Sh} (hk : simpleK k = true) (a b : CE k) : eqE k a b = true ↔ a = b := by
  cases k <;> simp [simpleK] at hk <;> simp [eqE]
theorem eqE_self {k : Sh} (hk : simpleK k = true) (a : CE k) : eqE k a a = true := (eqE_iff hk a a).2 rfl
theorem eqE_ne {k : Sh} (hk : simpleK k = true) {a b : CE k} (h : a ≠ b) : eqE k a b = false := by
  cases hb : eqE k a b
  · rfl
  · exact absurd ((eqE_iff hk a b).1 hb) h
theorem keyB_simple {k : Sh} {d : Option TypeDesc} (h : keyB k d = true) : simpleK k = true := by
  unfold keyB at h
  split at h <;> first | rfl | cases h
theorem mget_perm {k : Sh} {es : List Sh} (hk : simpleK k = true) {m m' : List (CE k × RowE es)} (h : m'.Perm m) : (m'.map Prod.fst).Nodup → ∀ key, mget k es m' key = mget k es m key ∧ mhas k es m' key = mhas k es m key := by
  induction h with
  | nil => intro _ key; exact ⟨rfl, rfl⟩
  | cons x _ ih =>
    intro hn key
    simp only [List.map_cons, List.nodup_cons] at hn
    simp only [mget, mhas]
    rw [(ih hn.2 key).1, (ih hn.2 key).2]
    exact ⟨rfl, rfl⟩
  | swap x y l =>
    intro hn key
    simp only [List.map_cons, List.nodup_cons, List.mem_cons, not_or] at hn
    simp only [mget, mhas]
    cases h1 : eqE k key x.1 <;> cases h2 : eqE k key y.1 <;> simp only [cond_true, cond_false, and_self]
    exact absurd (((eqE_iff hk _ _).1 h2).symm.trans ((eqE_iff hk _ _).1 h1)) hn.1.1
  | trans h1 h2 ih1 ih2 =>
    intro hn key
    have hn2 := (h1.map Prod.fst).nodup_iff.1 hn
    exact ⟨(ih1 hn key).1.trans (ih2 hn2 key).1, (ih1 hn key).2.trans (ih2 hn2 key).2⟩
theorem mset_perm {k : Sh} {es : List Sh} (hk : simpleK k = true) {m m' : List (CE k × RowE es)} (h : m'.Perm m) : (m'.map Prod.fst).Nodup → ∀ key v, (mset k es key v m').Perm (mset k es key v m) := by
  induction h with
  | nil => intro _ key v; exact .refl _
  | cons x hp ih =>
    intro hn key v
    simp only [List.map_cons, List.nodup_cons] at hn
    simp only [mset]
    cases eqE k key x.1
    · exact (ih hn.2 key v).cons x
    · exact hp.cons _
  | swap x y l =>
    intro hn key v
    simp only [List.map_cons, List.nodup_cons, List.mem_cons, not_or] at hn
    simp only [mset]
    cases h1 : eqE k key x.1 <;> cases h2 : eqE k key y.1 <;> simp only [cond_true, cond_false]
    · exact .swap _ _ _
    · exact .swap _ _ _
    · exact .swap _ _ _
    · exact absurd (((eqE_iff hk _ _).1 h2).symm.trans ((eqE_iff hk _ _).1 h1)) hn.1.1
  | trans h1 h2 ih1 ih2 =>
    intro hn key v
    have hn2 := (h1.map Prod.fst).nodup_iff.1 hn
    exact (ih1 hn key v).trans (ih2 hn2 key v)
theorem mins_perm {k : Sh} {es : List Sh} (key : CE k) (v : RowE es) : ∀ m : List (CE k × RowE es), (mins k es key v m).Perm ((key, v) :: m)
  | [] => .refl _
  | x :: m => by
    simp only [mins]
    cases ltE k key x.1
    · exact ((mins_perm key v m).cons x).trans (.swap _ _ _)
    · exact .refl _
theorem mset_keys {k : Sh} {es : List Sh} (key : CE k) (v : RowE es) : ∀ m : List (CE k × RowE es), (mset k es key v m).map Prod.fst = m.map Prod.fst
  | [] => rfl
  | x :: m => by
    simp only [mset]
    cases eqE k key x.1
    · simp [mset_keys key v m]
    · simp
theorem mhas_mem {k : Sh} {es : List Sh} (hk : simpleK k = true) (key : CE k) : ∀ m : List (CE k × RowE es), mhas k es m key = false → key ∉ m.map Prod.fst
  | [], _ => by simp
  | x :: m, h => by
    simp only [mhas] at h
    cases hb : eqE k key x.1
    · rw [hb, cond_false] at h
      simp only [List.map_cons, List.mem_cons, not_or]
      exact ⟨fun e => (by rw [(eqE_iff hk _ _).2 e] at hb; cases hb), mhas_mem hk key m h⟩
    · rw [hb, cond_true] at h; cases h
theorem mput_keys {k : Sh} {es : List Sh} (hk : simpleK k = true) {m : List (CE k × RowE es)} (hn : (m.map Prod.fst).Nodup) (key : CE k) (v : RowE es) : ((mput k es m key v).map Prod.fst).Nodup := by
  unfold mput
  cases hb : mhas k es m key
  · rw [cond_false]
    refine ((mins_perm key v m).map Prod.fst).nodup_iff.2 ?_
    simp only [List.map_cons, List.nodup_cons]
    exact ⟨mhas_mem hk key m hb, hn⟩
  · rw [cond_true, mset_keys]; exact hn

section
variable {P : Program} {Pr : PM} {w : World}
theorem RepC.simple {k : Sh} (hk : simpleK k = true) {x : CE k} {u v : Value} (h : RepC Pr k x u) (q : RepC Pr k x v) : u = v := by
  cases k <;> simp [simpleK] at hk <;> simp only [RepC] at h q <;> rw [h, q]
theorem str_beq (a b : List UInt8) : ((⟨a.toArray⟩ : ByteArray) == ⟨b.toArray⟩) = (a == b) := by
  show (a.toArray == b.toArray) = (a == b)
  simp
theorem sameNow_eq {k : Sh} {kd : TypeDesc} (hk : keyB k (some kd) = true) {x y : CE k} {u v : Value} (h : RepC Pr k x u) (q : RepC Pr k y v) : Instr.sameNow kd u v = some (eqE k x y) := by
  cases k <;> cases kd <;> simp only [keyB] at hk <;> first | (cases hk; done) | skip
  · simp only [RepC] at h q; subst h; subst q; simp [Instr.sameNow, eqE]
  · simp only [RepC] at h q; subst h; subst q; simp [Instr.sameNow, eqE]
  · simp only [RepC] at h q; subst h; subst q; simp only [Instr.sameNow, eqE, str_beq]
theorem find_sound {k : Sh} {b : Bool} {es : List Sh} {kd : TypeDesc} (hk : keyB k (some kd) = true) {key : CE k} {u : Value} (hu : RepC Pr k key u) : ∀ (m : List (CE k × RowE es)) (ens : List MapEntry) (j : Nat), m.length = ens.length →
    (∀ (i : Nat) (x : CE k × RowE es), m[i]? = some x → ∃ en : MapEntry, ens[i]? = some en ∧ RepC Pr k x.1 en.key ∧ ValR b en.val (RowVals Pr es x.2)) →
    (mhas k es m key = false ∧ Instr.findNow kd u ens j = some none) ∨ ∃ i en, mhas k es m key = true ∧ Instr.findNow kd u ens j = some (some (j + i, en.val)) ∧ ens[i]? = some en ∧ en.key = u ∧ ValR b en.val (RowVals Pr es (mget k es m key)) ∧ m[i]? = some (key, mget k es m key) ∧ ∀ v, mset k es key v m = m.set i (key, v)
  | [], [], j, _, _ => .inl ⟨rfl, rfl⟩
  | x :: m, e :: ens, j, hl, h => by
    have hs := keyB_simple hk
    obtain ⟨en, h1, h2, h3⟩ := h 0 x rfl
    simp at h1; subst h1
    simp only [mhas, mget, mset, Instr.findNow]
    rw [sameNow_eq hk hu h2]
    cases hb : eqE k key x.1
    · simp only [cond_false]
      rcases find_sound hk hu m ens (j + 1) (by simpa using hl) (fun i x hi => by
        obtain ⟨en, q1, q2⟩ := h (i + 1) x (by simpa using hi)
        exact ⟨en, by simpa using q1, q2⟩) with ⟨g1, g2⟩ | ⟨i, en, g1, g2, g3, g4, g5, g6, g7⟩
      · exact .inl ⟨g1, g2⟩
      · exact .inr ⟨i + 1, en, g1, by rw [g2, show j + 1 + i = j + (i + 1) by omega], by simpa using g3, g4, g5, by simpa using g6, fun v => by rw [g7 v]; rfl⟩
    · have he := (eqE_iff hs _ _).1 hb
      simp only [cond_true]
      refine .inr ⟨0, e, by simp, by simp, by simp, ?_, h3, ?_, fun v => by rw [he]; rfl⟩
      · rw [← he] at h2; exact h2.simple hs hu
      · rw [he]; rfl
  | [], _ :: _, _, hl, _ => by simp at hl
  | _ :: _, [], _, hl, _ => by simp at hl
theorem run_findKey {kt : TypeId} {kd : TypeDesc} (hd : P.underlying kt = some kd) {u : Value} {es : List MapEntry} {r : Option (Nat × Value)} (h : Instr.findNow kd u es 0 = some r) : (Instr.findKey kt u es).run P w = .ok r w := by
  simp [Instr.findKey, run_underlying hd, h]
theorem run_checkKey {k : Sh} {kt : TypeId} {kd : TypeDesc} (hd : P.underlying kt = some kd) (hk : keyB k (some kd) = true) (e : Bool) (u : Value) : (Instr.checkKey e 10000 kt u).run P w = .ok () w := by
  show (Instr.checkKey e (9999 + 1) kt u).run P w = .ok () w
  cases k <;> cases kd <;> simp only [keyB] at hk <;> first | (cases hk; done) | skip
  all_goals
    unfold Instr.checkKey
    simp only [Sem.run_bind, run_underlying hd, Result.andThen_ok]
    simp
theorem run_keyThatStays {k : Sh} (hk : simpleK k = true) {x : CE k} {u : Value} (h : RepC Pr k x u) : (Instr.keyThatStays u u).run P w = .ok u w := by
  have : Instr.sameBits 10000 u u = true := by
    show Instr.sameBits (9999 + 1) u u = true
    cases k <;> simp [simpleK] at hk <;> simp only [RepC] at h <;> subst h <;> simp [Instr.sameBits, str_beq]
  simp [Instr.keyThatStays, this]
theorem zerosD_vals : ∀ (es : List Sh) (vs : List Value), zerosB es vs = true → RowVals Pr es (RowE.dflt es) vs
  | [], [], _ => by simp [RowVals]
  | e :: es, v :: vs, h => by
    have h0 := h
    simp only [zerosB, Bool.and_eq_true] at h
    simp only [RowVals, RowE.dflt]
    refine ⟨?_, zerosD_vals es vs h.2⟩
    have h1 := h.1
    cases e with
    | int k => cases v <;> simp [zeroB] at h1; obtain ⟨rfl, rfl⟩ := h1; simp [RepC, CE.dflt]
    | bool => cases v <;> simp [zeroB] at h1; subst h1; simp [RepC, CE.dflt]
    | str => cases v <;> simp [zeroB] at h1; subst h1; simp only [RepC, CE.dflt]; rfl
    | sl es' =>
      unfold zeroB at h1
      split at h1 <;> simp_all
      simp only [CE.dflt, RepC]
      exact ⟨none, 0, 0, rfl, rfl, Nat.le_refl _, by simp⟩
    | mp k' b' es' =>
      unfold zeroB at h1
      split at h1 <;> simp_all
      simp [RepC, CE.dflt]
  | [], _ :: _, h => by simp [zerosB] at h
  | _ :: _, [], h => by simp [zerosB] at h
theorem ValR.zero {b : Bool} {es : List Sh} {z : Value} (h : zerosB es z.cells.toList = true) (hv : valB b z = true) : ValR b z (RowVals Pr es (RowE.dflt es)) := by
  unfold ValR
  cases b
  · simp only [Bool.false_eq_true, if_false]
    have : z.cells.toList = [z] := by
      unfold valB at hv
      split at hv
      · cases hv
      · rename_i hn; cases z <;> first | rfl | exact absurd rfl (hn _)
    rw [this] at h
    exact zerosD_vals es [z] h
  · simp only [if_true]
    unfold valB at hv
    split at hv
    · exact ⟨_, rfl, zerosD_vals es _ h⟩
    · cases hv
theorem ValR.av {b : Bool} {es : List Sh} {r : RowE es} {v : Value} (h : ValR b v (RowVals Pr es r)) : RepA Pr (argAV b es r) v := by
  unfold ValR at h
  cases b
  · simp only [Bool.false_eq_true, if_false] at h
    match es, r, h with
    | [], r, h => simp [RowVals] at h
    | e :: es, r, h =>
      simp only [RowVals] at h
      simp only [argAV, RepA]
      exact RepC.toD e r.1 v h.1
  · simp only [if_true] at h
    obtain ⟨vs, rfl, h⟩ := h
    simp only [argAV, RepA]
    exact ⟨vs, rfl, RowVals.ds es r vs.toList h⟩
theorem argOf_val {b : Bool} {es : List Sh} {x : AV} {r : RowE es} {v : Value} (h : argOf b es x = some r) (hr : RepA Pr x v) : ValR b v (RowVals Pr es r) := by
  unfold argOf at h
  split at h
  · simp only [RepA] at hr
    obtain ⟨vs, rfl, hr⟩ := hr
    exact ⟨vs, rfl, ofDs_vals _ _ _ _ h hr⟩
  · split at h
    · rename_i y hy
      simp at h; subst h
      simp only [RepA] at hr
      show RowVals Pr [_] (y, ()) [v]
      simp only [RowVals]
      exact ⟨ofD_rep _ _ _ _ hy hr, trivial⟩
    · cases h
  · cases h
end

section
variable {R : Type} {P : Program} {T : Tab} {E : CallS} {o : Oper} {fr : Fr} {K : Fr → Option R} {r : R} {Pr : PM} {w : World} {a : Act} {F : Nat → List Nat}
  {next : Act → World → Prop} {Q : Exit → Act → World → Prop}


/-! Maps of slices that are one's own. -/
theorem mpaOf_sound {ts : Array Value} {s d : Nat} {k : Sh} {es : List Sh} {h : Option (CE k)} {m : List (CE k × RowE [.sl es])} (hF : RepF Lz Pr w fr ts F) (hm : mpaOf s fr = some (d, ⟨k, es, h, m⟩)) :
    (∃ nw, look1 d fr = .mpa nw k es h m) ∧ ts.getD s undef = ts.getD d undef := by
  unfold mpaOf at hm
  split at hm
  · rename_i nw k0 es0 h0 m0 rest hf
    simp only [Option.some.injEq, Prod.mk.injEq] at hm
    obtain ⟨rfl, hm⟩ := hm
    cases hm
    exact ⟨⟨nw, find_look _ _ _ _ _ _ hf⟩, rfl⟩
  · rename_i pre d0 rest hf
    cases hb : remade d0 pre
    · rw [hb, cond_false] at hm
      split at hm
      · rename_i nw k0 es0 h0 m0 hl
        simp only [Option.some.injEq, Prod.mk.injEq] at hm
        obtain ⟨rfl, hm⟩ := hm
        cases hm
        exact ⟨⟨nw, hl⟩, hF.al0 s pre d0 rest hf hb⟩
      · cases hm
    · rw [hb, cond_true] at hm; cases hm
  · cases hm
theorem mpaO_tmp {x : Operand} {r : Nat × ((k : Sh) × (es : List Sh) × Option (CE k) × List (CE k × RowE [.sl es]))} (h : mpaO fr x = some r) : ∃ s, x = .tmp s ∧ mpaOf s fr = some r := by
  cases x with
  | tmp s => exact ⟨s, rfl, h⟩
  | _ => simp [mpaO] at h
theorem AppR.rep {es : List Sh} {l : List (RowE es)} {v : Value} {B : List Nat} (h : AppR Pr w es l v B) : RepC Pr (.sl es) l v := by
  simp only [RepC]
  unfold AppR at h
  rcases h with ⟨h1, h2, _⟩ | ⟨b, off, cap, c, T', h1, _, _, h2, _, h3, _⟩
  · exact ⟨none, 0, 0, h1, by rw [h2]; rfl, Nat.le_refl _, .inl h2⟩
  · exact ⟨_, _, _, h1, rfl, h2, .inr ⟨b, off, rfl, h3⟩⟩
theorem EntR.rep {k : Sh} {es : List Sh} {h : Option (CE k)} {x : CE k × RowE [.sl es]} {en : MapEntry} {B : List Nat} (q : EntR Pr w k es h x en B) : RepC Pr k x.1 en.key ∧ ValR false en.val (RowVals Pr [.sl es] x.2) := by
  refine ⟨q.1, ?_⟩
  unfold ValR
  simp only [Bool.false_eq_true, if_false, RowVals, and_true]
  rcases q.2 with ⟨_, _, h⟩ | ⟨_, h⟩
  · exact h
  · exact h.rep
theorem mget_none {k : Sh} {es : List Sh} {key : CE k} : ∀ (l : List (CE k × RowE es)), mhas k es l key = false → mget k es l key = RowE.dflt es
  | [], _ => rfl
  | x :: l, h => by
    simp only [mhas, mget] at h ⊢
    cases hb : eqE k key x.1
    · rw [hb, cond_false] at h; rw [cond_false]; exact mget_none l h
    · rw [hb, cond_true] at h; cases h
theorem set_flat_mem {α : Type} {B : List α} : ∀ (Bs : List (List α)) (i : Nat) (b : α), b ∈ (Bs.set i B).flatten → b ∈ B ∨ b ∈ (Bs.set i []).flatten
  | [], i, b, h => by simp at h
  | C :: Bs, 0, b, h => by simpa using h
  | C :: Bs, i + 1, b, h => by
    simp only [List.set_cons_succ, List.flatten_cons, List.mem_append] at h ⊢
    rcases h with h | h
    · exact .inr (.inl h)
    · rcases set_flat_mem Bs i b h with q | q
      · exact .inl q
      · exact .inr (.inr q)
theorem set_flat_nodup {B : List Nat} : ∀ (Bs : List (List Nat)) (i : Nat), B.Nodup → (Bs.set i []).flatten.Nodup → (∀ b ∈ B, b ∉ (Bs.set i []).flatten) → (Bs.set i B).flatten.Nodup
  | [], i, _, _, _ => by simp
  | C :: Bs, 0, h1, h2, h3 => by
    simp only [List.set_cons_zero, List.flatten_cons, List.nil_append] at h2 h3 ⊢
    exact List.nodup_append.2 ⟨h1, h2, fun x hx y hy e => h3 x hx (e ▸ hy)⟩
  | C :: Bs, i + 1, h1, h2, h3 => by
    simp only [List.set_cons_succ, List.flatten_cons, List.nodup_append, List.mem_append] at h2 h3 ⊢
    refine ⟨h2.1, set_flat_nodup Bs i h1 h2.2.1 (fun b hb q => h3 b hb (.inr q)), fun x hx y hy e => ?_⟩
    rcases set_flat_mem Bs i y hy with q | q
    · exact h3 y q (.inl (e ▸ hx))
    · exact h2.2.2 x hx y q e
def fndV (r : Option (Nat × Value)) : Value := match r with | some x => x.2 | none => .slice none 0 0
/-- What is found under a key is taken out. -/
theorem takeEnt {k : Sh} {es : List Sh} {kd : TypeDesc} {nw : Bool} {m : List (CE k × RowE [.sl es])} {vd u : Value} {B : List Nat} {key : CE k} (hkB : keyB k (some kd) = true) (hu : RepC Pr k key u) (h : RepS Lz Pr w (.mpa nw k es none m) vd B) (hn : B.Nodup) :
    ∃ bl es' ck r Bi B', vd = .map (some bl) ∧ w.heap[bl]? = some (.map es' ck) ∧ Instr.findNow kd u es'.toList 0 = some r ∧ RepS Lz Pr w (.app es (mget k [.sl es] m key).1) (fndV r) Bi ∧
      RepS Lz Pr w (.mpa false k es (some key) m) vd B' ∧ B'.head? = B.head? ∧ B'.Nodup ∧ Bi.Nodup ∧ (∀ b ∈ B', b ∈ B) ∧ (∀ b ∈ Bi, b ∈ B) ∧ ∀ b ∈ Bi, b ∉ B' := by
  simp only [RepS] at h
  obtain ⟨bl, es', ck, Bs, h1, hB, h2, h3, h4, h5, m', h6, h7, h8, h9⟩ := h
  have hks := keyB_simple hkB
  have hnod' := (h6.map Prod.fst).nodup_iff.2 h5
  have hp := mget_perm hks h6 hnod' key
  subst hB
  rw [List.nodup_cons] at hn
  have others : ∀ (i : Nat) (x : CE k × RowE [.sl es]) en Bi, EntR Pr w k es none x en Bi → x.1 ≠ key → EntR Pr w k es (some key) x en Bi := fun i x en Bi q hne =>
    ⟨q.1, .inr ⟨fun e => hne (by cases e; rfl), q.2.elim (fun z => by cases z.1) (fun z => z.2)⟩⟩
  rcases find_sound hkB hu m' es'.toList 0 (by simpa using h7) (fun i x hi => by
      obtain ⟨en, Bi, q1, q2, q3⟩ := h9 i x hi
      exact ⟨en, by simpa using q1, q3.rep⟩) with ⟨g1, g2⟩ | ⟨i', en, g1, g2, g3, g4, g5, g6, g7⟩
  · have hh : mhas k [.sl es] m key = false := by rw [← hp.2]; exact g1
    have hg : mget k [.sl es] m key = RowE.dflt [.sl es] := mget_none m hh
    refine ⟨bl, es', ck, none, [], bl :: Bs.flatten, h1, h2, g2, ?_, ?_, rfl, List.nodup_cons.2 hn, List.nodup_nil, fun b hb => hb, by simp, by simp⟩
    · rw [hg]; simp only [RepS]; exact .inl ⟨by trivial, rfl, by trivial⟩
    · simp only [RepS]
      refine ⟨bl, es', ck, Bs, h1, rfl, h2, h3, h4, h5, m', h6, h7, h8, fun i x hi => ?_⟩
      obtain ⟨en, Bi, q1, q2, q3⟩ := h9 i x hi
      refine ⟨en, Bi, q1, q2, others i x en Bi q3 fun e => ?_⟩
      have : key ∈ m'.map Prod.fst := List.mem_map.2 ⟨x, List.mem_of_getElem? hi, e⟩
      exact mhas_mem hks key m' g1 this
  · obtain ⟨en', Bi, q1, q2, q3⟩ := h9 i' _ g6
    have hen : en' = en := by
      have := g3; rw [Array.getElem?_toList, q1] at this; cases this; rfl
    subst hen
    have happ : AppR Pr w es (mget k [.sl es] m' key).1 en'.val Bi := q3.2.elim (fun z => by cases z.1) (fun z => z.2)
    have hib : ∀ b ∈ Bi, b ∈ Bs.flatten := fun b hb => mem_flat_get q2 hb
    have hlt : i' < Bs.length := (List.getElem?_eq_some_iff.1 q2).1
    refine ⟨bl, es', ck, some (0 + i', en'.val), Bi, bl :: (Bs.set i' []).flatten, h1, h2, g2, ?_, ?_, rfl, ?_, ?_, ?_, ?_, ?_⟩
    · rw [← hp.1]; simp only [RepS]; exact happ
    · simp only [RepS]
      refine ⟨bl, es', ck, Bs.set i' [], h1, rfl, h2, h3, h4, h5, m', h6, h7, by simpa using h8, fun i x hi => ?_⟩
      by_cases e : i = i'
      · subst e
        rw [g6] at hi; cases hi
        exact ⟨en', [], q1, by simp [hlt], q3.1, .inl ⟨rfl, rfl, happ.rep⟩⟩
      · obtain ⟨en, Bj, z1, z2, z3⟩ := h9 i x hi
        refine ⟨en, Bj, z1, by rw [List.getElem?_set_ne (Ne.symm e)]; exact z2, others i x en Bj z3 fun ek => e ?_⟩
        have hi1 := (List.getElem?_eq_some_iff.1 hi).1
        have hi2 := (List.getElem?_eq_some_iff.1 g6).1
        have e1 : (m'.map Prod.fst)[i]? = some key := by rw [List.getElem?_map, hi]; simp [ek]
        have e2 : (m'.map Prod.fst)[i']? = some key := by rw [List.getElem?_map, g6]; rfl
        exact (List.getElem?_inj (by simpa using hi1) hnod').1 (e1.trans e2.symm)
    · exact List.nodup_cons.2 ⟨fun q => hn.1 (flatten_set_sub Bs i' bl q), flatten_set_nodup Bs i' hn.2⟩
    · exact (List.sublist_flatten_of_mem (List.mem_of_getElem? q2)).nodup hn.2
    · intro b hb
      rcases List.mem_cons.1 hb with rfl | hb
      · simp
      · exact List.mem_cons_of_mem _ (flatten_set_sub Bs i' b hb)
    · intro b hb; exact List.mem_cons_of_mem _ (hib b hb)
    · intro b hb q
      rcases List.mem_cons.1 q with rfl | q
      · exact hn.1 (hib _ hb)
      · exact flatten_apart Bs i' Bi hn.2 q2 b hb q
/-- What was taken out is put back, grown. -/
theorem putEnt {k : Sh} {es : List Sh} {kt : TypeId} {kd : TypeDesc} {nw : Bool} {m : List (CE k × RowE [.sl es])} {vd u v : Value} {B Bv : List Nat} {key : CE k} {l : List (RowE es)} (hkd : P.underlying kt = some kd) (hkB : keyB k (some kd) = true) (hu : RepC Pr k key u) (h : RepS Lz Pr w (.mpa nw k es (some key) m) vd B) (hn : B.Nodup)
    (hv : RepS Lz Pr w (.app es l) v Bv) (hnv : Bv.Nodup) (hap : ∀ b ∈ Bv, b ∉ B) :
    ∃ bl es' ck es2 ck2 B', vd = .map (some bl) ∧ bl ∈ B ∧ w.heap[bl]? = some (.map es' ck) ∧ (∀ o, Pr bl o = none) ∧
      (((Instr.findKey kt u es'.toList).run P w = .ok none w ∧ es2 = es'.push { key := u, val := v, born := ck } ∧ ck2 = ck + 1) ∨
       ∃ i val, (Instr.findKey kt u es'.toList).run P w = .ok (some (i, val)) w ∧ (Instr.keyThatStays u u).run P w = .ok u w ∧ (∃ en, es'[i]? = some en ∧ en.key = u) ∧ es2 = es'.modify i (fun e => { e with key := u, val := v }) ∧ ck2 = ck) ∧
      (∀ w' : World, w'.heap[bl]? = some (.map es2 ck2) → (∀ b, b ≠ bl → w'.heap[b]? = w.heap[b]?) → RepS Lz Pr w' (.mpa false k es none (mput k [.sl es] m key (l, ()))) vd B') ∧
      B'.Nodup ∧ (∀ b ∈ B', b ∈ B ∨ b ∈ Bv) := by
  simp only [RepS] at h
  obtain ⟨bl, es', ck, Bs, h1, hB, h2, h3, h4, h5, m', h6, h7, h8, h9⟩ := h
  have hks := keyB_simple hkB
  have hnod' := (h6.map Prod.fst).nodup_iff.2 h5
  have hp := mget_perm hks h6 hnod' key
  subst hB
  rw [List.nodup_cons] at hn
  have hvA : AppR Pr w es l v Bv := by simp only [RepS] at hv; exact hv
  have stay : ∀ (w' : World), (∀ b, b ≠ bl → w'.heap[b]? = w.heap[b]?) → ∀ (x : CE k × RowE [.sl es]) en Bi, (∀ b ∈ Bi, b ∈ Bs.flatten) → EntR Pr w k es (some key) x en Bi → x.1 ≠ key → EntR Pr w' k es none x en Bi := fun w' hw x en Bi hsub q hne =>
    ⟨q.1, .inr ⟨by simp, (q.2.elim (fun z => absurd (by cases z.1; rfl) hne) (fun z => z.2)).mono (PrLe.refl _) fun b hb => ⟨hw b (fun e => hn.1 (e ▸ hsub b hb)), fun _ => rfl⟩⟩⟩
  have mine : ∀ (w' : World), (∀ b, b ≠ bl → w'.heap[b]? = w.heap[b]?) → AppR Pr w' es l v Bv := fun w' hw =>
    hvA.mono (PrLe.refl _) fun b hb => ⟨hw b (fun e => hap b hb (by rw [e]; simp)), fun _ => rfl⟩
  have hput : mput k [.sl es] m key (l, ()) = (if mhas k [.sl es] m key = true then mset k [.sl es] key (l, ()) m else mins k [.sl es] key (l, ()) m) := by
    unfold mput; cases mhas k [.sl es] m key <;> simp
  rcases find_sound hkB hu m' es'.toList 0 (by simpa using h7) (fun i x hi => by
      obtain ⟨en, Bi, q1, q2, q3⟩ := h9 i x hi
      exact ⟨en, by simpa using q1, q3.rep⟩) with ⟨g1, g2⟩ | ⟨i', en, g1, g2, g3, g4, g5, g6, g7⟩
  · have hh : mhas k [.sl es] m key = false := by rw [← hp.2]; exact g1
    have hne : ∀ (i : Nat) (x : CE k × RowE [.sl es]), m'[i]? = some x → x.1 ≠ key := fun i x hi e => mhas_mem hks key m' g1 (List.mem_map.2 ⟨x, List.mem_of_getElem? hi, e⟩)
    refine ⟨bl, es', ck, _, _, bl :: (Bs ++ [Bv]).flatten, h1, by simp, h2, h3, .inl ⟨run_findKey hkd g2, rfl, rfl⟩, fun w' hw1 hw2 => ?_, ?_, ?_⟩
    · simp only [RepS]
      refine ⟨bl, _, _, Bs ++ [Bv], h1, rfl, hw1, h3, ?_, mput_keys hks h5 key _, m' ++ [(key, (l, ()))], ?_, by simp [h7], by simp [h8], fun i x hi => ?_⟩
      · refine ⟨?_, ?_⟩
        · simp only [Array.toList_push, List.map_append, List.map_cons, List.map_nil]
          rw [List.nodup_append]
          refine ⟨h4.1, by simp, fun x hx y hy e => ?_⟩
          simp at hy; subst hy; subst e
          obtain ⟨en, he, e⟩ := List.mem_map.1 hx
          have := h4.2 en he; omega
        · intro e he
          simp only [Array.toList_push, List.mem_append, List.mem_singleton] at he
          rcases he with he | rfl
          · have := h4.2 e he; omega
          · show ck < ck + 1; omega
      · unfold mput
        rw [hh, cond_false]
        exact ((List.perm_append_comm).trans (h6.cons _)).trans (mins_perm key (l, ()) m).symm
      · rcases Nat.lt_trichotomy i m'.length with h | h | h
        · rw [List.getElem?_append_left h] at hi
          obtain ⟨en, Bi, q1, q2, q3⟩ := h9 i x hi
          exact ⟨en, Bi, by rw [Array.getElem?_push_lt (by omega)]; rw [Array.getElem?_eq_getElem (by omega)] at q1; exact q1, by rw [List.getElem?_append_left (by omega)]; exact q2, stay w' hw2 x en Bi (fun b hb => mem_flat_get q2 hb) q3 (hne i x hi)⟩
        · subst h
          simp at hi; subst hi
          refine ⟨{ key := u, val := v, born := ck }, Bv, by rw [h7]; simp, by rw [List.getElem?_append_right (by omega)]; simp [h8, h7], hu, .inr ⟨by simp, mine w' hw2⟩⟩
        · rw [List.getElem?_eq_none (by simp; omega)] at hi; cases hi
    · rw [List.nodup_cons, List.flatten_append, List.flatten_singleton, List.mem_append, List.nodup_append]
      exact ⟨fun q => q.elim hn.1 (fun q => hap bl q (by simp)), hn.2, hnv, fun x hx y hy e => hap y hy (by rw [← e]; exact List.mem_cons_of_mem _ hx)⟩
    · intro b hb
      rw [List.mem_cons, List.flatten_append, List.flatten_singleton, List.mem_append] at hb
      rcases hb with rfl | hb | hb
      · exact .inl (by simp)
      · exact .inl (List.mem_cons_of_mem _ hb)
      · exact .inr hb
  · obtain ⟨en', Bi, q1, q2, q3⟩ := h9 i' _ g6
    have hen : en' = en := by
      have := g3; rw [Array.getElem?_toList, q1] at this; cases this; rfl
    subst hen
    have hh : mhas k [.sl es] m key = true := by rw [← hp.2]; exact g1
    have hBi : Bi = [] := q3.2.elim (fun z => z.2.1) (fun z => absurd rfl z.1)
    have hlt : i' < Bs.length := (List.getElem?_eq_some_iff.1 q2).1
    have hBs : Bs.set i' [] = Bs := by
      refine List.ext_getElem? fun j => ?_
      by_cases e : j = i'
      · subst e; rw [List.getElem?_set_self hlt, q2, hBi]
      · rw [List.getElem?_set_ne (Ne.symm e)]
    have hm'lt : i' < m'.length := (List.getElem?_eq_some_iff.1 g6).1
    refine ⟨bl, es', ck, _, _, bl :: (Bs.set i' Bv).flatten, h1, by simp, h2, h3, .inr ⟨0 + i', en'.val, run_findKey hkd g2, run_keyThatStays hks hu, ⟨en', by simpa using q1, g4⟩, rfl, rfl⟩, fun w' hw1 hw2 => ?_, ?_, ?_⟩
    · rw [Nat.zero_add] at hw1
      simp only [RepS]
      refine ⟨bl, _, _, Bs.set i' Bv, h1, rfl, hw1, h3, ?_, mput_keys hks h5 key _, m'.set i' (key, (l, ())), ?_, by simp [h7], by simp [h8], fun i x hi => ?_⟩
      · have hmb : (es'.modify i' fun e => { e with key := u, val := v }).toList.map (·.born) = es'.toList.map (·.born) := by
          refine List.ext_getElem? fun j => ?_
          simp only [List.getElem?_map, Array.getElem?_toList, Array.getElem?_modify]
          split
          · cases es'[j]? <;> rfl
          · rfl
        refine ⟨by rw [hmb]; exact h4.1, fun e he => ?_⟩
        have : e.born ∈ es'.toList.map (·.born) := by rw [← hmb]; exact List.mem_map_of_mem he
        obtain ⟨e', z1, z2⟩ := List.mem_map.1 this
        have := h4.2 e' z1
        omega
      · unfold mput
        rw [hh, cond_true, ← g7 (l, ())]
        exact mset_perm hks h6 hnod' key (l, ())
      · by_cases e : i = i'
        · subst e
          rw [List.getElem?_set_self hm'lt] at hi; cases hi
          exact ⟨{ en' with key := u, val := v }, Bv, by rw [Array.getElem?_modify, if_pos rfl, q1]; rfl, by rw [List.getElem?_set_self hlt], hu, .inr ⟨by simp, mine w' hw2⟩⟩
        · rw [List.getElem?_set_ne (Ne.symm e)] at hi
          obtain ⟨en, Bj, z1, z2, z3⟩ := h9 i x hi
          refine ⟨en, Bj, by rw [Array.getElem?_modify, if_neg (fun q => e q.symm)]; exact z1, by rw [List.getElem?_set_ne (Ne.symm e)]; exact z2, stay w' hw2 x en Bj (fun b hb => mem_flat_get z2 hb) z3 fun ek => e ?_⟩
          have hi1 := (List.getElem?_eq_some_iff.1 hi).1
          have e1 : (m'.map Prod.fst)[i]? = some key := by rw [List.getElem?_map, hi]; simp [ek]
          have e2 : (m'.map Prod.fst)[i']? = some key := by rw [List.getElem?_map, g6]; rfl
          exact (List.getElem?_inj (by simpa using hi1) hnod').1 (e1.trans e2.symm)
    · refine List.nodup_cons.2 ⟨fun q => ?_, set_flat_nodup Bs i' hnv (by rw [hBs]; exact hn.2) (fun b hb q => hap b hb (List.mem_cons_of_mem _ (by rw [hBs] at q; exact q)))⟩
      rcases set_flat_mem Bs i' bl q with q | q
      · exact hap bl q (by simp)
      · rw [hBs] at q; exact hn.1 q
    · intro b hb
      rcases List.mem_cons.1 hb with rfl | hb
      · exact .inl (by simp)
      · rcases set_flat_mem Bs i' b hb with q | q
        · exact .inr q
        · rw [hBs] at q; exact .inl (List.mem_cons_of_mem _ q)
theorem op_makeMap {t : TypeId} {z : Option Operand} (hC : Cx P T) (ho : o.op = .makeMap t z) (hev : evOp0 T E o fr K = some r) (hF : RepF Lz Pr w fr a.tmps F) (hP : PrOK Pr w) (hd : DOK o a) (hn : Nx Lz K r o.dst Pr w a F next) : o.wp P a w next Q := by
  cases z with
  | some z => simp [evOp0, ho] at hev
  | none =>
    simp only [evOp0, ho] at hev
    replace hev := withT_some hev; obtain ⟨i, hi, hev⟩ := hev
    cases how : owB E o.dst
    case true =>
      rw [how, cond_true] at hev
      split at hev
      · rename_i k es hs
        refine wp_value (v := .map (some w.heap.size)) (w' := { w with heap := w.heap.push (.map #[] 0) }) (by simp [execOp, ho, Instr.makeMap, newObj, Sem.run]) ?_
        have h1 : RepF Lz Pr { w with heap := w.heap.push (.map #[] 0) } fr a.tmps F := hF.mono (PrLe.refl _) fun t => keeps_push (hF.lt t)
        refine fin hd hn h1 (hP.push _) (Ext.push _ _ _ _) sub_self (B := [w.heap.size]) ?_ (by simp) ?_ (by simp) rfl (by simp) (by simp) (by simp) hev
        · simp only [RepS]
          exact ⟨w.heap.size, #[], 0, [], rfl, rfl, by simp, fun o => hP.new o, ⟨by simp, by simp⟩, by simp, [], .refl _, by simp, by simp, by simp⟩
        · intro t b' hb q
          simp at hb; subst hb
          exact absurd (hF.lt t _ q) (by omega)
      · cases hev
    rw [how, cond_false] at hev
    split at hev
    · rename_i k b es hs
      refine wp_value (v := .map (some w.heap.size)) (w' := { w with heap := w.heap.push (.map #[] 0) }) (by simp [execOp, ho, Instr.makeMap, newObj, Sem.run]) ?_
      have h1 : RepF Lz Pr { w with heap := w.heap.push (.map #[] 0) } fr a.tmps F := hF.mono (PrLe.refl _) fun t => keeps_push (hF.lt t)
      refine fin hd hn h1 (hP.push _) (Ext.push _ _ _ _) sub_self (B := [w.heap.size]) ?_ (by simp) ?_ (by simp) rfl (by simp) (by simp) (by simp) hev
      · simp only [RepS]
        exact ⟨w.heap.size, #[], 0, rfl, rfl, by simp, fun o => hP.new o, ⟨by simp, by simp⟩, by simp, [], .refl _, by simp, by simp⟩
      · intro t b' hb q
        simp at hb; subst hb
        exact absurd (hF.lt t _ q) (by omega)
    · cases hev

theorem zero_sl {es : List Sh} {z : Value} (h : zerosB [.sl es] z.cells.toList = true) (hv : valB false z = true) : z = .slice none 0 0 := by
  cases z <;> simp [Value.cells, zerosB, zeroB, valB] at h hv ⊢
  · rename_i p len cap
    cases p <;> cases len <;> cases cap <;> simp [zeroB] at h ⊢
theorem run_lookA {t s bl : Nat} {i : TI} {k : Sh} {es : List Sh} {y : Operand} {kd : TypeDesc} {es' : Array MapEntry} {ck : Nat} {rr : Option (Nat × Value)} (mf : MpF P t i k false [.sl es]) (ho : o.op = .lookup t (.tmp s) y false) (hx : a.eval (.tmp s) = .map (some bl)) (hkd : P.underlying mf.kt = some kd) (hkB : keyB k (some kd) = true)
    (hf : Instr.findNow kd (a.eval y) es'.toList 0 = some rr) (hbl : w.heap[bl]? = some (.map es' ck)) : (execOp a.eval o).run P w = .ok (.value (fndV rr)) w := by
  have hf' := run_findKey (P := P) (w := w) hkd hf
  cases rr with
  | some x => simp [execOp, ho, hx, Instr.lookup, run_underlying mf.hd, run_checkKey hkd hkB, hf', Go.getObj, Sem.run, hbl, fndV]
  | none =>
    have hz : (zeroValue mf.et).run P w = .ok mf.z w := by
      unfold Go.zeroValue
      simp [run_typeInfo w mf.hf, mf.hz]
    rw [zero_sl mf.hzb mf.hv] at hz
    simp [execOp, ho, hx, Instr.lookup, run_underlying mf.hd, run_checkKey hkd hkB, hf', hz, Go.getObj, Sem.run, hbl, fndV]
theorem op_lookupA {t d : TypeId} {i : TI} {s : Nat} {y : Operand} {k : Sh} {es : List Sh} {m : List (CE k × RowE [.sl es])} {key : CE k} {dk : D} (tf : TyF P t i) (ho : o.op = .lookup t (.tmp s) y false) (hm : mpaOf s fr = some (d, ⟨k, es, none, m⟩)) (hag : i.agg = false) (hsh : i.sh = [.mp k false [.sl es]])
    (hy : rdO fr y = some (.d dk)) (hkey : ofD k dk = some key) (hF : RepF Lz Pr w fr a.tmps F) :
    ∃ bl v B F1, a.tmps.getD d undef = .map (some bl) ∧ bl ∈ F d ∧ (F d).head? = some bl ∧ (∀ w' : World, w'.heap[bl]? = w.heap[bl]? → (execOp a.eval o).run P w' = .ok (.value v) w') ∧ RepF Lz Pr w ((d, .mpa false k es (some key) m) :: fr) a.tmps F1 ∧ RepS Lz Pr w (.app es (mget k [.sl es] m key).1) v B ∧
      B.Nodup ∧ (∀ b ∈ B, b ∈ F d) ∧ (∀ t, ∀ b ∈ B, b ∉ F1 t) ∧ (∀ t b, b ∈ F1 t → b ∈ F t) ∧ (∀ t, (F1 t).head? = (F t).head?) := by
  obtain ⟨mf⟩ := tf.mp hsh hag
  obtain ⟨kd, hkd⟩ : ∃ kd, P.underlying mf.kt = some kd := by
    cases hq : P.underlying mf.kt with
    | none => have := mf.hk; rw [hq] at this; cases k <;> simp [keyB] at this
    | some kd => exact ⟨kd, rfl⟩
  have hkB : keyB k (some kd) = true := hkd ▸ mf.hk
  have hyr := rdO_sound hF hy
  simp only [RepA] at hyr
  have hyc := ofD_rep _ _ _ _ hkey hyr
  obtain ⟨⟨nw, g1⟩, g2⟩ := mpaOf_sound hF hm
  have hr := hF.rep d
  rw [g1] at hr
  obtain ⟨bl, es', ck, rr, Bi, B', h1, h2, h3, h4, h5, h6, h7, h8, h9, h10, h11⟩ := takeEnt hkB hyc hr (hF.nodup d)
  have hx : a.eval (.tmp s) = .map (some bl) := by show a.tmps.getD s undef = _; rw [g2]; exact h1
  have hB : (F d).head? = some bl := by
    simp only [RepS] at hr
    obtain ⟨bl0, _, _, Bs, z1, z2, _⟩ := hr
    rw [h1] at z1; cases z1
    rw [z2]; rfl
  refine ⟨bl, fndV rr, Bi, fun t => if t = d then B' else F t, h1, List.mem_of_mem_head? hB, hB, fun w' hw => run_lookA mf ho hx hkd hkB h3 (hw.trans h2), ?_, h4, h8, h10, ?_, ?_, ?_⟩
  · exact hF.bind (fun _ _ => rfl) h5 h7 (fun t ht b hb => hF.apart d t (Ne.symm ht) b (h9 b hb)) (fun _ => rfl) (by simp) (by simp) (by simp)
  · intro t b hb
    by_cases e : t = d
    · simp only [if_pos e]; exact h11 b hb
    · simp only [if_neg e]; exact hF.apart d t (Ne.symm e) b (h10 b hb)
  · intro t b hb
    by_cases e : t = d
    · simp only [if_pos e] at hb; rw [e]; exact h9 b hb
    · simp only [if_neg e] at hb; exact hb
  · intro t
    by_cases e : t = d
    · simp only [if_pos e]; rw [e]; exact h6
    · simp only [if_neg e]
theorem op_lookup {t : TypeId} {x y : Operand} {ok : Bool} (hC : Cx P T) (ho : o.op = .lookup t x y ok) (hev : evOp0 T E o fr K = some r) (hF : RepF Lz Pr w fr a.tmps F) (hP : PrOK Pr w) (hd : DOK o a) (hn : Nx Lz K r o.dst Pr w a F next) : o.wp P a w next Q := by
  simp only [evOp0, ho] at hev
  replace hev := withT_some hev; obtain ⟨i, hi, hev⟩ := hev
  obtain ⟨tf⟩ := hC.facts hi
  split at hev
  · rename_i d' k es m hmp
    cases ok
    case true => rw [cond_true] at hev; cases hev
    rw [cond_false] at hev
    split at hev
    · rename_i dk hag hy
      split at hev
      · rename_i hs key hsh hkey
        obtain ⟨s, rfl, hmp⟩ := mpaO_tmp hmp
        obtain ⟨bl, v, B, F1, z1, z2, z3, z4, z5, z6, z7, z8, z9, z10, z11⟩ := op_lookupA tf ho hmp hag hs.down.symm hy hkey hF
        exact wp_value (z4 w rfl) (fin hd hn z5 hP (Ext.refl _ _ _) (fun t b hb => .inl ⟨t, z10 t b hb⟩) z6 z7 z9 (fun b hb => .inl ⟨d', z8 b hb⟩) rfl (by simp) (by simp) (by simp) hev)
      · cases hev
    · cases hev
  · cases hev
  split at hev
  · rename_i k b es m d hag hm hy
    split at hev
    · rename_i hs key hsh hkey
      have hsh' : i.sh = [.mp k b es] := hs.down.symm
      obtain ⟨mf⟩ := tf.mp hsh' hag
      obtain ⟨kd, hkd⟩ : ∃ kd, P.underlying mf.kt = some kd := by
        cases hq : P.underlying mf.kt with
        | none => have := mf.hk; rw [hq] at this; cases k <;> simp [keyB] at this
        | some kd => exact ⟨kd, rfl⟩
      have hkB : keyB k (some kd) = true := hkd ▸ mf.hk
      have hyr := rdO_sound hF hy
      simp only [RepA] at hyr
      have hyc := ofD_rep _ _ _ _ hkey hyr
      have hz : ∀ w, (zeroValue mf.et).run P w = .ok mf.z w := fun w => by
        unfold Go.zeroValue
        simp [run_typeInfo w mf.hf, mf.hz]
      have done : ∀ (v : Value) (h : Bool) (row : RowE es), mhas k es m key = h → mget k es m key = row → ValR b v (RowVals Pr es row) → (execOp a.eval o).run P w = .ok (.value (if ok then .tuple #[v, .bool h] else v)) w → o.wp P a w next Q := by
        intro v h row e1 e2 hv hrun
        rw [e1, e2] at hev
        refine wp_value hrun (finV hF hP hd hn ?_ hev)
        cases ok
        · simp only [cond_false, Bool.false_eq_true, if_false]; exact hv.av
        · simp only [cond_true, if_true, RepA]
          exact ⟨_, rfl, by simp only [RepAs, RepA, RepD]; exact ⟨hv.av, trivial, trivial⟩⟩
      obtain ⟨s, rfl, hx⟩ := mapV_sound hF hP hm
      rcases hx with ⟨hx, rfl⟩ | ⟨bl, es', ck, hx, hbl, hb1, hb2, m', hb3, hb4, hb5⟩
      · refine done mf.z false (RowE.dflt es) rfl rfl (ValR.zero mf.hzb mf.hv) ?_
        have hf := run_findKey (P := P) (w := w) hkd (u := a.eval y) (es := []) (r := none) rfl
        simp [execOp, ho, (show a.eval (.tmp s) = _ from hx), Instr.lookup, run_underlying mf.hd, run_checkKey hkd hkB, hf, hz]
      · have hks := keyB_simple hkB
        have hp := mget_perm hks hb3 ((hb3.map Prod.fst).nodup_iff.2 hb2) key
        rcases find_sound hkB hyc m' es'.toList 0 (by simpa using hb4) (fun i x hi => by simpa using hb5 i x hi) with ⟨g1, g2⟩ | ⟨i', en, g1, g2, g3, g4, g5, _, _⟩
        · have hh : mhas k es m key = false := by rw [← hp.2]; exact g1
          have hg : mget k es m key = RowE.dflt es := by
            have key2 : ∀ (l : List (CE k × RowE es)), mhas k es l key = false → mget k es l key = RowE.dflt es := by
              intro l
              induction l with
              | nil => intro _; rfl
              | cons x l ih =>
                intro h
                simp only [mhas, mget] at h ⊢
                cases hb : eqE k key x.1
                · rw [hb, cond_false] at h; rw [cond_false]; exact ih h
                · rw [hb, cond_true] at h; cases h
            exact key2 m hh
          refine done mf.z false (RowE.dflt es) hh hg (ValR.zero mf.hzb mf.hv) ?_
          have hf := run_findKey (P := P) (w := w) hkd g2
          simp [execOp, ho, (show a.eval (.tmp s) = _ from hx), Instr.lookup, run_underlying mf.hd, run_checkKey hkd hkB, hf, hz, Go.getObj, Sem.run, hbl]
        · refine done en.val true _ (by rw [← hp.2]; exact g1) hp.1.symm g5 ?_
          have hf := run_findKey (P := P) (w := w) hkd g2
          simp [execOp, ho, (show a.eval (.tmp s) = _ from hx), Instr.lookup, run_underlying mf.hd, run_checkKey hkd hkB, hf, Go.getObj, Sem.run, hbl]
    · cases hev
  · cases hev

/-- An object that a slot owns is written. -/
theorem objSet {d bl n : Nat} (hdn : w.drawn ≤ n) {sv : SV} {ob : Obj} {ts : Array Value} (hF : RepF Lz Pr w fr ts F) (hP : PrOK Pr w) (hb : bl ∈ F d) (hpr : ∀ o, Pr bl o = none)
    (hr : ∀ w' : World, w'.heap[bl]? = some ob → RepS Lz Pr w' sv (ts.getD d undef) [bl]) (hu : sv.isUpd = false) (h0 : ∀ d' o, sv ≠ .al d' o) (h1 : ∀ d' o, sv ≠ .ref d' o) (h2 : ∀ d' k, sv ≠ .ow d' k) :
    RepF Lz Pr { w with heap := w.heap.setIfInBounds bl ob, drawn := n } ((d, sv) :: fr) ts (fun t => if t = d then [bl] else F t) ∧ PrOK Pr { w with heap := w.heap.setIfInBounds bl ob, drawn := n } ∧
      Ext (fun b => ∃ t, b ∈ F t) Pr w Pr { w with heap := w.heap.setIfInBounds bl ob, drawn := n } ∧ ∀ t b, b ∈ (if t = d then [bl] else F t) → (∃ t', b ∈ F t') ∨ w.heap.size ≤ b := by
  generalize hw' : ({ w with heap := w.heap.setIfInBounds bl ob, drawn := n } : World) = w'
  have hlt := hF.lt d bl hb
  have hb' : w'.heap[bl]? = some ob := by rw [← hw']; simp [hlt]
  have hoth : ∀ k, k ≠ bl → w'.heap[k]? = w.heap[k]? := fun k hk => by rw [← hw']; simp [Array.getElem?_setIfInBounds, Ne.symm hk]
  have hsize : w'.heap.size = w.heap.size := by rw [← hw']; simp
  have hkeep : ∀ (B : List Nat), bl ∉ B → Keeps B Pr w Pr w' := fun B hb b' hb' => ⟨hoth b' (fun e => hb (e ▸ hb')), fun _ => rfl⟩
  refine ⟨?_, ?_, ?_, ?_⟩
  · refine hF.rebind (PrLe.refl _) (fun t ht => hkeep _ (fun q => hF.apart t d ht bl q hb)) (fun _ _ => rfl) (hr w' hb') (by simp) ?_ (by simp [hu]) (fun d' h => absurd h (h0 d' _)) (fun d' o' h => absurd h (h0 d' _)) (fun d' o' h => absurd h (h1 d' _)) (fun d' o' h => absurd h (h2 d' _))
    intro t ht b' hb' q; simp at hb'; subst hb'; exact hF.apart t d ht _ q hb
  · intro b' o' v hv'
    have := hP b' o' v hv'
    by_cases e : b' = bl
    · subst e; rw [hpr] at hv'; cases hv'
    · simp only [cellX, World.cell?, hoth b' e] at this ⊢; exact this
  · refine ⟨by rw [← hw'], by rw [← hw'], by rw [← hw'], by omega, PrLe.refl _, fun k hk hna => ⟨hoth k (fun e => ?_), fun _ => rfl⟩, by rw [← hw']; exact hdn⟩
    subst e; exact hna ⟨d, hb⟩
  · intro t b' hb'
    by_cases e : t = d
    · simp [e] at hb'; subst hb'; exact .inl ⟨d, hb⟩
    · rw [if_neg e] at hb'; exact .inl ⟨t, hb'⟩

/-- A map is the same behind a slice's taking. -/
theorem mpa_grow {ts : Array Value} {d zs : Nat} {fr1 : Fr} {es0 : List Sh} {l : List (RowE es0)} {nw nw0 : Bool} {k k0 : Sh} {es es1 : List Sh} {h : Option (CE k)} {h0 : Option (CE k0)} {m : List (CE k × RowE [.sl es])} {m0 : List (CE k0 × RowE [.sl es1])}
    (hF : RepF Lz Pr w fr ts F) (hg : grow fr zs = some ⟨es0, l, fr1⟩) (g1 : look1 d fr = .mpa nw k es h m) (hl : look1 d fr1 = .mpa nw0 k0 es1 h0 m0) : look1 d fr1 = .mpa nw k es h m := by
  have one : ∀ (x : Nat) (sv : SV), look1 d ((x, sv) :: fr) = .mpa nw0 k0 es1 h0 m0 → (∀ nw k es h m, sv ≠ .mpa nw k es h m) → look1 d ((x, sv) :: fr) = .mpa nw k es h m := by
    intro x sv q hne
    simp only [look1] at q ⊢
    cases hb : Nat.beq x d
    · rw [cond_false]; exact g1
    · rw [hb, cond_true] at q; exact absurd q (hne _ _ _ _ _)
  unfold grow at hg
  split at hg
  · simp only [Option.some.injEq, Sigma.mk.injEq] at hg
    obtain ⟨rfl, hg⟩ := hg
    simp only [heq_eq_eq, Prod.mk.injEq] at hg
    obtain ⟨_, rfl⟩ := hg
    exact one _ _ hl (by simp)
  · rename_i pre2 d2 off2 rest2 hf2
    cases hb2 : bound d2 pre2
    · rw [hb2, cond_false] at hg
      split at hg
      · simp only [Option.some.injEq, Sigma.mk.injEq] at hg
        obtain ⟨rfl, hg⟩ := hg
        simp only [heq_eq_eq, Prod.mk.injEq] at hg
        obtain ⟨_, rfl⟩ := hg
        exact one _ _ hl (by simp)
      · split at hg
        · simp only [Option.some.injEq, Sigma.mk.injEq] at hg
          obtain ⟨rfl, hg⟩ := hg
          simp only [heq_eq_eq, Prod.mk.injEq] at hg
          obtain ⟨_, rfl⟩ := hg
          exact one _ _ hl (by simp)
        · cases hg
      · cases hg
    · rw [hb2, cond_true] at hg; cases hg
  · cases hg
theorem op_mapUpdate {t : TypeId} {x y z : Operand} (hC : Cx P T) (ho : o.op = .mapUpdate t x y z) (hev : evOp0 T E o fr K = some r) (hF : RepF Lz Pr w fr a.tmps F) (hP : PrOK Pr w) (hn : Nx Lz K r o.dst Pr w a F next) : o.wp P a w next Q := by
  simp only [evOp0, ho] at hev
  cases hdst : o.dst.isSome
  case true => rw [hdst] at hev; cases hev
  rw [hdst, cond_false] at hev
  have hdst' : o.dst = none := by simpa using hdst
  replace hev := withT_some hev; obtain ⟨i, hi, hev⟩ := hev
  obtain ⟨tf⟩ := hC.facts hi
  cases hag : i.agg
  case true => rw [hag] at hev; cases hev
  rw [hag, cond_false] at hev
  split at hev
  · rename_i s
    split at hev
    · rename_i d' k es key0 m hmp
      split at hev
      · rename_i dk zs hy
        split at hev
        · rename_i es0 l fr1 hg
          split at hev
          · rename_i hs key hh nw0 k0 es1 h0 m0 hsh hkey hes hl1
            replace hev := chk_some hev; obtain ⟨hk0, hev⟩ := hev
            subst hk0
            have hes0 : es0 = es := hh
            subst hes0
            obtain ⟨mf⟩ := tf.mp hs.down.symm hag
            obtain ⟨kd, hkd⟩ : ∃ kd, P.underlying mf.kt = some kd := by
              cases hq : P.underlying mf.kt with
              | none => have := mf.hk; rw [hq] at this; cases k <;> simp [keyB] at this
              | some kd => exact ⟨kd, rfl⟩
            have hkB : keyB k (some kd) = true := hkd ▸ mf.hk
            have hyr := rdO_sound hF hy
            simp only [RepA] at hyr
            have hyc := ofD_rep _ _ _ _ hkey hyr
            obtain ⟨⟨nw, g1⟩, g2⟩ := mpaOf_sound hF hmp
            obtain ⟨Bv, F1, q1, q2, q3, q4, q5, q6⟩ := grow_sound hF hg
            have hd1 := mpa_grow hF hg g1 hl1
            have hr := q1.rep d'
            rw [hd1] at hr
            obtain ⟨bl, es', ck, es2, ck2, B', p1, p2, p3, p4, p5, p6, p7, p8⟩ := putEnt (P := P) hkd hkB hyc hr (q1.nodup d') q2 q6 (fun b hb => q5 d' b hb)
            have hx : a.eval (.tmp s) = .map (some bl) := by show a.tmps.getD s undef = _; rw [g2]; exact p1
            have hrun : (execOp a.eval o).run P w = .ok .skip { w with heap := w.heap.setIfInBounds bl (.map es2 ck2), drawn := w.drawn } := by
              have hz : a.eval (.tmp zs) = a.tmps.getD zs undef := rfl
              rcases p5 with ⟨r1, rfl, rfl⟩ | ⟨i', val, r1, r2, ⟨en, r3, r4⟩, rfl, rfl⟩
              · simp [execOp, ho, hx, hz, Instr.mapUpdate, run_underlying mf.hd, Go.getObj, Go.setObj, Sem.run, p3, run_checkKey hkd hkB, r1]
              · obtain ⟨hi', r3'⟩ := Array.getElem?_eq_some_iff.1 r3
                have r5 : es'[i'].key = a.eval y := by rw [r3']; exact r4
                simp [execOp, ho, hx, hz, Instr.mapUpdate, run_underlying mf.hd, Go.getObj, Go.setObj, Sem.run, p3, run_checkKey hkd hkB, r1, hi', r5, r2]
            refine wp_skip' hrun ?_
            generalize hw' : ({ w with heap := w.heap.setIfInBounds bl (.map es2 ck2), drawn := w.drawn } : World) = w'
            have hlt := q1.lt d' bl p2
            have hb' : w'.heap[bl]? = some (.map es2 ck2) := by rw [← hw']; simp [hlt]
            have hoth : ∀ k, k ≠ bl → w'.heap[k]? = w.heap[k]? := fun k hk => by rw [← hw']; simp [Array.getElem?_setIfInBounds, Ne.symm hk]
            have hkeep : ∀ (B : List Nat), bl ∉ B → Keeps B Pr w Pr w' := fun B hb b' hb' => ⟨hoth b' (fun e => hb (e ▸ hb')), fun _ => rfl⟩
            have hbF : ∃ t, bl ∈ F t := ⟨d', q3 d' bl p2⟩
            rw [hdst'] at hn ⊢
            refine hn undef _ Pr w' (fun t => if t = d' then B' else F1 t) hev ?_ ?_ ⟨by rw [← hw'], by rw [← hw'], by rw [← hw'], by rw [← hw']; simp, PrLe.refl _, fun k hk hna => ⟨hoth k (fun e => hna (e ▸ hbF)), fun _ => rfl⟩, by rw [← hw']; exact Nat.le_refl _⟩ ?_
            · refine q1.rebind (PrLe.refl _) (fun t ht => hkeep _ (fun q => q1.apart t d' ht bl q p2)) (fun _ _ => rfl) (p6 w' hb' hoth) p7 ?_ (fun _ => rfl) (by simp) (by simp) (by simp)
              intro t ht b hb q
              rcases p8 b hb with z | z
              · exact q1.apart t d' ht b q z
              · exact q5 t b z q
            · intro b' o' v hv'
              have := hP b' o' v hv'
              by_cases e : b' = bl
              · subst e; rw [p4] at hv'; cases hv'
              · simp only [cellX, World.cell?, hoth b' e] at this ⊢; exact this
            · intro t b hb
              by_cases e : t = d'
              · simp only [if_pos e] at hb
                rcases p8 b hb with z | z
                · exact .inl ⟨d', q3 d' b z⟩
                · exact .inl (q4 b z)
              · simp only [if_neg e] at hb; exact .inl ⟨t, q3 t b hb⟩
          · cases hev
        · cases hev
      · cases hev
    · cases hev
    split at hev
    · rename_i d' k b es m d v hm hy hz
      split at hev
      · rename_i hs key row hsh hkey hrow
        have hsh' : i.sh = [.mp k b es] := hs.down.symm
        obtain ⟨mf⟩ := tf.mp hsh' hag
        obtain ⟨kd, hkd⟩ : ∃ kd, P.underlying mf.kt = some kd := by
          cases hq : P.underlying mf.kt with
          | none => have := mf.hk; rw [hq] at this; cases k <;> simp [keyB] at this
          | some kd => exact ⟨kd, rfl⟩
        have hkB : keyB k (some kd) = true := hkd ▸ mf.hk
        have hks := keyB_simple hkB
        have hyr := rdO_sound hF hy
        simp only [RepA] at hyr
        have hyc := ofD_rep _ _ _ _ hkey hyr
        have hzr := argOf_val hrow (rdO_sound hF hz)
        obtain ⟨g1, g2⟩ := mpOf_sound hF hm
        have hr := hF.rep d'
        rw [g1] at hr
        simp only [RepS] at hr
        obtain ⟨bl, es', ck, g3, g4, g5, g6, hborn, hnod, m', hp, hlen, hrep⟩ := hr
        have hx : a.eval (.tmp s) = .map (some bl) := by show a.tmps.getD s undef = _; rw [g2]; exact g3
        have hbl : bl ∈ F d' := by rw [g4]; simp
        have hnod' := (hp.map Prod.fst).nodup_iff.2 hnod
        have hpm := mget_perm hks hp hnod' key
        have done : ∀ (es2 : Array MapEntry) (ck2 : Nat) (m2 : List (CE k × RowE es)), BornOK es2 ck2 → m2.Perm (mput k es m key row) → m2.length = es2.size →
            (∀ (i : Nat) (x : CE k × RowE es), m2[i]? = some x → ∃ en : MapEntry, es2[i]? = some en ∧ RepC Pr k x.1 en.key ∧ ValR b en.val (RowVals Pr es x.2)) →
            (execOp a.eval o).run P w = .ok .skip { w with heap := w.heap.setIfInBounds bl (.map es2 ck2), drawn := w.drawn } → o.wp P a w next Q := by
          intro es2 ck2 m2 k1 k2 k3 k4 hrun
          obtain ⟨q1, q2, q3, q4⟩ := objSet (n := w.drawn) (Nat.le_refl _) (ob := .map es2 ck2) (sv := .mp k b es (mput k es m key row)) hF hP hbl g6 (fun w' hw' => by
            simp only [RepS]
            exact ⟨bl, es2, ck2, g3, rfl, hw', g6, k1, mput_keys hks hnod key row, m2, k2, k3, k4⟩) rfl (by simp) (by simp) (by simp)
          refine wp_skip' hrun ?_
          rw [hdst'] at hn ⊢
          exact hn undef _ Pr _ _ hev q1 q2 q3 q4
        rcases find_sound hkB hyc m' es'.toList 0 (by simpa using hlen) (fun i x hi => by simpa using hrep i x hi) with ⟨f1, f2⟩ | ⟨i', en, f1, f2, f3, f4, f5, f6, f7⟩
        · have hh : mhas k es m key = false := by rw [← hpm.2]; exact f1
          have hf := run_findKey (P := P) (w := w) hkd f2
          refine done (es'.push { key := a.eval y, val := a.eval z, born := ck }) (ck + 1) (m' ++ [(key, row)]) ?_ ?_ (by simp [hlen]) ?_ ?_
          · refine ⟨?_, ?_⟩
            · simp only [Array.toList_push, List.map_append, List.map_cons, List.map_nil]
              rw [List.nodup_append]
              refine ⟨hborn.1, by simp, fun x hx y hy e => ?_⟩
              simp at hy; subst hy; subst e
              obtain ⟨en, he, e⟩ := List.mem_map.1 hx
              have := hborn.2 en he; omega
            · intro e he
              simp only [Array.toList_push, List.mem_append, List.mem_singleton] at he
              rcases he with he | rfl
              · have := hborn.2 e he; omega
              · show ck < ck + 1; omega
          · unfold mput
            rw [hh, cond_false]
            exact ((List.perm_append_comm).trans (hp.cons _)).trans (mins_perm key row m).symm
          · intro i x hi
            rcases Nat.lt_trichotomy i m'.length with h | h | h
            · rw [List.getElem?_append_left h] at hi
              obtain ⟨en, q1, q2, q3⟩ := hrep i x hi
              exact ⟨en, by rw [Array.getElem?_push_lt (by omega)]; rw [Array.getElem?_eq_getElem (by omega)] at q1; exact q1, q2, q3⟩
            · subst h
              simp at hi; subst hi
              refine ⟨{ key := a.eval y, val := a.eval z, born := ck }, ?_, hyc, hzr⟩
              rw [hlen]; simp
            · rw [List.getElem?_eq_none (by simp; omega)] at hi; cases hi
          · simp [execOp, ho, hx, Instr.mapUpdate, run_underlying mf.hd, Go.getObj, Go.setObj, Sem.run, g5, run_checkKey hkd hkB, hf]
        · have hh : mhas k es m key = true := by rw [← hpm.2]; exact f1
          have hf := run_findKey (P := P) (w := w) hkd f2
          have hey : en.key = a.eval y := f4
          have hi' : i' < es'.size := by
            have := (List.getElem?_eq_some_iff.1 f3).1; simpa using this
          have hkt := run_keyThatStays (P := P) (w := w) hks hyc
          refine done (es'.modify i' fun e => { e with key := a.eval y, val := a.eval z }) ck (m'.set i' (key, row)) ?_ ?_ (by simp [hlen]) ?_ ?_
          · have hmb : (es'.modify i' fun e => { e with key := a.eval y, val := a.eval z }).toList.map (·.born) = es'.toList.map (·.born) := by
              refine List.ext_getElem? fun j => ?_
              simp only [List.getElem?_map, Array.getElem?_toList, Array.getElem?_modify]
              split
              · cases es'[j]? <;> rfl
              · rfl
            refine ⟨by rw [hmb]; exact hborn.1, fun e he => ?_⟩
            have : e.born ∈ es'.toList.map (·.born) := by rw [← hmb]; exact List.mem_map_of_mem he
            obtain ⟨e', h1, h2⟩ := List.mem_map.1 this
            have := hborn.2 e' h1
            omega
          · unfold mput
            rw [hh, cond_true, ← f7 row]
            exact mset_perm hks hp hnod' key row
          · intro i x hi
            rw [List.getElem?_set] at hi
            rw [Array.getElem?_modify]
            split at hi
            · rename_i e
              subst e
              split at hi
              · simp only [Option.some.injEq] at hi; subst hi
                rw [if_pos rfl, Array.getElem?_eq_getElem hi']
                exact ⟨_, rfl, hyc, hzr⟩
              · cases hi
            · rename_i e
              rw [if_neg e]
              exact hrep i x hi
          · have f3' : es'[i']? = some en := by simpa using f3
            simp [execOp, ho, hx, Instr.mapUpdate, run_underlying mf.hd, Go.getObj, Go.setObj, Sem.run, g5, run_checkKey hkd hkB, hf, f3', hey, hkt]
      · cases hev
    · cases hev
  · cases hev
end
end Go.Proofs.Ytgcjhcefpkbheaa.Lg
end

section
namespace Go.Proofs.Ytgcjhcefpkbheaa.Lg
open Go
variable {Lz : PM}

/-! ### Ranges over maps: whatever is drawn -/
theorem anyN_some {R : Type} {n : Nat} {f : Nat → Option R} {r : R} (h : anyN n f = some r) (i : Nat) (hi : i < n) : f i = some r := by
  unfold anyN at h
  split at h
  · rename_i hq; rw [hq.2 i hi]; exact h
  · cases h
theorem anyN_mk {R : Type} {n : Nat} {f : Nat → Option R} {r : R} (h0 : 0 < n) (h : ∀ i, i < n → f i = some r) : anyN n f = some r := by
  unfold anyN
  rw [if_pos ⟨h0, fun i hi => (h i hi).trans (h 0 h0).symm⟩]
  exact h 0 h0
theorem anyN_pos {R : Type} {n : Nat} {f : Nat → Option R} {r : R} (h : anyN n f = some r) : 0 < n := by
  unfold anyN at h
  split at h
  · rename_i hq; exact hq.1
  · cases h

theorem perm_erase {α : Type} {l l' : List α} (h : l.Perm l') {i : Nat} {x : α} (hx : l[i]? = some x) : ∃ j, l'[j]? = some x ∧ (l.eraseIdx i).Perm (l'.eraseIdx j) := by
  have hm : x ∈ l' := h.mem_iff.1 (List.mem_of_getElem? hx)
  obtain ⟨j, hj⟩ := List.getElem?_of_mem hm
  refine ⟨j, hj, ?_⟩
  have key : ∀ (l : List α) (i : Nat), l[i]? = some x → l.Perm (x :: l.eraseIdx i) := by
    intro l
    induction l with
    | nil => intro i h; simp at h
    | cons y l ih =>
      intro i h
      cases i with
      | zero => simp at h; subst h; exact .refl _
      | succ i =>
        simp only [List.getElem?_cons_succ] at h
        exact ((ih i h).cons y).trans (.swap _ _ _)
  exact (((key l i hx).symm.trans h).trans (key l' j hj)).cons_inv
/-- Of entries of different births one is taken out. -/
theorem filter_erase (l : List MapEntry) (p : MapEntry → Bool) (hn : (l.map (·.born)).Nodup) (i : Nat) (e : MapEntry) (he : (l.filter p)[i]? = some e) : l.filter (fun x => p x && !(x.born == e.born)) = (l.filter p).eraseIdx i := by
  induction l generalizing i with
  | nil => simp at he
  | cons x l ih =>
    simp only [List.map_cons, List.nodup_cons] at hn
    cases hp : p x
    · simp only [List.filter_cons, hp, Bool.false_and, Bool.false_eq_true, if_false] at he ⊢
      exact ih hn.2 i he
    · simp only [List.filter_cons, hp, if_true, Bool.true_and] at he ⊢
      cases i with
      | zero =>
        simp at he; subst he
        simp only [BEq.rfl, Bool.not_true, Bool.false_eq_true, if_false, List.eraseIdx_cons_zero]
        refine List.filter_congr fun y hy => ?_
        have : y.born ≠ x.born := fun e => hn.1 (by rw [← e]; exact List.mem_map_of_mem hy)
        simp [this]
      | succ i =>
        simp only [List.getElem?_cons_succ] at he
        have hmem : e ∈ l := (List.mem_filter.1 (List.mem_of_getElem? he)).1
        have : x.born ≠ e.born := fun q => hn.1 (by rw [q]; exact List.mem_map_of_mem hmem)
        simp only [beq_eq_false_iff_ne.2 this, Bool.not_false, if_true, List.eraseIdx_cons_succ]
        rw [ih hn.2 i he]

section
variable {P : Program} {w : World}
theorem run_choose (n : Nat) (hn : 0 < n) : ∃ i m, i < n ∧ w.drawn ≤ m ∧ (Go.choose (.mapNext n)).run P w = .ok i { w with drawn := m } := by
  by_cases h : n = 1
  · subst h
    exact ⟨0, w.drawn, by omega, Nat.le_refl _, by simp [Go.choose, Sem.run, Question.forced]⟩
  · refine ⟨w.tape w.drawn (.mapNext n) % n, w.drawn + 1, Nat.mod_lt _ hn, Nat.le_succ _, ?_⟩
    have : ¬ n ≤ 1 := by omega
    simp [Go.choose, Sem.run, Question.forced, Question.cut, this]
/-- A step of an iterator over a map. -/
theorem run_nextMap {bl mb ck : Nat} {seen : Array Nat} {es' : Array MapEntry} {t : TypeId} (h1 : w.heap[bl]? = some (.mapIter (some mb) ck seen ck)) (h2 : w.heap[mb]? = some (.map es' ck)) (hB : BornOK es' ck) :
    (es'.toList.filter (fun e => !seen.contains e.born) = [] ∧ ∃ m, w.drawn ≤ m ∧ (Instr.next (.pointer (some ⟨bl, 0, none⟩)) false t).run P w = .ok (.tuple #[.bool false]) { w with drawn := m }) ∨
    ∃ (i : Nat) (e : MapEntry) (m : Nat), (es'.toList.filter (fun e => !seen.contains e.born))[i]? = some e ∧ w.drawn ≤ m ∧ (Instr.next (.pointer (some ⟨bl, 0, none⟩)) false t).run P w = .ok (.tuple #[.bool true, e.key, e.val]) { w with heap := w.heap.setIfInBounds bl (.mapIter (some mb) ck (seen.push e.born) ck), drawn := m } := by
  have hfirst : (!seen.isEmpty && !es'.isEmpty && es'.all (fun e => decide (e.born ≥ ck))) = false := by
    cases he : es'.toList with
    | nil =>
      have : es' = #[] := by simpa using he
      subst this; simp
    | cons x l =>
      have hx := hB.2 x (by rw [he]; simp)
      have : es'.all (fun e => decide (e.born ≥ ck)) = false := by
        rw [← Array.all_toList, he]
        have : ¬ ck ≤ x.born := by omega
        simp [this]
      rw [this, Bool.and_false]
  have hold : (es'.filter fun e => !seen.contains e.born).filter (fun e => decide (e.born < ck)) = es'.filter fun e => !seen.contains e.born := by
    apply Array.ext'
    rw [Array.toList_filter]
    refine List.filter_eq_self.2 fun e he => ?_
    have := hB.2 e (by simpa using (Array.mem_filter.1 (Array.mem_toList_iff.1 he)).1)
    simpa using this
  have hnew : (es'.filter fun e => !seen.contains e.born).filter (fun e => decide (e.born ≥ ck)) = #[] := by
    apply Array.ext'
    rw [Array.toList_filter]
    refine List.filter_eq_nil_iff.2 fun e he => ?_
    have := hB.2 e (by simpa using (Array.mem_filter.1 (Array.mem_toList_iff.1 he)).1)
    simp; omega
  have hcan : ∀ (L : Array MapEntry), L = es'.filter (fun e => !seen.contains e.born) → ∃ C : Array (Option MapEntry), C = (if L.isEmpty then #[none] else #[]) ++ (L ++ #[]).map some ∧ 0 < C.size := by
    intro L _
    refine ⟨_, rfl, ?_⟩
    cases hE : L.isEmpty
    · have : L.size ≠ 0 := by simpa [Array.isEmpty] using hE
      simp; omega
    · simp; omega
  obtain ⟨C, hC, hpos⟩ := hcan _ rfl
  obtain ⟨i, m, hi, hdn, hch⟩ := run_choose (P := P) (w := w) C.size hpos
  have hrun : (Instr.next (.pointer (some ⟨bl, 0, none⟩)) false t).run P w = ((match C[i]? with
      | some (some e) => (do Go.setObj bl (.mapIter (some mb) ck (seen.push e.born) ck); pure (.tuple #[.bool true, e.key, e.val]) : Sem Value)
      | some none => pure (.tuple #[.bool false])
      | none => Go.stuck "Next: no such candidate")).run P { w with drawn := m } := by
    unfold Instr.next
    simp only [Sem.run_bind, Go.getObj, Sem.run, h1, h2, Result.andThen_ok, hfirst, Bool.false_eq_true, if_false, hold, hnew]
    rw [← hC, hch]
    rfl
  have hli : (es'.filter fun e => !seen.contains e.born).toList = es'.toList.filter (fun e => !seen.contains e.born) := Array.toList_filter ..
  cases hE : (es'.filter fun e => !seen.contains e.born).isEmpty
  · rw [hE] at hC
    simp only [Bool.false_eq_true, if_false, Array.append_empty, Array.empty_append] at hC
    subst hC
    simp only [Array.size_map] at hi
    right
    refine ⟨i, (es'.filter fun e => !seen.contains e.born)[i], m, ?_, hdn, ?_⟩
    · rw [← hli, Array.getElem?_toList]; exact Array.getElem?_eq_getElem hi
    · rw [hrun]
      have hbl : bl < w.heap.size := (Array.getElem?_eq_some_iff.1 h1).1
      simp only [Array.getElem?_map, Array.getElem?_eq_getElem hi, Option.map_some, Sem.run_bind, Go.setObj, Sem.run, h1, Result.andThen_ok]
      rfl
  · rw [hE] at hC
    have hemp : es'.filter (fun e => !seen.contains e.born) = #[] := by simpa [Array.isEmpty_iff] using hE
    rw [hemp] at hC
    simp only [if_true, Array.append_empty, Array.map_empty] at hC
    subst hC
    simp at hi; subst hi
    left
    refine ⟨by rw [← hli, hemp], m, hdn, ?_⟩
    rw [hrun]
    rfl
end

section
variable {R : Type} {P : Program} {T : Tab} {E : CallS} {o : Oper} {fr : Fr} {K : Fr → Option R} {r : R} {Pr : PM} {w : World} {a : Act} {F : Nat → List Nat}
  {next : Act → World → Prop} {Q : Exit → Act → World → Prop}

theorem op_nextMap {x : Operand} (ho : o.op = .next x false) (hev : evOp0 T E o fr K = some r) (hF : RepF Lz Pr w fr a.tmps F) (hP : PrOK Pr w) (hd : DOK o a) (hn : Nx Lz K r o.dst Pr w a F next) : o.wp P a w next Q := by
  simp only [evOp0, ho] at hev
  split at hev
  · rename_i s
    split at hev
    · rename_i pre k b es rem cur rest hf
      have hl := find_look s fr [] _ _ _ hf
      have hr := hF.rep s
      rw [hl] at hr
      simp only [RepS] at hr
      obtain ⟨bl, hv, hB, hpr, hr⟩ := hr
      have hbl : bl ∈ F s := by rw [hB]; simp
      have hx : a.eval (.tmp s) = .pointer (some ⟨bl, 0, none⟩) := hv
      have over : ∀ m, w.drawn ≤ m → rem = [] → (Instr.next (.pointer (some ⟨bl, 0, none⟩)) false o.type).run P w = .ok (.tuple #[.bool false]) { w with drawn := m } → o.wp P a w next Q := by
        intro m hdn hrem hrun
        rcases brP_some hev with ⟨_, h⟩ | ⟨hne, _⟩
        · refine wp_value (v := .tuple #[.bool false]) (w' := { w with drawn := m }) (by simp [execOp, ho, hx, hrun]) ?_
          have h1 : RepF Lz Pr { w with drawn := m } fr a.tmps F := hF.mono (PrLe.refl _) fun t b _ => ⟨rfl, fun _ => rfl⟩
          refine fin hd hn h1 hP ((Ext.refl _ _ _).drew hdn) sub_self (B := []) (by simp [RepS, RepA, RepAs, RepD]) List.nodup_nil (by simp) (by simp) rfl (by simp) (by simp) (by simp) h
        · exact absurd hrem hne
      rcases hr with ⟨s', n, h1, h2, h3⟩ | ⟨mb, es', ck, seen, h1, h2, hborn, hse, ⟨m', hp, ens, hens, hlen, hrep⟩, hcur⟩
      · refine over w.drawn (Nat.le_refl _) h2 ?_
        simp [Instr.next, Go.getObj, Sem.run, h1]
      · have hmb := hP.map h2
        rcases run_nextMap (P := P) (t := o.type) h1 hmb hborn with ⟨hnil, m, hdn, hrun⟩ | ⟨i, e, m, he, hdn, hrun⟩
        · refine over m hdn ?_ hrun
          rw [hens, hnil] at hlen
          have : m' = [] := List.length_eq_zero_iff.1 hlen
          rw [this] at hp
          exact List.nil_perm.1 hp
        · rw [← hens] at he
          have hi : i < m'.length := by rw [hlen]; exact (List.getElem?_eq_some_iff.1 he).1
          obtain ⟨en, g1, g2, g3⟩ := hrep i m'[i] (List.getElem?_eq_getElem hi)
          rw [he] at g1; simp only [Option.some.injEq] at g1; subst g1
          obtain ⟨j, hj, hpe⟩ := perm_erase hp (List.getElem?_eq_getElem hi)
          have hjl : j < rem.length := (List.getElem?_eq_some_iff.1 hj).1
          rcases brP_some hev with ⟨hq, _⟩ | ⟨_, h⟩
          · subst hq; simp at hjl
          have hK := anyN_some h j hjl
          have hgd : rem.getD j (CE.dflt k, RowE.dflt es) = m'[i] := by
            rw [List.getD_eq_getElem?_getD, hj]; rfl
          rw [hgd] at hK
          have hmem : e ∈ es'.toList := by
            have := List.mem_of_getElem? he
            rw [hens] at this
            exact (List.mem_filter.1 this).1
          obtain ⟨q1, q2, q3, q4⟩ := objSet (n := m) hdn (ob := .mapIter (some mb) ck (seen.push e.born) ck) (sv := .mit k b es (rem.eraseIdx j) (some m'[i])) hF hP hbl hpr (fun w' hw' => by
            simp only [RepS]
            refine ⟨bl, hv, rfl, hpr, .inr ⟨mb, es', ck, seen.push e.born, hw', h2, hborn, fun q => by subst q; simp at hmem, ⟨m'.eraseIdx i, hpe, ens.eraseIdx i, ?_, by rw [List.length_eraseIdx, List.length_eraseIdx, hlen], ?_⟩, ?_⟩⟩
            · rw [hens] at he ⊢
              rw [← filter_erase es'.toList _ hborn.1 i e he]
              refine List.filter_congr fun y _ => ?_
              by_cases e1 : y.born = e.born <;> by_cases e2 : y.born ∈ seen <;> simp [e1, e2]
            · intro i' x hi'
              rw [List.getElem?_eraseIdx] at hi' ⊢
              split at hi'
              · rename_i hlt; rw [if_pos hlt]; exact hrep _ _ hi'
              · rename_i hlt; rw [if_neg hlt]; exact hrep _ _ hi'
            · intro x hx
              simp only [Option.some.injEq] at hx; subst hx
              exact ⟨e, hmem, by simp, g2, g3⟩) rfl (by simp) (by simp) (by simp)
          refine wp_value (v := .tuple #[.bool true, e.key, e.val]) (w' := { w with heap := w.heap.setIfInBounds bl (.mapIter (some mb) ck (seen.push e.born) ck), drawn := m }) (by simp [execOp, ho, hx, hrun]) ?_
          refine fin hd hn q1 q2 q3 q4 (B := []) ?_ List.nodup_nil (by simp) (by simp) rfl (by simp) (by simp) (by simp) hK
          simp only [RepS, RepA, and_true]
          exact ⟨_, rfl, by simp only [RepAs, RepA, RepD]; exact ⟨trivial, (RepC.toD k _ _ g2), g3.av, trivial⟩⟩
    · cases hev
  · cases hev

theorem op_entry {x : Operand} (ho : o.op = .entry x) (hev : evOp0 T E o fr K = some r) (hF : RepF Lz Pr w fr a.tmps F) (hP : PrOK Pr w) (hd : DOK o a) (hn : Nx Lz K r o.dst Pr w a F next) : o.wp P a w next Q := by
  simp only [evOp0, ho] at hev
  split at hev
  · rename_i s
    split at hev
    · rename_i pre k b es rem x rest hf
      have hl := find_look s fr [] _ _ _ hf
      have hr := hF.rep s
      rw [hl] at hr
      simp only [RepS] at hr
      obtain ⟨bl, hv, hB, hpr, hr⟩ := hr
      have hx : a.eval (.tmp s) = .pointer (some ⟨bl, 0, none⟩) := hv
      rcases hr with ⟨s', n, h1, h2, h3⟩ | ⟨mb, es', ck, seen, h1, h2, hborn, hse, _, hcur⟩
      · cases h3
      · obtain ⟨en, hm, hb, g2, g3⟩ := hcur x rfl
        have hmb := hP.map h2
        have hfind : es'.find? (fun e => e.born == en.born) = some en := by
          rw [← Array.find?_toList]
          have key : ∀ l : List MapEntry, (l.map (·.born)).Nodup → en ∈ l → l.find? (fun e => e.born == en.born) = some en := by
            intro l
            induction l with
            | nil => intro _ h; cases h
            | cons y l ih =>
              intro hn hm
              simp only [List.map_cons, List.nodup_cons] at hn
              rcases List.mem_cons.1 hm with rfl | hm
              · simp
              · have : y.born ≠ en.born := fun e => hn.1 (by rw [e]; exact List.mem_map_of_mem hm)
                rw [List.find?_cons_of_neg (by simpa using this)]
                exact ih hn.2 hm
          exact key _ hborn.1 hm
        refine wp_value (v := .tuple #[en.key, en.val]) (w' := w) ?_ (finV hF hP hd hn ?_ hev)
        · simp [execOp, ho, hx, Instr.entry, Go.getObj, Sem.run, h1, hb, hmb, hfind]
        · simp only [RepA]
          exact ⟨_, rfl, by simp only [RepAs, RepA]; exact ⟨(RepC.toD k _ _ g2), g3.av, trivial⟩⟩
    · cases hev
  · cases hev
end
end Go.Proofs.Ytgcjhcefpkbheaa.Lg
end

section
namespace Go.Proofs.Ytgcjhcefpkbheaa.Lg
open Go
variable {Lz : PM}
section
variable {R : Type} {P : Program} {T : Tab} {E : CallS} {o : Oper} {fr : Fr} {K : Fr → Option R} {r : R} {Pr : PM} {w : World} {a : Act} {F : Nat → List Nat}
  {next : Act → World → Prop} {Q : Exit → Act → World → Prop}

theorem spl_get {α : Type} {p : Nat} {us A : List α} (h : p + us.length ≤ A.length) (j : Nat) : (spl p us A)[j]? = if j < p then A[j]? else if j < p + us.length then us[j - p]? else A[j]? := by
  unfold spl
  have h1 : (A.take p).length = p := by rw [List.length_take]; omega
  rw [List.append_assoc]
  by_cases q : j < p
  · rw [if_pos q, List.getElem?_append_left (by omega), List.getElem?_take, if_pos q]
  · rw [if_neg q, List.getElem?_append_right (by omega), h1]
    by_cases q2 : j < p + us.length
    · rw [if_pos q2, List.getElem?_append_left (by omega)]
    · rw [if_neg q2, List.getElem?_append_right (by omega), List.getElem?_drop]
      congr 1; omega
theorem spl_length {α : Type} {p : Nat} {us A : List α} (h : p + us.length ≤ A.length) : (spl p us A).length = A.length := by
  unfold spl; simp only [List.length_append, List.length_take, List.length_drop]; omega
theorem set_flat {α : Type} {n : Nat} {vs' : List α} (hv : vs'.length = n) : ∀ (vss : List (List α)) (i : Nat), (∀ vs ∈ vss, vs.length = n) → i < vss.length → (vss.set i vs').flatten = spl (i * n) vs' vss.flatten
  | [], i, _, h => by simp at h
  | vs :: vss, 0, hl, _ => by
    have := hl vs List.mem_cons_self
    simp only [List.set_cons_zero, List.flatten_cons, Nat.zero_mul, spl, List.take_zero, List.nil_append, Nat.zero_add]
    rw [List.drop_append, hv, List.drop_of_length_le (by omega), this, Nat.sub_self, List.drop_zero, List.nil_append]
  | vs :: vss, i + 1, hl, h => by
    have hvs := hl vs List.mem_cons_self
    have ih := set_flat hv vss i (fun x hx => hl x (List.mem_cons_of_mem _ hx)) (by simpa using h)
    have hlen : vss.flatten.length = vss.length * n := by
      clear ih h
      induction vss with
      | nil => simp
      | cons x xs ih =>
        simp only [List.flatten_cons, List.length_append, List.length_cons]
        rw [ih (fun y hy => hl y (by rcases List.mem_cons.1 hy with rfl | hy; · simp
                                     · simp [hy])), hl x (by simp), Nat.add_mul]; omega
    have hi : i * n + n ≤ vss.flatten.length := by
      have h' : i + 1 ≤ vss.length := by have : i < vss.length := by simpa using h
                                         omega
      rw [hlen]
      calc i * n + n = (i + 1) * n := by rw [Nat.add_mul, Nat.one_mul]
        _ ≤ vss.length * n := Nat.mul_le_mul_right n h'
    simp only [List.set_cons_succ, List.flatten_cons, ih]
    refine List.ext_getElem? fun j => ?_
    have e1 : (i + 1) * n = n + i * n := by rw [Nat.add_mul, Nat.one_mul]; omega
    rw [e1, spl_get (A := vs ++ vss.flatten) (by rw [hv, List.length_append, hvs]; omega)]
    by_cases q : j < n
    · rw [List.getElem?_append_left (by omega), if_pos (by omega), List.getElem?_append_left (by omega)]
    · rw [List.getElem?_append_right (by omega), hvs, spl_get (by omega), List.getElem?_append_right (by omega), hvs, hv]
      repeat' split
      all_goals first | rfl | (exfalso; omega) | (congr 1; omega)
theorem spl_in {α : Type} {n p : Nat} {us vs A : List α} {i : Nat} (hvs : ∀ j x, vs[j]? = some x → A[i * n + j]? = some x) (hn : vs.length = n) (hp : p + us.length ≤ n) (hi : i * n + n ≤ A.length) :
    spl (i * n) (spl p us vs) A = spl (i * n + p) us A := by
  have hl : (spl p us vs).length = n := by rw [spl_length (by omega)]; exact hn
  refine List.ext_getElem? fun j => ?_
  rw [spl_get (p := i * n) (us := spl p us vs) (by omega), spl_get (p := i * n + p) (by omega), hl]
  have hA : i * n ≤ j → j < i * n + n → A[j]? = vs[j - i * n]? := fun z1 z2 => by
    have hj : j - i * n < vs.length := by omega
    rw [List.getElem?_eq_getElem hj]
    have := hvs (j - i * n) _ (List.getElem?_eq_getElem hj)
    rw [show i * n + (j - i * n) = j by omega] at this; exact this
  by_cases q : j < i * n
  · rw [if_pos q, if_pos (by omega)]
  · by_cases q2 : j < i * n + n
    · rw [if_neg q, if_pos q2, spl_get (by omega), hA (by omega) q2]
      repeat' split
      all_goals first | rfl | (exfalso; omega) | (congr 1; omega)
    · rw [if_neg q, if_neg q2]
      repeat' split
      all_goals first | rfl | (exfalso; omega)
theorem RowsVals.set {es : List Sh} : ∀ (l : List (RowE es)) (vss : List (List Value)) (i : Nat) (x : RowE es) (vs : List Value), RowsVals Pr es l vss → RowVals Pr es x vs → RowsVals Pr es (l.set i x) (vss.set i vs)
  | [], [], _, _, _, h, _ => by simpa using h
  | y :: l, u :: vss, 0, x, vs, h, k => by simp only [List.set_cons_zero, RowsVals] at h ⊢; exact ⟨k, h.2⟩
  | y :: l, u :: vss, i + 1, x, vs, h, k => by simp only [List.set_cons_succ, RowsVals] at h ⊢; exact ⟨h.1, RowsVals.set l vss i x vs h.2 k⟩
  | [], _ :: _, _, _, _, h, _ => by simp [RowsVals] at h
  | _ :: _, [], _, _, _, h, _ => by simp [RowsVals] at h
theorem RowsVals.each {es : List Sh} : ∀ (l : List (RowE es)) (vss : List (List Value)), RowsVals Pr es l vss → vss.length = l.length ∧ ∀ vs ∈ vss, vs.length = es.length
  | [], [], _ => by simp
  | y :: l, u :: vss, h => by
    simp only [RowsVals] at h
    obtain ⟨h1, h2⟩ := RowsVals.each l vss h.2
    refine ⟨by simp [h1], fun vs hv => ?_⟩
    rcases List.mem_cons.1 hv with rfl | hv
    · exact RowVals.length es y _ h.1
    · exact h2 vs hv
  | [], _ :: _, h => by simp [RowsVals] at h
  | _ :: _, [], h => by simp [RowsVals] at h
theorem flat_at {α : Type} {n : Nat} : ∀ (vss : List (List α)) (i : Nat) (vs : List α), (∀ x ∈ vss, x.length = n) → vss[i]? = some vs → i * n + n ≤ vss.flatten.length ∧ ∀ (j : Nat) (x : α), vs[j]? = some x → vss.flatten[i * n + j]? = some x
  | [], i, vs, _, h => by simp at h
  | u :: vss, 0, vs, hl, h => by
    simp at h; subst h
    have := hl u List.mem_cons_self
    refine ⟨by simp only [List.flatten_cons, List.length_append]; omega, fun j x hj => ?_⟩
    have hlt := (List.getElem?_eq_some_iff.1 hj).1
    simp only [List.flatten_cons, Nat.zero_mul, Nat.zero_add]
    rw [List.getElem?_append_left hlt]; exact hj
  | u :: vss, i + 1, vs, hl, h => by
    have hu := hl u List.mem_cons_self
    obtain ⟨h1, h2⟩ := flat_at vss i vs (fun x hx => hl x (List.mem_cons_of_mem _ hx)) (by simpa using h)
    have e1 : (i + 1) * n = n + i * n := by rw [Nat.add_mul, Nat.one_mul]; omega
    refine ⟨by simp only [List.flatten_cons, List.length_append]; omega, fun j x hj => ?_⟩
    simp only [List.flatten_cons]
    rw [List.getElem?_append_right (by omega), hu, show (i + 1) * n + j - n = i * n + j by omega]
    exact h2 j x hj
theorem RowVals.of_ds {es : List Sh} {x : RowE es} {vs us : List Value} {ds : List D} {p : Nat} {r' : RowE es} (hx : RowVals Pr es x vs) (hd : RepDs Pr ds us) (hp : p + ds.length ≤ es.length) (hr : ofDs es (setD p ds (rowD es x)) = some r') :
    RowVals Pr es r' (spl p us vs) := by
  have h1 := RowVals.ds es x vs hx
  have hl := RepDs.length _ _ h1
  have hv := RowVals.length es x vs hx
  rw [setD_spl p ds (rowD es x) (by omega)] at hr
  exact ofDs_vals es _ r' _ hr (RepDs.spl p h1 hd)
theorem rowAdr_sound {ts : Array Value} (h : RepF Lz Pr w fr ts F) {s d n p : Nat} {es : List Sh} {l : List (RowE es)} (hv : rowAdr s fr = some (d, n, p, ⟨es, l⟩)) :
    look1 d fr = .own es l ∧ OWv (.at es.length n p) (ts.getD d undef) (ts.getD s undef) := by
  unfold rowAdr at hv
  split at hv
  · rename_i pre d0 n0 i0 o0 rest hf
    cases hb : bound d0 pre
    · rw [hb, cond_false] at hv
      have hl0 := find_rest s d0 fr pre _ rest hf hb
      split at hv
      · rename_i es0 l0 hl
        cases hn : Nat.beq n0 es0.length
        · rw [hn, cond_false] at hv; cases hv
        · rw [hn, cond_true] at hv
          have hn := Nat.eq_of_beq_eq_true hn
          simp only [Option.some.injEq, Prod.mk.injEq, Sigma.mk.injEq] at hv
          obtain ⟨rfl, rfl, rfl, rfl, hv⟩ := hv
          cases hv
          have ho := h.own s pre d0 _ rest hf hb
          rw [hn] at ho
          exact ⟨hl0.trans hl, ho⟩
      · cases hv
    · rw [hb, cond_true] at hv; cases hv
  · cases hv
theorem own_store {t : TypeId} {i : TI} {s : Nat} {x : Operand} (tf : TyF P t i) (ho : o.op = .store t (.tmp s) x) (hdst : o.dst = none) (hev : evStoreOwn i s x fr K = some r) (hF : RepF Lz Pr w fr a.tmps F) (hP : PrOK Pr w) (hn : Nx Lz K r o.dst Pr w a F next) : o.wp P a w next Q := by
  unfold evStoreOwn at hev
  split at hev
  · rename_i d n p es l ds ha hx
    replace hev := bif_some hev; obtain ⟨hlen, hev⟩ := hev
    replace hev := bif_some hev; obtain ⟨hfit, hev⟩ := hev
    have hlen := Nat.eq_of_beq_eq_true hlen
    have hfit := Nat.le_of_ble_eq_true hfit
    split at hev
    · rename_i r' hr'
      obtain ⟨hl, hOW⟩ := rowAdr_sound hF ha
      have hr := hF.rep d
      rw [hl] at hr
      simp only [RepS] at hr
      obtain ⟨bb, off0, len0, cap0, q1, q2, q3⟩ := hOW
      rcases hr with ⟨h1, h2, _⟩ | ⟨b, off, cap, c, T', vss, hv, hB, hblk, hcap, hsz, hspare, hrows, hcells⟩
      · rw [h1] at q1; simp at q1
      rw [hv] at q1
      simp only [Value.slice.injEq, Option.some.injEq, Addr.mk.injEq] at q1
      obtain ⟨⟨rfl, rfl, _⟩, rfl, rfl⟩ := q1
      obtain ⟨e1, e2⟩ := RowsVals.each l vss hrows
      obtain ⟨vv, hxv, hds⟩ := Option.bind_eq_some_iff.1 hx
      have hrep := (rdO_sound hF hxv).cells hds
      generalize hus : (a.eval x).cells.toList = us at hrep
      have hul := RepDs.length _ _ hrep
      have hget : vss[n]? = some vss[n] := List.getElem?_eq_getElem (by omega)
      obtain ⟨f1, f2⟩ := flat_at vss n vss[n] e2 hget
      have hxl : l[n]? = some (getR es l n) := by
        have := getR_get (es := es) (l := l) (n := (n : Int)) ⟨by omega, by omega⟩
        simpa using this
      have hrow : RowVals Pr es (getR es l n) vss[n] := by
        obtain ⟨vs0, g1, g2, g3⟩ := RowsVals.get l vss n _ hrows hxl
        have : vss[n] = vs0 := by
          refine List.ext_getElem? fun j => ?_
          by_cases hj : j < es.length
          · rw [List.getElem?_eq_getElem (by rw [e2 _ (List.getElem_mem _)]; exact hj), List.getElem?_eq_getElem (by omega)]
            have t1 := f2 j _ (List.getElem?_eq_getElem (by rw [e2 _ (List.getElem_mem _)]; exact hj))
            have t2 := g3 j _ (List.getElem?_eq_getElem (by omega))
            rw [t1] at t2
            exact t2
          · rw [List.getElem?_eq_none (by rw [e2 _ (List.getElem_mem _)]; omega), List.getElem?_eq_none (by omega)]
        rw [this]; exact g1
      have hnew := RowVals.of_ds hrow hrep (by omega) hr'
      have hone := RepDs.one _ _ hrep
      have hflen : vss.flatten.length = l.length * es.length := RowsVals.length l vss hrows
      have hin : off + l.length * es.length ≤ c.size := Nat.le_trans (Nat.add_le_add_left (Nat.mul_le_mul_right _ hcap) _) hsz
      have hpos : off + n * es.length + p + us.length ≤ c.size := by omega
      have hrun : (storeCells ⟨b, off + n * es.length + p, none⟩ us 0).run P w = .ok () (w.setRow b (c.toList.take (off + n * es.length + p) ++ us ++ c.toList.drop (off + n * es.length + p + us.length)).toArray) := by
        have := run_storeCells_at P b (off + n * es.length + p) T' us 0 c w hblk (by simpa using hpos) hone
        simpa using this
      have hcs : (a.eval x).cells.size = i.sh.length := by
        have hcs0 : (a.eval x).cells.toList.length = us.length := by rw [hus]
        rw [Array.length_toList] at hcs0; omega
      have hsv : a.eval (.tmp s) = .pointer (some ⟨b, off + n * es.length + p, none⟩) := q3
      have hw : (execOp a.eval o).run P w = .ok .skip (w.setRow b (c.toList.take (off + n * es.length + p) ++ us ++ c.toList.drop (off + n * es.length + p + us.length)).toArray) := by
        simp only [execOp, ho, hsv, Instr.storeAt, Instr.sureAddr, storeVar, Sem.run_bind, Sem.run_pure, Result.andThen_ok, tf.run_sizeOf, hcs, ne_eq, not_true_eq_false, if_false, hus, hrun]
      refine wp_skip' hw ?_
      generalize hw' : w.setRow b (c.toList.take (off + n * es.length + p) ++ us ++ c.toList.drop (off + n * es.length + p + us.length)).toArray = w'
      have hbl' : w'.heap[b]? = some (.cells (spl (off + n * es.length + p) us c.toList).toArray T' (0, 0)) := by
        rw [← hw']; exact setRow_heap w b c _ T' (0, 0) hblk
      have hoth : ∀ k, k ≠ b → w'.heap[k]? = w.heap[k]? := fun k hk => by rw [← hw']; exact setRow_other w b k _ hk
      have hsize : w'.heap.size = w.heap.size := by rw [← hw']; simp
      have hbd : b ∈ F d := by rw [hB]; exact List.mem_cons_self
      have hkeep : ∀ (B : List Nat), b ∉ B → Keeps B Pr w Pr w' := fun B hb b' hb' => ⟨hoth b' (fun e => hb (e ▸ hb')), fun _ => rfl⟩
      have hcl : ∀ j, (spl (off + n * es.length + p) us c.toList)[j]? = if j < off + n * es.length + p then c[j]? else if j < off + n * es.length + p + us.length then us[j - (off + n * es.length + p)]? else c[j]? := fun j => by
        rw [spl_get (by simpa using hpos)]; simp
      have hrepS : RepS Lz Pr w' (.own es (l.set n r')) (a.tmps.getD d undef) [b] := by
        simp only [RepS]
        refine .inr ⟨b, off, cap, (spl (off + n * es.length + p) us c.toList).toArray, T', vss.set n (spl p us vss[n]), by rw [List.length_set]; exact hv, rfl, hbl', by simpa using hcap, ?_, hspare, RowsVals.set l vss n r' _ hrows hnew, ?_⟩
        · have : (spl (off + n * es.length + p) us c.toList).length = c.toList.length := spl_length (by simpa using hpos)
          simp only [List.size_toArray, this]; simpa using hsz
        · have hvl : (spl p us vss[n]).length = es.length := by rw [spl_length (by rw [e2 _ (List.getElem_mem _)]; omega)]; exact e2 _ (List.getElem_mem _)
          rw [set_flat hvl vss n e2 (by omega), spl_in f2 (e2 _ (List.getElem_mem _)) (by omega) f1]
          intro j v hj
          rw [spl_get (by omega)] at hj
          simp only [List.getElem?_toArray]
          rw [hcl]
          by_cases z1 : j < n * es.length + p
          · rw [if_pos z1] at hj; rw [if_pos (by omega)]; exact hcells j v hj
          · rw [if_neg z1] at hj
            rw [if_neg (by omega)]
            by_cases z2 : j < n * es.length + p + us.length
            · rw [if_pos z2] at hj; rw [if_pos (by omega), ← hj]; congr 1; omega
            · rw [if_neg z2] at hj; rw [if_neg (by omega)]; exact hcells j v hj
      have hfin : RepF Lz Pr w' ((d, .own es (l.set n r')) :: fr) a.tmps (fun t => if t = d then [b] else F t) := by
        refine hF.rebind (PrLe.refl _) (fun t ht => hkeep _ (fun q => hF.apart t d ht b q hbd)) (fun _ _ => rfl) hrepS (by simp) ?_ (by simp [SV.isUpd]) (by simp) (by simp) (by simp)
        intro t ht b' hb' q
        simp at hb'; subst hb'
        exact hF.apart t d ht _ q hbd
      have hP' : PrOK Pr w' := hP.setRow hblk _ (fun j v h => by
        have hj : j < off := by
          rcases Nat.lt_or_ge j off with q | q
          · exact q
          · rw [hspare j q] at h; cases h
        simp only [List.getElem?_toArray]
        rw [hcl, if_pos (by omega)]) w' hbl' hoth
      have hx' : Ext (fun b => ∃ t, b ∈ F t) Pr w Pr w' := by
        refine ⟨by rw [← hw']; rfl, by rw [← hw']; rfl, by rw [← hw']; rfl, by omega, PrLe.refl _, fun k hk hna => ⟨hoth k (fun e => ?_), fun _ => rfl⟩, by rw [← hw']; exact Nat.le_refl _⟩
        subst e; exact hna ⟨d, hbd⟩
      rw [hdst] at hn ⊢
      refine hn undef _ Pr w' _ hev hfin hP' hx' ?_
      intro t b' hb'
      by_cases e : t = d
      · rw [if_pos e] at hb'; simp at hb'; subst hb'; exact .inl ⟨d, hbd⟩
      · rw [if_neg e] at hb'; exact .inl ⟨t, hb'⟩
    · cases hev
  · cases hev

theorem rows_dflt {es : List Sh} {z : List Value} (hz : RowVals Pr es (RowE.dflt es) z) : ∀ n : Nat, RowsVals Pr es (List.replicate n (RowE.dflt es)) (List.replicate n z)
  | 0 => by simp [RowsVals]
  | n + 1 => by simp only [List.replicate_succ, RowsVals]; exact ⟨hz, rows_dflt hz n⟩
theorem flat_rep {α : Type} (z : List α) (hz : 0 < z.length) : ∀ (n j : Nat) (x : α), (List.replicate n z).flatten[j]? = some x → j < n * z.length ∧ z[j % z.length]? = some x
  | 0, j, x, h => by simp at h
  | n + 1, j, x, h => by
    simp only [List.replicate_succ, List.flatten_cons] at h
    by_cases q : j < z.length
    · rw [List.getElem?_append_left q] at h
      refine ⟨by rw [Nat.add_mul]; omega, ?_⟩
      rw [Nat.mod_eq_of_lt q]; exact h
    · rw [List.getElem?_append_right (by omega)] at h
      obtain ⟨h1, h2⟩ := flat_rep z hz n _ x h
      refine ⟨by rw [Nat.add_mul]; omega, ?_⟩
      rw [Nat.mod_eq_sub_mod (by omega)]; exact h2
theorem op_makeSlice {t : TypeId} {x y : Operand} (hC : Cx P T) (ho : o.op = .makeSlice t x y) (hev : evOp0 T E o fr K = some r) (hF : RepF Lz Pr w fr a.tmps F) (hP : PrOK Pr w) (hd : DOK o a) (hn : Nx Lz K r o.dst Pr w a F next) : o.wp P a w next Q := by
  simp only [evOp0, ho] at hev
  replace hev := withT_some hev; obtain ⟨i, hi, hev⟩ := hev
  obtain ⟨tf⟩ := hC.facts hi
  split at hev
  · rename_i n m hx hy
    cases hb : (i.agg || i.es.isEmpty)
    case true => rw [hb, cond_true] at hev; cases hev
    rw [hb, cond_false] at hev
    rw [Bool.or_eq_false_iff] at hb
    obtain ⟨ha, hne⟩ := hb
    replace hev := chk_some hev; obtain ⟨⟨rfl, h0, hlim⟩, hev⟩ := hev
    have hne' : i.es ≠ [] := by intro q; rw [q] at hne; simp at hne
    obtain ⟨ef⟩ := tf.slice ha (.inl hne')
    have hxr := rdO_sound hF hx
    have hyr := rdO_sound hF hy
    simp only [RepA, RepD] at hxr hyr
    have hes : 0 < i.es.length := by cases h : i.es with | nil => exact absurd h hne' | cons _ _ => simp
    have hsz : ef.z.cells.size = i.es.length := zero_size ef
    have hzv : RowVals Pr i.es (RowE.dflt i.es) ef.z.cells.toList := zerosD_vals _ _ ef.hzb
    obtain ⟨n, rfl⟩ := Int.eq_ofNat_of_zero_le h0
    have hn1 : (n : Int) ≤ 9223372036854775807 := by
      have hb0 : 1 ≤ i.eb := by have := ef.hb0; have := ef.hb; omega
      have h1 : (n : Int) * 1 ≤ (n : Int) * (i.eb : Int) := Int.mul_le_mul_of_nonneg_left (by omega) h0
      simp only [lim] at hlim; omega
    refine wp_value (v := .slice (some ⟨w.heap.size, 0, none⟩) n n) (w' := { w with heap := w.heap.push (.cells (madeCells ef.z.cells (n * i.es.length)) ef.e), drawn := w.drawn }) ?_ ?_
    · have := run_make (P := P) w t ef.e ef.f ef.z ef.hd ef.hf ef.hz .i64 .i64 n n h0 (Int.le_refl _) (by rw [ef.hb]; have e : (i.eb : Int) * (n : Int) = (n : Int) * (i.eb : Int) := Int.mul_comm _ _; simp only [lim] at hlim; omega) hn1
      simp only [Int.toNat_natCast, ef.hs] at this
      simp only [execOp, ho, hxr, hyr, Sem.run_bind, this, Result.andThen_ok, Sem.run_pure]
      rfl
    · have hlen : (List.replicate n (RowE.dflt i.es)).length = n := by simp
      have := finOwn (o := o) (K := K) (r := r) (next := next) (n := w.drawn) (l := List.replicate n (RowE.dflt i.es)) (vss := List.replicate n ef.z.cells.toList) (c := madeCells ef.z.cells (n * i.es.length)) (e := ef.e) (cap := n) (es := i.es) (Nat.le_refl _) hF (fun t b hb => ⟨t, hb⟩) hP hd hn (rows_dflt hzv n) ?_ (by simp) (by rw [size_madeCells]; exact Nat.le_refl _) (by simpa using hev)
      · rw [hlen] at this; exact this
      · intro j v hj
        obtain ⟨k1, k2⟩ := flat_rep _ (by simpa using hsz ▸ hes) n j v hj
        have hl : ef.z.cells.toList.length = i.es.length := by simpa using hsz
        rw [hl] at k1 k2
        have hm : j % i.es.length < ef.z.cells.size := by rw [hsz]; exact Nat.mod_lt _ hes
        simp only [madeCells, Array.getElem?_map, Array.getElem?_range, k1, if_true, Option.map_some, hsz]
        rw [Array.getElem?_toList] at k2
        rw [getElem!_pos ef.z.cells _ hm]
        rw [Array.getElem?_eq_getElem hm] at k2
        exact k2
  · cases hev
theorem op_makeFunc {fn : Fn} {first caps : Array Operand} (ho : o.op = .makeFunc fn first caps) (hev : evOp0 T E o fr K = some r) (hF : RepF Lz Pr w fr a.tmps F) (hP : PrOK Pr w) (hd : DOK o a) (hn : Nx Lz K r o.dst Pr w a F next)
    (args : ∀ (l : List Operand) (vs : List AV), argVs fr l = some vs → RepAs Pr vs (l.map a.eval)) : o.wp P a w next Q := by
  cases fn with
  | func g =>
    simp only [evOp0, ho] at hev
    replace hev := bif_some hev; obtain ⟨hf, hev⟩ := hev
    split at hev
    · rename_i vs hvs
      have hf' : first = #[] := by cases first; simpa using hf
      subst hf'
      refine wp_value (v := .func (.func g) #[] (caps.map a.eval)) (w' := w) (by simp [execOp, ho, Instr.makeFunc]) (finV (x := .fn g vs) hF hP hd hn ?_ hev)
      simp only [RepA]
      exact ⟨_, rfl, by simpa using args _ _ hvs⟩
    · cases hev
  | _ => simp [evOp0, ho] at hev
theorem op_slice3 {t : TypeId} {x mx : Operand} {lo hi : Option Operand} (hC : Cx P T) (ho : o.op = .slice t x lo hi (some mx)) (hev : evOp0 T E o fr K = some r) (hF : RepF Lz Pr w fr a.tmps F) (hP : PrOK Pr w) (hd : DOK o a) (hn : Nx Lz K r o.dst Pr w a F next) : o.wp P a w next Q := by
  simp only [evOp0, ho] at hev
  replace hev := withT_some hev; obtain ⟨i, hi', hev⟩ := hev
  obtain ⟨tf⟩ := hC.facts hi'
  split at hev
  · rename_i es l ka na kb nb kc nc hag hx hlo hhi hmx
    replace hev := bif_some hev; obtain ⟨hfit, hev⟩ := hev
    replace hev := chk_some hev; obtain ⟨⟨h0, h1, h2, h3⟩, hev⟩ := hev
    obtain ⟨hs, hes⟩ := fitsV_sl hfit
    obtain ⟨ef⟩ := tf.slice hag (.inr ⟨es, hs⟩)
    have hxr := rdO_sound hF hx
    simp only [RepA, RepD, RepC] at hxr
    obtain ⟨p, len, cap, hv, rfl, hcap, hrow⟩ := hxr
    rcases rdOpt_sound hF hlo with ⟨_, q⟩ | ⟨yl, ul, rfl, q, hl⟩
    · cases q
    cases q
    rcases rdOpt_sound hF hhi with ⟨_, q⟩ | ⟨yh, uh, rfl, q, hh⟩
    · cases q
    cases q
    have hm := rdO_sound hF hmx
    simp only [RepA, RepD] at hl hh hm
    have hsz : ∀ w', (Go.sizeOf ef.e).run P w' = .ok es.length w' := fun w' => by rw [← hes]; exact ef.run_size w'
    obtain ⟨na, rfl⟩ := Int.eq_ofNat_of_zero_le h0
    obtain ⟨nb, rfl⟩ := Int.eq_ofNat_of_zero_le (Int.le_trans h0 h1)
    obtain ⟨nc, rfl⟩ := Int.eq_ofNat_of_zero_le (Int.le_trans (Int.le_trans h0 h1) h2)
    have hx' : a.eval x = .slice p l.length cap := hv
    refine wp_value (v := .slice (if nc = na then p else p.map (·.add (na * es.length))) (nb - na) (nc - na)) (w' := w) ?_ (finV (x := .d (.sl es ((l.take nb).drop na))) hF hP hd hn ?_ (by simpa using hev))
    · have c1 : nc ≤ cap := by omega
      have c2 : nb ≤ nc := by omega
      have c3 : na ≤ nb := by omega
      simp [execOp, ho, hx', hl, hh, hm, Instr.sliceAt, Instr.slice, Instr.sliceBounds, Instr.sliceBound, asIntOf, run_underlying ef.hd, hsz, c1, c2, c3, Int.toNat_natCast]
    · simp only [RepA, RepD, RepC]
      refine ⟨_, _, _, rfl, by simp; omega, by omega, ?_⟩
      rcases hrow with rfl | ⟨b, off, rfl, hrow⟩
      · exact .inl (by simp)
      · by_cases q : nc = na
        · refine .inl ?_
          refine List.eq_nil_of_length_eq_zero ?_
          simp; omega
        · refine .inr ⟨b, off + na * es.length, by rw [if_neg q]; simp [Addr.add_lit], fun j y hj => ?_⟩
          rw [List.getElem?_drop, List.getElem?_take] at hj
          split at hj
          · have := hrow _ y hj
            rw [show off + na * es.length + j * es.length = off + (na + j) * es.length by rw [Nat.add_mul]; omega]
            exact this
          · cases hj
  · cases hev

/-! ### What is told otherwise ahead of an operation -/
theorem Nx.pre {dst : Option Tmp} {Pr' : PM} {F' : Nat → List Nat} (h : Nx Lz K r dst Pr w a F next) (hle : PrLe Pr Pr') (hout : ∀ b, (∀ t, b ∉ F t) → ∀ o, Pr' b o = Pr b o) (hs : ∀ t b, b ∈ F' t → ∃ t', b ∈ F t') : Nx Lz K r dst Pr' w a F' next :=
  fun v fr2 Pr2 w2 F2 hK hF2 hP2 hx hsub => h v fr2 Pr2 w2 F2 hK hF2 hP2
    ⟨hx.os, hx.tape, hx.output, hx.size, hle.trans hx.le, fun b hb hn => by
      obtain ⟨q1, q2⟩ := hx.block b hb (fun ⟨t, q⟩ => hn (hs t b q))
      exact ⟨q1, fun o => (q2 o).trans (hout b (fun t q => hn ⟨t, q⟩) o)⟩, hx.dr⟩
    (fun t b hb => (hsub t b hb).imp (fun ⟨t', q⟩ => hs t' b q) id)
/-- A frame that tells more is left as it is. -/
def PreOK (Lz : PM) (Pr : PM) (w : World) (fr' : Fr) (ts : Array Value) (F : Nat → List Nat) : Prop :=
  ∃ Pr' F', RepF Lz Pr' w fr' ts F' ∧ PrOK Pr' w ∧ PrLe Pr Pr' ∧ (∀ b, (∀ t, b ∉ F t) → ∀ o, Pr' b o = Pr b o) ∧ ∀ t b, b ∈ F' t → b ∈ F t
theorem PreOK.same {ts : Array Value} (hF : RepF Lz Pr w fr ts F) (hP : PrOK Pr w) : PreOK Lz Pr w fr ts F := ⟨Pr, F, hF, hP, PrLe.refl _, fun _ _ _ => rfl, fun _ _ h => h⟩
theorem PreOK.trans {ts : Array Value} {fr2 : Fr} {fr' : Fr} (h : PreOK Lz Pr w fr' ts F) (k : ∀ Pr' F', RepF Lz Pr' w fr' ts F' → PrOK Pr' w → PreOK Lz Pr' w fr2 ts F') : PreOK Lz Pr w fr2 ts F := by
  obtain ⟨Pr1, F1, h1, h2, h3, h4, h5⟩ := h
  obtain ⟨Pr2, F2, k1, k2, k3, k4, k5⟩ := k Pr1 F1 h1 h2
  exact ⟨Pr2, F2, k1, k2, h3.trans k3, fun b hb o => (k4 b (fun t q => hb t (h5 t b q)) o).trans (h4 b hb o), fun t b hb => h5 t b (k5 t b hb)⟩
theorem frzBox_sound {ts : Array Value} (hF : RepF Lz Pr w fr ts F) (hP : PrOK Pr w) (s : Nat) : PreOK Lz Pr w (frzBox s fr) ts F := by
  unfold frzBox
  split
  · rename_i pre nw cs rest hf
    split
    · rename_i ds hds
      have hr := hF.rep s
      rw [find_look s fr [] _ _ _ hf] at hr
      simp only [RepS] at hr
      obtain ⟨b, c, T', Bs, hv, hbl, hpr, hB, hss⟩ := hr
      have hrep := RepSs.cellsD cs c.toList Bs ds hss hds
      have hbd : b ∈ F s := by rw [hB]; exact List.mem_cons_self
      have hle : PrLe Pr (prExt Pr b 0 c.toList) := prExt_le fun o _ => hpr o
      refine ⟨prExt Pr b 0 c.toList, fun t => if t = s then [] else F t, ?_, ?_, hle, ?_, ?_⟩
      · refine hF.rebind hle (fun t ht b' hb' => ⟨rfl, fun o => prExt_other (fun e : b' = b => hF.apart t s ht b' hb' (e ▸ hbd)) o⟩) (fun _ _ => rfl) (B := []) ?_ List.nodup_nil (by simp) (by simp [SV.isUpd]) (by simp) (by simp) (by simp)
        simp only [RepS, and_true]
        refine ⟨b, 0, hv, fun j x hj => ?_⟩
        have hlen := RepDs.length _ _ hrep
        have hjl : j < c.toList.length := by have := (List.getElem?_eq_some_iff.1 hj).1; omega
        exact ⟨_, prExt_at (lo := 0) (List.getElem?_eq_getElem hjl), RepD.mono hle _ _ (RepDs.get ds c.toList hrep j x _ hj (List.getElem?_eq_getElem hjl))⟩
      · intro b' o v hv'
        simp only [prExt] at hv'
        split at hv'
        · rename_i hq
          obtain ⟨rfl, _, _⟩ := hq
          rw [Nat.sub_zero] at hv'
          rw [cellX_cells hbl]
          rw [Array.getElem?_toList] at hv'
          rw [hv']
          have := RepDs.tup hrep o v (by rw [Array.getElem?_toList]; exact hv')
          simp [this]
        · exact hP b' o v hv'
      · intro b' hb' o
        exact prExt_other (fun e : b' = b => hb' s (e ▸ hbd)) o
      · intro t b' hb'
        by_cases e : t = s
        · simp [e] at hb'
        · simp only [if_neg e] at hb'; exact hb'
    · exact PreOK.same hF hP
  · exact PreOK.same hF hP
theorem frzBoxes_sound {ts : Array Value} : ∀ (l : List Operand) (fr : Fr) (Pr : PM) (F : Nat → List Nat), RepF Lz Pr w fr ts F → PrOK Pr w → PreOK Lz Pr w (frzBoxes l fr) ts F
  | [], fr, Pr, F, hF, hP => PreOK.same hF hP
  | .tmp s :: l, fr, Pr, F, hF, hP => (frzBox_sound hF hP s).trans fun Pr' F' h1 h2 => frzBoxes_sound l _ Pr' F' h1 h2
  | .const _ :: l, fr, Pr, F, hF, hP => frzBoxes_sound l fr Pr F hF hP
  | .global _ :: l, fr, Pr, F, hF, hP => frzBoxes_sound l fr Pr F hF hP
  | .func _ :: l, fr, Pr, F, hF, hP => frzBoxes_sound l fr Pr F hF hP
theorem frzMp_sound {ts : Array Value} (hF : RepF Lz Pr w fr ts F) (hP : PrOK Pr w) (s : Nat) : PreOK Lz Pr w (frzMp s fr) ts F := by
  unfold frzMp
  split
  · rename_i d k b es m hm
    obtain ⟨g1, g2⟩ := mpOf_sound hF hm
    have hr := hF.rep d
    rw [g1] at hr
    simp only [RepS] at hr
    obtain ⟨bl, es', ck, h1, hB, h2, h3, h4⟩ := hr
    have hbd : bl ∈ F d := by rw [hB]; exact List.mem_cons_self
    have hle : PrLe Pr (prExt Pr bl 0 [mapEnc es' ck]) := prExt_le fun o _ => h3 o
    have hval : RepA (prExt Pr bl 0 [mapEnc es' ck]) (.d (.mp k b es m)) (ts.getD d undef) := by
      obtain ⟨q1, q2, m', q3, q4, q5⟩ := h4.mono hle
      simp only [RepA, RepD, RepC]
      exact .inr ⟨bl, es', ck, h1, prExt_at (lo := 0) (j := 0) rfl, q1, q2, m', q3, q4, q5⟩
    have f1 : RepF Lz (prExt Pr bl 0 [mapEnc es' ck]) w ((d, .val (.d (.mp k b es m))) :: fr) ts (fun t => if t = d then [] else F t) :=
      hF.rebind hle (fun t ht b' hb' => ⟨rfl, fun o => prExt_other (fun e : b' = bl => hF.apart t d ht b' hb' (e ▸ hbd)) o⟩) (fun _ _ => rfl) (B := []) (by simp only [RepS]; exact ⟨hval, trivial⟩) List.nodup_nil (by simp) (by simp [SV.isUpd]) (by simp) (by simp) (by simp)
    refine ⟨_, _, f1.shadow (d := s) (x := .d (.mp k b es m)) (by rw [g2]; exact hval), ?_, hle, fun b' hb' o => prExt_other (fun e : b' = bl => hb' d (e ▸ hbd)) o, ?_⟩
    · intro b' o v hv'
      simp only [prExt] at hv'
      split at hv'
      · rename_i hq
        obtain ⟨rfl, _, hq⟩ := hq
        have : o = 0 := by simp at hq; omega
        subst this
        simp at hv'; subst hv'
        simp [cellX, h2]
      · exact hP b' o v hv'
    · intro t b' hb'
      by_cases e : t = s
      · simp [e] at hb'
      · simp only [if_neg e] at hb'
        by_cases e' : t = d
        · simp [e'] at hb'
        · simp only [if_neg e'] at hb'; exact hb'
  · split
    · rename_i d k es m hm
      obtain ⟨⟨nw, g1⟩, g2⟩ := mpaOf_sound hF hm
      have hr := hF.rep d
      rw [g1] at hr
      simp only [RepS] at hr
      obtain ⟨bl, es', ck, Bs, h1, hB, h2, h3, h4, h5, m', h6, h7, h8, h9⟩ := hr
      have hbd : bl ∈ F d := by rw [hB]; exact List.mem_cons_self
      have hle : PrLe Pr (prExt Pr bl 0 [mapEnc es' ck]) := prExt_le fun o _ => h3 o
      have hval : RepA (prExt Pr bl 0 [mapEnc es' ck]) (.d (.mp k false [.sl es] m)) (ts.getD d undef) := by
        simp only [RepA, RepD, RepC]
        refine .inr ⟨bl, es', ck, h1, prExt_at (lo := 0) (j := 0) rfl, h4, h5, m', h6, h7, fun i x hi => ?_⟩
        obtain ⟨en, Bi, q1, q2, q3⟩ := h9 i x hi
        exact ⟨en, q1, RepC.mono hle _ _ _ q3.rep.1, q3.rep.2.mono fun l hl => RowVals.mono hle _ _ l hl⟩
      have f1 : RepF Lz (prExt Pr bl 0 [mapEnc es' ck]) w ((d, .val (.d (.mp k false [.sl es] m))) :: fr) ts (fun t => if t = d then [] else F t) :=
        hF.rebind hle (fun t ht b' hb' => ⟨rfl, fun o => prExt_other (fun e : b' = bl => hF.apart t d ht b' hb' (e ▸ hbd)) o⟩) (fun _ _ => rfl) (B := []) (by simp only [RepS]; exact ⟨hval, trivial⟩) List.nodup_nil (by simp) (by simp [SV.isUpd]) (by simp) (by simp) (by simp)
      refine ⟨_, _, f1.shadow (d := s) (x := .d (.mp k false [.sl es] m)) (by rw [g2]; exact hval), ?_, hle, fun b' hb' o => prExt_other (fun e : b' = bl => hb' d (e ▸ hbd)) o, ?_⟩
      · intro b' o v hv'
        simp only [prExt] at hv'
        split at hv'
        · rename_i hq
          obtain ⟨rfl, _, hq⟩ := hq
          have : o = 0 := by simp at hq; omega
          subst this
          simp at hv'; subst hv'
          simp [cellX, h2]
        · exact hP b' o v hv'
      · intro t b' hb'
        by_cases e : t = s
        · simp [e] at hb'
        · simp only [if_neg e] at hb'
          by_cases e' : t = d
          · simp [e'] at hb'
          · simp only [if_neg e'] at hb'; exact hb'
    · exact PreOK.same hF hP
theorem frzList_sound {ts : Array Value} : ∀ (l : List Nat) (fr : Fr) (Pr : PM) (F : Nat → List Nat), RepF Lz Pr w fr ts F → PrOK Pr w → PreOK Lz Pr w (frzList l fr) ts F
  | [], fr, Pr, F, hF, hP => PreOK.same hF hP
  | s :: l, fr, Pr, F, hF, hP => (frzBox_sound hF hP s).trans fun Pr' F' h1 h2 => frzList_sound l _ Pr' F' h1 h2
theorem preF0_sound {ts : Array Value} (hF : RepF Lz Pr w fr ts F) (hP : PrOK Pr w) : PreOK Lz Pr w (preF0 o fr) ts F := by
  unfold preF0
  split
  · exact frzBoxes_sound _ _ _ _ hF hP
  · exact frzMp_sound hF hP _
  · exact PreOK.same hF hP
theorem preF_sound {ts : Array Value} {fz : List Nat} (hF : RepF Lz Pr w fr ts F) (hP : PrOK Pr w) : PreOK Lz Pr w (preF fz o fr) ts F :=
  (frzList_sound fz fr Pr F hF hP).trans fun _ _ h1 h2 => preF0_sound h1 h2

theorem isNilC_eq {y : Operand} (h : isNilC y = true) : y = .const (.slice none 0 0) := by
  unfold isNilC at h
  split at h
  · rfl
  · cases h
theorem op_nilEq {u : BinOp} {t t' : TypeId} {x y : Operand} (hC : Cx P T) (ho : o.op = .binOp u t x y t') (hev : evOp0 T E o fr K = some r) (hF : RepF Lz Pr w fr a.tmps F) (hP : PrOK Pr w) (hd : DOK o a) (hn : Nx Lz K r o.dst Pr w a F next) (hy0 : isNilC y = true) : o.wp P a w next Q := by
  simp only [evOp0, ho, hy0, cond_true] at hev
  replace hev := withT_some hev; obtain ⟨i, hi, hev⟩ := hev
  obtain ⟨tf⟩ := hC.facts hi
  cases isNilC_eq hy0
  unfold evNil at hev
  split at hev
  · rename_i es l hx
    replace hev := bif_some hev; obtain ⟨hfit, hev⟩ := hev
    rw [Bool.and_eq_true, Bool.not_eq_true'] at hfit
    obtain ⟨hs, hes⟩ := fitsV_sl hfit.2
    obtain ⟨ef⟩ := tf.slice hfit.1 (.inr ⟨es, hs⟩)
    have hxr := rdO_sound hF hx
    simp only [RepA, RepD, RepC] at hxr
    obtain ⟨p, len, cap, hv, rfl, hcap, hrow⟩ := hxr
    have hnz : l ≠ [] → p.isNone = false := fun h => by
      rcases hrow with q | ⟨b, off, rfl, _⟩
      · exact absurd q h
      · rfl
    have he := run_equal_slice_nil (P := P) (w := w) t ef.e p l.length cap ef.hd
    have hyn : a.eval (.const (.slice none 0 0)) = .slice none 0 0 := rfl
    have run1 : u = .eql → (execOp a.eval o).run P w = .ok (.value (.bool p.isNone)) w := fun hu => by
      subst hu
      simp [execOp, ho, hv, hyn, eqGuard, binOp, he]
    have run2 : u = .neq → (execOp a.eval o).run P w = .ok (.value (.bool (!p.isNone))) w := fun hu => by
      subst hu
      simp [execOp, ho, hv, hyn, eqGuard, binOp, he]
    have fin1 : ∀ b : Bool, K (dset o.dst (.val (.d (.bool b))) fr) = some r → next (a.put o.dst (.bool b)) w := fun b h => finV hF hP hd hn (x := .d (.bool b)) (by simp [RepA, RepD]) h
    split at hev
    · rcases brP_some hev with ⟨hl, hev⟩ | ⟨hl, hev⟩
      · refine wp_value (run1 rfl) (fin1 _ ?_)
        cases hp : p.isNone
        · exact anyN_some hev 1 (by decide)
        · exact anyN_some hev 0 (by decide)
      · exact wp_value (run1 rfl) (fin1 _ (by rw [hnz hl]; exact hev))
    · rcases brP_some hev with ⟨hl, hev⟩ | ⟨hl, hev⟩
      · refine wp_value (run2 rfl) (fin1 _ ?_)
        cases hp : p.isNone
        · exact anyN_some hev 0 (by decide)
        · exact anyN_some hev 1 (by decide)
      · exact wp_value (run2 rfl) (fin1 _ (by rw [hnz hl]; exact hev))
    · cases hev
  · cases hev
end
end Go.Proofs.Ytgcjhcefpkbheaa.Lg
end
