/- Part of a proof of the seat's statements: no statement by itself. -/
import Derived.Test.YtfafmpiajlgojaaDoorLgB12
import Derived.Laws.AppendOwn
import Derived.Laws.BytesArg
namespace Go.Proofs.YtfafmpiajlgojaaDoor.Lg
open Go
section
variable {R : Type} {P : Program} {T : Tab} {E : CallE} {o : Oper} {fr : Fr} {K : Fr → Option R} {r : R} {Pr : PM} {w : World} {a : Act} {F : Nat → List Nat}
  {next : Act → World → Prop} {Q : Exit → Act → World → Prop}

theorem RowsVals.mono' {Pr Pr' : PM} (h : PrLe Pr Pr') {es : List Sh} : ∀ (l : List (RowE es)) (vss : List (List Value)), RowsVals Pr es l vss → RowsVals Pr' es l vss
  | [], [], q => q
  | r :: l, vs :: vss, q => ⟨RowVals.mono h es r vs q.1, RowsVals.mono' h l vss q.2⟩
  | [], _ :: _, q => by simp [RowsVals] at q
  | _ :: _, [], q => by simp [RowsVals] at q

/-- A new row: its first cells are there for ever. -/
theorem finRow {es : List Sh} {l : List (RowE es)} {vss : List (List Value)} {c : Array Value} {e : TypeId} {cap : Nat} {n : Nat} {fr1 : Fr} {F1 : Nat → List Nat} (hF : RepF Pr w fr1 a.tmps F1) (hsub : ∀ t b, b ∈ F1 t → ∃ t', b ∈ F t') (hP : PrOK Pr w) (hd : DOK o a) (hn : Nx K r o.dst Pr w a F next)
    (hv : RowsVals Pr es l vss) (hc : ∀ (j : Nat) (v : Value), vss.flatten[j]? = some v → c[j]? = some v) (hcap : l.length ≤ cap) (hsz : cap * es.length ≤ c.size)
    (hK : K (dset o.dst (.app es l) fr1) = some r) :
    next (a.put o.dst (.slice (some ⟨w.heap.size, 0, none⟩) l.length cap)) { w with heap := w.heap.push (.cells c e), drawn := n } := by
  have hfl := RowsVals.length l vss hv
  have hnew : ∀ o, Pr w.heap.size o = none := fun o => hP.new o
  have hle : PrLe Pr (prExt Pr w.heap.size 0 vss.flatten) := prExt_le fun o _ => hnew o
  have hx0 : Ext (fun b => ∃ t, b ∈ F t) Pr w Pr { w with heap := w.heap.push (.cells c e), drawn := n } := (Ext.push _ Pr w _).drew n
  have hP1 : PrOK (prExt Pr w.heap.size 0 vss.flatten) { w with heap := w.heap.push (.cells c e), drawn := n } := by
    intro b o' v hv'
    simp only [prExt] at hv'
    split at hv'
    · rename_i hq
      obtain ⟨rfl, _, _⟩ := hq
      simp only [World.cell?, Array.getElem?_push_size]
      simp only [Option.isSome_none, Bool.false_eq_true, if_false]
      exact hc _ v (by simpa using hv')
    · exact hP.push (.cells c e) b o' v hv'
  have hk : ∀ t, Keeps (F1 t) Pr w (prExt Pr w.heap.size 0 vss.flatten) { w with heap := w.heap.push (.cells c e), drawn := n } := by
    intro t b hb
    have := hF.lt t b hb
    exact ⟨by simp only [Array.getElem?_push]; rw [if_neg (by omega)], fun o' => prExt_other (by omega) o'⟩
  have h1 : RepF (prExt Pr w.heap.size 0 vss.flatten) { w with heap := w.heap.push (.cells c e), drawn := n } fr1 a.tmps F1 := hF.mono hle hk
  have hx1 : Ext (fun b => ∃ t, b ∈ F t) Pr w (prExt Pr w.heap.size 0 vss.flatten) { w with heap := w.heap.push (.cells c e), drawn := n } :=
    hx0.pr hle fun b hb _ o' => prExt_other (by omega) o'
  refine fin hd hn h1 hP1 hx1 (fun t b hb => .inl (hsub t b hb)) (B := [w.heap.size]) ?_ (by simp) ?_ (by simp) rfl (by simp) (by simp) (by simp) hK
  · simp only [RepS]
    right
    refine ⟨w.heap.size, 0, cap, c, e, rfl, rfl, by simp, hcap, by omega, ?_, ?_⟩
    · exact vals_rows l vss 0 (RowsVals.mono' hle l vss hv) (fun j v hj => by simpa using prExt_at (lo := 0) hj)
    · intro o' ho'
      simp only [prExt]
      rw [if_neg (by omega)]
      exact hnew o'
  · intro t b hb q
    simp at hb; subst hb
    exact absurd (hF.lt t _ q) (by omega)

theorem op_buildSlice {t : TypeId} {n : Nat} {parts : Array (Nat × Operand)} (hC : Cx P T) (ho : o.op = .buildSlice t n parts) (hev : evOp T E o fr K = some r) (hF : RepF Pr w fr a.tmps F) (hP : PrOK Pr w) (hd : DOK o a) (hn : Nx K r o.dst Pr w a F next) : o.wp P a w next Q := by
  simp only [evOp, ho] at hev
  replace hev := withT_some hev; obtain ⟨i, hi, hev⟩ := hev
  obtain ⟨tf⟩ := hC.facts hi
  split at hev
  · rename_i l hrows
    replace hev := bif_some hev; obtain ⟨e1, hev⟩ := hev
    replace hev := bif_some hev; obtain ⟨e2, hev⟩ := hev
    replace hev := bif_some hev; obtain ⟨e3, hev⟩ := hev
    have e1 := Nat.eq_of_beq_eq_true e1
    have e2 := Nat.le_of_ble_eq_true e2
    have hne : i.es ≠ [] := by rintro q; simp [q] at e3
    have ha : i.agg = false := by
      cases h : i.agg
      · rfl
      · rw [h] at hev; cases hev
    rw [ha, cond_false] at hev
    obtain ⟨ef⟩ := tf.slice ha (.inl hne)
    have hpl : parts.toList.length = n := by
      rw [← e1]
      have : ∀ (ps : List (Nat × Operand)) (k : Nat) (m : List (RowE i.es)), rowsOf i.es fr k ps = some m → m.length = ps.length := by
        intro ps
        induction ps with
        | nil => intro k m hm; simp [rowsOf] at hm; subst hm; rfl
        | cons p ps ih =>
          intro k m hm
          obtain ⟨j, x⟩ := p
          simp only [rowsOf] at hm
          replace hm := bif_some hm; obtain ⟨_, hm⟩ := hm
          split at hm
          · rename_i r' l2 _ hr2
            simp at hm; subst hm
            simp [ih _ _ hr2]
          · cases hm
      exact (this _ _ _ hrows).symm
    have go : ∀ (c0 : Array Value), c0.size = n * i.es.length → (∀ cells, Instr.fill (fun j => some (j * i.es.length, i.es.length)) c0 (parts.toList.map fun x => (x.1, a.eval x.2)) = some cells →
        (execOp a.eval o).run P w = .ok (.value (.slice (some ⟨w.heap.size, 0, none⟩) n n)) { w with heap := w.heap.push (.cells cells ef.e) }) → o.wp P a w next Q := by
      intro c0 hc0 hrun
      obtain ⟨vss, cells', h1, h2, h3⟩ := rows_fill hF parts.toList 0 l c0 hrows (by rw [hpl, hc0]; simp)
      have hfl := RowsVals.length l vss h1
      have hfull : cells'.toList = vss.flatten := by
        rw [h3]; unfold spl; simp only [Nat.zero_mul, List.take_zero, List.nil_append, Nat.zero_add]
        rw [List.drop_eq_nil_of_le (by rw [hfl, e1]; simp [hc0])]; simp
      refine wp_value (hrun cells' h2) ?_
      have := finRow (c := cells') (e := ef.e) (cap := n) (n := w.drawn) hF (fun t b hb => ⟨t, hb⟩) hP hd hn h1 (fun j v hj => by rw [← Array.getElem?_toList, hfull]; exact hj) (by omega) (by
        have : cells'.size = l.length * i.es.length := by rw [← hfl, ← hfull]; simp
        rw [this, e1]; exact Nat.le_refl _) hev
      rw [e1] at this
      exact this
    by_cases hn0 : n = 0
    · subst hn0
      have hnil : parts.toList = [] := List.eq_nil_of_length_eq_zero hpl
      refine go #[] (by simp) fun cells hcells => ?_
      rw [hnil] at hcells
      simp [Instr.fill] at hcells; subst hcells
      have hp' : parts = #[] := by cases parts; simp at hnil; simp [hnil]
      have hr0 : Array.range 0 = #[] := rfl
      simp [execOp, ho, Instr.buildSlice, run_underlying ef.hd, ef.run_size, hp', Instr.fill, newRow, hr0]
    · refine go ((Array.range (n * i.es.length)).map (ef.z.cells[· % ef.z.cells.size]!)) (by simp) fun cells hcells => ?_
      have h24 : ¬ n * ef.f.size > 2 ^ 24 := by
        rw [ef.hs]
        have : (2 : Nat) ^ 24 = 16777216 := by decide
        omega
      have h0 : ¬ n * ef.f.size = 0 := by
        rw [ef.hs]
        have : i.es.length ≠ 0 := by simpa using hne
        exact Nat.mul_ne_zero hn0 this
      have := run_buildSlice (P := P) w t ef.e n (parts.map fun (x : Nat × Operand) => (x.1, a.eval x.2)) cells ef.f ef.z ef.hd ef.hf ef.hz h24 h0 (by rw [ef.hs]; simpa using hcells)
      simp only [execOp, ho]
      simp [this]
  · cases hev

theorem op_len {c : Call} (hC : Cx P T) (ho : o.op = .call c) (hc : c.callee = .builtin .len) (hev : evOp T E o fr K = some r) (hF : RepF Pr w fr a.tmps F) (hP : PrOK Pr w) (hd : DOK o a) (hn : Nx K r o.dst Pr w a F next) : o.wp P a w next Q := by
  simp only [evOp, ho, hc] at hev
  split at hev
  · rename_i x t hargs htys
    replace hev := withT_some hev; obtain ⟨i, hi, hev⟩ := hev
    obtain ⟨tf⟩ := hC.facts hi
    have hA : c.args = #[x] := by apply Array.toList_inj.1; simpa using hargs
    have hT : c.argTypes = #[t] := by apply Array.toList_inj.1; simpa using htys
    split at hev
    · rename_i v ha hx
      replace hev := bif_some hev; obtain ⟨hfit, hev⟩ := hev
      have hxr := rdO_sound hF hx
      split at hev
      · rename_i s
        simp only [RepA, RepD] at hxr
        refine wp_value (v := .int .i64 s.length) (w' := w) ?_ (finV hF hP hd hn (x := .d (.int .i64 s.length)) (by simp [RepA, RepD]) hev)
        simp [execOp, ho, resolve, hc, hA, hT, invoke, builtin, Builtin.len_, hxr, run_underlying (tf.str ha (fitsV_str hfit)), goInt, str_size]
      · rename_i es l
        obtain ⟨hsh, hes⟩ := fitsV_sl hfit
        obtain ⟨ef⟩ := tf.slice ha (.inr ⟨es, hsh⟩)
        simp only [RepA, RepD, RepC] at hxr
        obtain ⟨p, len, cap, hv, hlen, hc', hrow⟩ := hxr
        subst hlen
        refine wp_value (v := .int .i64 l.length) (w' := w) ?_ (finV hF hP hd hn (x := .d (.int .i64 l.length)) (by simp [RepA, RepD]) hev)
        simp [execOp, ho, resolve, hc, hA, hT, invoke, builtin, Builtin.len_, hv, run_underlying ef.hd, goInt]
      · cases hev
    · cases hev
  · cases hev

theorem bytes_fold : ∀ (ns : List Int) (b : ByteArray), ns.foldl (fun r n => r.push (UInt8.ofNat n.toNat)) b = ⟨b.data ++ (ns.map fun n => UInt8.ofNat n.toNat).toArray⟩
  | [], b => by simp
  | n :: ns, b => by
    rw [List.foldl_cons, bytes_fold ns]
    simp [ByteArray.push]

theorem op_convert {t u : TypeId} {x : Operand} (hC : Cx P T) (ho : o.op = .convert u t x) (hev : evOp T E o fr K = some r) (hF : RepF Pr w fr a.tmps F) (hP : PrOK Pr w) (hd : DOK o a) (hn : Nx K r o.dst Pr w a F next) : o.wp P a w next Q := by
  simp only [evOp, ho] at hev
  replace hev := withT_some hev; obtain ⟨i, hi, hev⟩ := hev
  replace hev := withT_some hev; obtain ⟨j, hj, hev⟩ := hev
  obtain ⟨tf⟩ := hC.facts hi
  obtain ⟨tj⟩ := hC.facts hj
  split at hev
  · rename_i k k0 k' n ha hs ha' hs' hx
    have hxr := rdO_sound hF hx
    simp only [RepA, RepD] at hxr
    refine wp_value (v := .int k (k.wrap n)) (w' := w) ?_ (finV hF hP hd hn (x := .d (.int k (k.wrap n))) (by simp [RepA, RepD]) hev)
    simp [execOp, ho, hxr, convert, run_underlying (tf.int ha hs), run_underlying (tj.int ha' hs'), Conv.intToInt]
  · rename_i s ha hs ha' hs' hx
    have hxr := rdO_sound hF hx
    simp only [RepA, RepD] at hxr
    refine wp_value (v := .string ⟨s.toArray⟩) (w' := w) ?_ (finV hF hP hd hn (x := .d (.str s)) (by simp [RepA, RepD]) hev)
    simp [execOp, ho, hxr, convert, run_underlying (tf.str ha hs), run_underlying (tj.str ha' hs')]
  · rename_i l ha hs ha' hs' hx
    have hxr := rdO_sound hF hx
    simp only [RepA, RepD, RepC] at hxr
    obtain ⟨p, len, cap, hv, hlen, hc, hrow⟩ := hxr
    subst hlen
    obtain ⟨ef⟩ := tj.slice ha' (.inr ⟨_, hs'⟩)
    have hes : j.es = [.int .u8] := by
      obtain ⟨d, f, z, hd', hf, hsz, hz, hzb, desc⟩ := tj
      cases d <;> simp only [descB, ha', hs', shB_iff, Bool.and_eq_true] at desc <;> try (simp at desc; done)
      simpa using desc.1.1.1.1.2.symm
    have hel := ef.el
    rw [hes] at hel
    have hue : P.underlying ef.e = some (.int .u8) := by
      cases hq : P.underlying ef.e with
      | none => simp [hq, elB] at hel
      | some d => cases d <;> simp [hq, elB] at hel; subst hel; rfl
    refine wp_value (v := .string ⟨(bytesStr l).toArray⟩) (w' := w) ?_ (finV hF hP hd hn (x := .d (.str (bytesStr l))) (by simp [RepA, RepD]) hev)
    have hconv : (Conv.bytesToString (.slice p l.length cap)).run P w = .ok (.string ⟨(bytesStr l).toArray⟩) w := by
      by_cases hl : l = []
      · subst hl
        cases p with
        | none => simp [Conv.bytesToString, bytesStr]; rfl
        | some ad =>
          have := run_bytesToString (P := P) w ad 0 cap [] (by simp [loadCells, loadCellsFrom])
          simp only [List.foldl_nil] at this
          exact this
      · replace hrow := hrow.resolve_left hl; obtain ⟨b, off, rfl, hrow⟩ := hrow
        have hload := run_loadCells_list (P := P) w ⟨b, off, none⟩ (l.map fun r => Value.int .u8 r.1) (fun q v hq => by
          rw [List.getElem?_map] at hq
          cases hlq : l[q]? with
          | none => simp [hlq] at hq
          | some x =>
            simp [hlq] at hq; subst hq
            have := hrow q x hlq
            simp only [RepRow, RepC] at this
            obtain ⟨⟨u, hu, rfl⟩, _⟩ := this
            rw [Addr.add_lit]
            exact hP _ _ _ (by simpa using hu))
        have := run_bytesToString (P := P) w ⟨b, off, none⟩ l.length cap (l.map fun r => r.1) (by simpa [Function.comp_def] using hload)
        rw [this, bytes_fold]
        congr 2
        simp [bytesStr, Function.comp_def]
    simp [execOp, ho, hv, convert, run_underlying (tf.str ha hs), run_underlying ef.hd, run_underlying hue, hconv]
  · cases hev
end
end Go.Proofs.YtfafmpiajlgojaaDoor.Lg
