/- Part of a proof of the seat's statements: no statement by itself. -/
import Derived.Test.YtfafmpiajlgojaaDoorLgB11
namespace Go.Proofs.YtfafmpiajlgojaaDoor.Lg
open Go
section
variable {R : Type} {P : Program} {T : Tab} {E : CallE} {o : Oper} {fr : Fr} {K : Fr → Option R} {r : R} {Pr : PM} {w : World} {a : Act} {F : Nat → List Nat}
  {next : Act → World → Prop} {Q : Exit → Act → World → Prop}

theorem foldl_splice : ∀ (us : List Value) (off k : Nat) (cells : Array Value), off + k + us.length ≤ cells.size →
    ((us.zipIdx k).foldl (fun cs (x : Value × Nat) => cs.setIfInBounds (off + x.2) x.1) cells).toList = cells.toList.take (off + k) ++ us ++ cells.toList.drop (off + k + us.length)
  | [], off, k, cells, _ => by simp
  | u :: us, off, k, cells, h => by
    simp only [List.zipIdx_cons, List.foldl_cons]
    rw [foldl_splice us off (k + 1) (cells.setIfInBounds (off + k) u) (by simp at h ⊢; omega)]
    have hlt : off + k < cells.toList.length := by simp at h ⊢; omega
    have e1 : (cells.setIfInBounds (off + k) u).toList = cells.toList.set (off + k) u := by simp
    rw [e1]
    have e2 : (cells.toList.set (off + k) u).take (off + (k + 1)) = cells.toList.take (off + k) ++ [u] := by
      rw [show off + (k + 1) = (off + k) + 1 by omega, List.take_succ_eq_append_getElem (by simpa using hlt), List.take_set_of_le (Nat.le_refl _)]
      simp
    have e3 : (cells.toList.set (off + k) u).drop (off + (k + 1) + us.length) = cells.toList.drop (off + k + (us.length + 1)) := by
      rw [List.drop_set_of_lt (by omega), show off + (k + 1) + us.length = off + k + (us.length + 1) by omega]
    rw [e2, e3]
    simp

def spl {α : Type} (o : Nat) (us cs : List α) : List α := cs.take o ++ us ++ cs.drop (o + us.length)

theorem fill_cons {place : Nat → Option (Nat × Nat)} {cells : Array Value} {i off size : Nat} {v : Value} {rest : List (Nat × Value)} (hp : place i = some (off, size)) (hs : v.cells.size = size) (hf : off + size ≤ cells.size) :
    ∃ cells' : Array Value, cells'.toList = spl off v.cells.toList cells.toList ∧ Instr.fill place cells ((i, v) :: rest) = Instr.fill place cells' rest := by
  refine ⟨v.cells.zipIdx.foldl (fun cs x => cs.setIfInBounds (off + x.2) x.1) cells, ?_, ?_⟩
  · rw [← Array.foldl_toList, Array.toList_zipIdx]
    have := foldl_splice v.cells.toList off 0 cells (by simp; omega)
    simpa [spl] using this
  · simp only [Instr.fill, hp]
    rw [if_neg (by simp [hs]; omega)]

theorem spl_spl {α : Type} (o : Nat) (A B cs : List α) (h : o + A.length + B.length ≤ cs.length) : spl (o + A.length) B (spl o A cs) = spl o (A ++ B) cs := by
  unfold spl
  have h1 : (List.take o cs ++ A).length = o + A.length := by simp; omega
  have e1 : (List.take o cs ++ A ++ List.drop (o + A.length) cs).take (o + A.length) = List.take o cs ++ A := List.take_left' h1
  have e2 : (List.take o cs ++ A ++ List.drop (o + A.length) cs).drop (o + A.length + B.length) = List.drop (o + (A ++ B).length) cs := by
    rw [← List.drop_drop, List.drop_left' h1, List.drop_drop]
    congr 1; simp; omega
  rw [e1, e2]
  simp

theorem setD_nil : ∀ (o : Nat) (cs : List D), setD o [] cs = cs
  | 0, [] => rfl
  | 0, _ :: _ => rfl
  | _ + 1, [] => rfl
  | _ + 1, _ :: _ => rfl
theorem setD_spl : ∀ (o : Nat) (ds cs : List D), o + ds.length ≤ cs.length → setD o ds cs = spl o ds cs
  | o, [], cs, _ => by simp [setD_nil, spl]
  | 0, x :: xs, [], h => by simp at h
  | o + 1, x :: xs, [], h => by simp at h
  | 0, x :: xs, c :: cs, h => by
    simp only [setD]
    rw [setD_spl 0 xs cs (by simp at h ⊢; omega)]
    simp [spl, Nat.add_comm]
  | o + 1, x :: xs, c :: cs, h => by
    simp only [setD]
    rw [setD_spl o (x :: xs) cs (by simp at h ⊢; omega)]
    unfold spl
    rw [show o + 1 + (x :: xs).length = (o + (x :: xs).length) + 1 by omega]
    simp
theorem RepDs.append : ∀ (cs : List D) (vs : List Value) (ds : List D) (us : List Value), RepDs Pr cs vs → RepDs Pr ds us → RepDs Pr (cs ++ ds) (vs ++ us)
  | [], [], _, _, _, k => k
  | c :: cs, v :: vs, ds, us, h, k => ⟨h.1, RepDs.append cs vs ds us h.2 k⟩
  | [], _ :: _, _, _, h, _ => by simp [RepDs] at h
  | _ :: _, [], _, _, h, _ => by simp [RepDs] at h
theorem RepDs.spl {cs ds : List D} {vs us : List Value} (o : Nat) (h : RepDs Pr cs vs) (k : RepDs Pr ds us) : RepDs Pr (Lg.spl o ds cs) (Lg.spl o us vs) := by
  unfold Lg.spl
  rw [RepDs.length _ _ k]
  exact RepDs.append _ _ _ _ (RepDs.append _ _ _ _ (h.take o) k) (h.drop _)

theorem fill_sound (hF : RepF Pr w fr a.tmps F) {flds : List (Nat × Nat)} {place : Nat → Option (Nat × Nat)} (hp : ∀ i, flds[i]? ≠ none → place i = flds[i]?) : ∀ (parts : List (Nat × Operand)) (cs cs' : List D) (cells : Array Value),
    fillD flds fr parts cs = some cs' → RepDs Pr cs cells.toList → ∃ cells', Instr.fill place cells (parts.map fun x => (x.1, a.eval x.2)) = some cells' ∧ RepDs Pr cs' cells'.toList
  | [], cs, cs', cells, h, hr => by simp [fillD] at h; subst h; exact ⟨cells, rfl, hr⟩
  | (i, x) :: rest, cs, cs', cells, h, hr => by
    simp only [fillD] at h
    split at h
    · rename_i off n ds hfl hds
      replace h := bif_some h; obtain ⟨e1, h⟩ := h
      replace h := bif_some h; obtain ⟨e2, h⟩ := h
      have e1 := Nat.eq_of_beq_eq_true e1
      have e2 := Nat.le_of_ble_eq_true e2
      obtain ⟨v, hv, hds⟩ := Option.bind_eq_some_iff.1 hds
      have hcl := (rdO_sound hF hv).cells hds
      have h1 := RepDs.length _ _ hcl
      have h2 := RepDs.length _ _ hr
      obtain ⟨cells', hc1, hc2⟩ := fill_cons (place := place) (cells := cells) (i := i) (off := off) (size := n) (v := a.eval x) (rest := rest.map fun x => (x.1, a.eval x.2)) (by rw [hp i (by simp [hfl]), hfl]) (by simp at h1; omega) (by simp at h2; omega)
      rw [List.map_cons, hc2]
      rw [setD_spl off ds cs (by omega)] at h
      exact fill_sound hF hp rest _ cs' cells' h (by rw [hc1]; exact hr.spl off hcl)
    · cases h

theorem zerosD_rep : ∀ (es : List Sh) (vs : List Value), zerosB es vs = true → RepDs Pr (es.map zeroD) vs
  | [], [], _ => trivial
  | e :: es, v :: vs, h => by
    simp only [zerosB, Bool.and_eq_true] at h
    refine ⟨?_, zerosD_rep es vs h.2⟩
    have h1 := h.1
    cases e with
    | int k => cases v <;> simp [zeroB] at h1; obtain ⟨rfl, rfl⟩ := h1; simp [RepD, zeroD, toD, CE.dflt]
    | bool => cases v <;> simp [zeroB] at h1; subst h1; simp [RepD, zeroD, toD, CE.dflt]
    | str => cases v <;> simp [zeroB] at h1; subst h1; simp only [RepD, zeroD, toD, CE.dflt]; rfl
    | sl es' =>
      unfold zeroB at h1
      split at h1 <;> simp_all
      simp only [RepD, zeroD, toD, CE.dflt, RepC]
      exact ⟨none, 0, 0, rfl, rfl, Nat.le_refl _, by simp⟩
  | [], _ :: _, h => by simp [zerosB] at h
  | _ :: _, [], h => by simp [zerosB] at h

theorem places_of : ∀ (fs : List Field) (l : List (Nat × Nat)) (ts : List Nat), fldsB P fs l ts = true → fs.mapM (fun f => (P.info? f.type).map fun i => (f.offset, i.size)) = some l
  | [], [], [], _ => by simp
  | f :: fs, (o', n') :: l, t :: ts, h => by
    simp only [fldsB, Bool.and_eq_true, beq_iff_eq, Bool.not_eq_true', beq_eq_false_iff_ne] at h
    obtain ⟨⟨⟨⟨h1, h2⟩, h3⟩, h4⟩, h5⟩ := h
    cases hi : P.info? f.type with
    | none => simp [hi] at h3
    | some g =>
      simp [hi] at h3
      simp [List.mapM_cons, hi, places_of fs l ts h5, h1, h3]
  | [], (_, _) :: _, _, h => by simp [fldsB] at h
  | [], [], _ :: _, h => by simp [fldsB] at h
  | _ :: _, [], _, h => by simp [fldsB] at h
  | _ :: _, (_, _) :: _, [], h => by simp [fldsB] at h

theorem op_build {t : TypeId} {parts : Array (Nat × Operand)} (hC : Cx P T) (ho : o.op = .build t parts) (hev : evOp T E o fr K = some r) (hF : RepF Pr w fr a.tmps F) (hP : PrOK Pr w) (hd : DOK o a) (hn : Nx K r o.dst Pr w a F next) : o.wp P a w next Q := by
  simp only [evOp, ho] at hev
  replace hev := withT_some hev; obtain ⟨i, hi, hev⟩ := hev
  obtain ⟨tf⟩ := hC.facts hi
  have fin' : ∀ {cs : List D} {cells : Array Value}, P.built t (parts.toList.map fun x => (x.1, a.eval x.2)) = some cells → RepDs Pr cs cells.toList → K (dset o.dst (.val (.agg cs)) fr) = some r → o.wp P a w next Q := by
    intro cs cells h1 h2 h3
    refine wp_value (v := .agg cells) (w' := w) ?_ (finV hF hP hd hn (x := .agg cs) (by simp only [RepA]; exact ⟨_, rfl, h2⟩) h3)
    have hb := run_build (P := P) w t (parts.map fun (x : Nat × Operand) => (x.1, a.eval x.2)) cells (by simpa using h1)
    simp only [execOp, ho]
    simp [hb]
  split at hev
  · rename_i ha harr
    split at hev
    · rename_i cs hfill
      obtain ⟨d, f, z, hd', hf, hs, hz, hzb, desc⟩ := tf
      cases d <;> simp only [descB, ha, harr, Bool.and_eq_true, Option.isNone_none] at desc <;> try (simp at desc; done)
      case struct fs =>
        have hpl := places_of (P := P) _ _ _ desc.2
        obtain ⟨cells', h1, h2⟩ := fill_sound (place := (i.flds.toArray[·]?)) hF (fun j hj => by simp) parts.toList _ cs z.cells hfill (zerosD_rep _ _ hzb)
        refine fin' (cells := cells') ?_ h2 hev
        simp only [Program.built, hf, hd', hz, hpl]
        exact h1
      all_goals (split at desc <;> simp at desc)
    · cases hev
  · rename_i n m ha harr
    split at hev
    · rename_i cs hfill
      obtain ⟨e, g, hu, hg, hgs, hm, _⟩ := tf.array harr
      obtain ⟨cells', h1, h2⟩ := fill_sound (place := fun i => some (i * g.size, g.size)) hF (fun j hj => by
        have : j < n := by
          rcases Nat.lt_or_ge j n with h | h
          · exact h
          · exact absurd (List.getElem?_eq_none (by simpa using h)) hj
        simp [this, hgs]) parts.toList _ cs tf.z.cells hfill (zerosD_rep _ _ tf.hzb)
      refine fin' (cells := cells') ?_ h2 hev
      simp only [Program.built, tf.hf, hu, tf.hz, hg]
      exact h1
    · cases hev
  · cases hev

theorem rows_fill (hF : RepF Pr w fr a.tmps F) {es : List Sh} : ∀ (parts : List (Nat × Operand)) (k : Nat) (l : List (RowE es)) (cells : Array Value), rowsOf es fr k parts = some l → (k + parts.length) * es.length ≤ cells.size →
    ∃ vss cells', RowsVals Pr es l vss ∧ Instr.fill (fun i => some (i * es.length, es.length)) cells (parts.map fun x => (x.1, a.eval x.2)) = some cells' ∧ cells'.toList = spl (k * es.length) vss.flatten cells.toList
  | [], k, l, cells, h, _ => by simp [rowsOf] at h; subst h; exact ⟨[], cells, trivial, rfl, by simp [spl]⟩
  | (j, x) :: rest, k, l, cells, h, hl => by
    simp only [rowsOf] at h
    replace h := bif_some h; obtain ⟨e1, h⟩ := h
    have e1 := Nat.eq_of_beq_eq_true e1
    subst e1
    split at h
    · rename_i row l' hrow hrest
      simp at h; subst h
      obtain ⟨ds, hds, hof⟩ := Option.bind_eq_some_iff.1 hrow
      obtain ⟨v, hv, hds⟩ := Option.bind_eq_some_iff.1 hds
      have hcl := (rdO_sound hF hv).cells hds
      have hrv := ofDs_vals es ds row _ hof hcl
      have hrl := RowVals.length es row _ hrv
      obtain ⟨c1, hc1, hc2⟩ := fill_cons (place := fun i => some (i * es.length, es.length)) (cells := cells) (i := k) (off := k * es.length) (size := es.length) (v := a.eval x) (rest := rest.map fun x => (x.1, a.eval x.2)) rfl (by simpa using hrl) (by simp only [List.length_cons, Nat.add_mul] at hl ⊢; omega)
      have hsz : c1.size = cells.size := by
        have := congrArg List.length hc1
        simp only [spl, List.length_append, List.length_take, List.length_drop, Array.length_toList, hrl] at this
        simp only [List.length_cons, Nat.add_mul] at hl
        have : (a.eval x).cells.size = es.length := by simpa using hrl
        omega
      obtain ⟨vss, c2, h1, h2, h3⟩ := rows_fill hF rest (k + 1) l' c1 hrest (by rw [hsz]; simp only [List.length_cons] at hl; rw [show k + 1 + rest.length = k + (rest.length + 1) by omega]; exact hl)
      refine ⟨(a.eval x).cells.toList :: vss, c2, ⟨hrv, h1⟩, by rw [List.map_cons, hc2, h2], ?_⟩
      have hfl := RowsVals.length l' vss h1
      have hll : l'.length = rest.length := by
        have : ∀ (ps : List (Nat × Operand)) (k : Nat) (m : List (RowE es)), rowsOf es fr k ps = some m → m.length = ps.length := by
          intro ps
          induction ps with
          | nil => intro k m hm; simp [rowsOf] at hm; subst hm; rfl
          | cons p ps ih =>
            intro k m hm
            obtain ⟨j, x⟩ := p
            simp only [rowsOf] at hm
            replace hm := bif_some hm; obtain ⟨_, hm⟩ := hm
            split at hm
            · rename_i r' l2 _ hr2
              simp at hm; subst hm
              simp [ih _ _ hr2]
            · cases hm
        exact this _ _ _ hrest
      rw [h3, hc1]
      have := spl_spl (k * es.length) (a.eval x).cells.toList vss.flatten cells.toList (by
        rw [hrl, hfl, hll]
        simp only [List.length_cons, Nat.add_mul, Nat.one_mul, Array.length_toList] at hl ⊢
        omega)
      rw [hrl] at this
      rw [Nat.succ_mul, this, List.flatten_cons]
    · cases h
end
end Go.Proofs.YtfafmpiajlgojaaDoor.Lg
