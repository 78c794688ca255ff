/- slices.SortFunc of rows that are owned, by a function that tells the difference of two keys: by the shelf's contract. -/
import Derived.Test.YtgcjhcefpkbheaaLgF
import Derived.Shelf.SlSortCmp.NoneTotal
namespace Go.Proofs.Ytgcjhcefpkbheaa.Lg
open Go Go.Proofs Go.Sort Go.Shelf
/-- Behind a function that writes nothing that was there: some draws, and some new blocks. -/
theorem ext_grow {Pr Pr' : PM} {w w' : World} (h : Ext (fun _ => False) Pr w Pr' w') : ∃ q os, w' = Sort.grow (w.drewN q) os := by
  refine ⟨w'.drawn - w.drawn, w'.heap.extract w.heap.size w'.heap.size, ?_⟩
  have hh : w'.heap = w.heap ++ w'.heap.extract w.heap.size w'.heap.size := by
    apply Array.ext_getElem?
    intro i
    rw [Array.getElem?_append]
    have hs := h.size
    by_cases hi : i < w.heap.size
    · rw [if_pos hi]; exact (h.block i hi (fun q => q)).1
    · rw [if_neg hi, Array.getElem?_extract]
      by_cases hj : i < w'.heap.size
      · rw [if_pos (by omega)]; congr 1; omega
      · rw [if_neg (by omega)]; exact Array.getElem?_eq_none (by omega)
  have h1 := h.os; have h2 := h.tape; have h3 := h.output; have h4 := h.dr
  cases w; cases w'
  simp only [Sort.grow, World.drewN, World.mk.injEq] at *
  exact ⟨hh, h2, by omega, h1, h3⟩
section
variable {es : List Sh}
def srtK (key : RowE es → Int) (l : List (RowE es)) : List (RowE es) := l.mergeSort fun x y => decide (key x ≤ key y)
def SSortK (es : List Sh) (key : RowE es → Int) (ok : RowE es → Bool) (g2 : Nat) := mkO [true, false] [.own es, .f g2] fun ⟨(l : List (RowE es)), _⟩ => .chk (l.length < 4611686018427387904 ∧ (∀ r ∈ l, ok r = true) ∧ (l.map key).Nodup) (.leaf (.val (.tup []), [.own es (srtK key l)]))
theorem srtK_length (key : RowE es → Int) (l : List (RowE es)) : (srtK key l).length = l.length := by simp [srtK, List.length_mergeSort]
theorem nodup_key {α : Type} {key : α → Int} : ∀ {l : List α}, (l.map key).Nodup → ∀ a b, a ∈ l → b ∈ l → key a = key b → a = b
  | [], _, _, _, h, _, _ => by cases h
  | x :: l, hn, a, b, ha, hb, e => by
    simp only [List.map_cons, List.nodup_cons, List.mem_map, not_exists, not_and] at hn
    rcases List.mem_cons.1 ha with ha' | ha' <;> rcases List.mem_cons.1 hb with hb' | hb'
    · rw [ha', hb']
    · exact absurd (by rw [← e, ha']) (hn.1 _ hb')
    · exact absurd (by rw [e, hb']) (hn.1 _ ha')
    · exact nodup_key hn.2 a b ha' hb' e
theorem srtK_unique {key : RowE es → Int} {l l' : List (RowE es)} (hp : l'.Perm l) (hs : l'.Pairwise fun x y => key x ≤ key y) (hn : (l.map key).Nodup) : l' = srtK key l := by
  refine List.Perm.eq_of_pairwise (le := fun x y => key x ≤ key y) (fun a b ha hb h1 h2 => nodup_key hn a b (hp.mem_iff.1 ha) ((List.mergeSort_perm _ _).mem_iff.1 hb) (by omega)) hs ?_ (hp.trans (List.mergeSort_perm l _).symm)
  have := List.pairwise_mergeSort (le := fun x y : RowE es => decide (key x ≤ key y)) (fun a b c h1 h2 => by simp at h1 h2 ⊢; omega) (fun a b => by simp; omega) l
  unfold srtK
  exact this.imp fun h => by simpa using h
/-- A row, and the values that it is in cells. -/
structure RV (Pr : PM) (es : List Sh) (ok : RowE es → Bool) where
  r : RowE es
  vs : List Value
  rv : RowVals Pr es r vs
  ok : ok r = true
theorem rv_list {Pr : PM} {ok : RowE es → Bool} : ∀ (l : List (RowE es)) (vss : List (List Value)), RowsVals Pr es l vss → (∀ r ∈ l, ok r = true) → ∃ d : List (RV Pr es ok), d.map (fun x => x.r) = l ∧ d.map (fun x => x.vs) = vss
  | [], [], _, _ => ⟨[], rfl, rfl⟩
  | r :: l, vs :: vss, h, k => by
    simp only [RowsVals] at h
    obtain ⟨d, h1, h2⟩ := rv_list l vss h.2 (fun r hr => k r (List.mem_cons_of_mem _ hr))
    exact ⟨⟨r, vs, h.1, k r (by simp)⟩ :: d, by simp [h1], by simp [h2]⟩
  | [], _ :: _, h, _ => by simp [RowsVals] at h
  | _ :: _, [], h, _ => by simp [RowsVals] at h
theorem rv_rows {Pr : PM} {ok : RowE es → Bool} : ∀ (d : List (RV Pr es ok)), RowsVals Pr es (d.map fun x => x.r) (d.map fun x => x.vs)
  | [] => by simp [RowsVals]
  | x :: d => by simp only [List.map_cons, RowsVals]; exact ⟨x.rv, rv_rows d⟩
theorem rvflat_at {α : Type} (enc : α → List Value) (k : Nat) (hk : ∀ x, (enc x).length = k) : ∀ (d : List α) (t : Nat), t < d.length * k → ∃ x, d[t / k]? = some x ∧ (d.map enc).flatten[t]? = (enc x)[t % k]?
  | [], t, h => by simp at h
  | x :: d, t, h => by
    have k0 : 0 < k := by
      rcases Nat.eq_zero_or_pos k with q | q
      · subst q; simp at h
      · exact q
    by_cases ht : t < k
    · refine ⟨x, by rw [Nat.div_eq_of_lt ht]; rfl, ?_⟩
      rw [Nat.mod_eq_of_lt ht, List.map_cons, List.flatten_cons, List.getElem?_append_left (by rw [hk]; exact ht)]
    · obtain ⟨y, h1, h2⟩ := rvflat_at enc k hk d (t - k) (by simp only [List.length_cons, Nat.add_mul, Nat.one_mul] at h; omega)
      have e : t = (t - k) + k := by omega
      refine ⟨y, ?_, ?_⟩
      · rw [e, Nat.add_div_right _ k0]; simpa using h1
      · rw [List.map_cons, List.flatten_cons, List.getElem?_append_right (by rw [hk]; omega), hk, h2]
        congr 1
        conv => rhs; rw [e, Nat.add_mod_right]
theorem flatK_list {α : Type} [Inhabited α] (enc : α → List Value) (k : Nat) (hk : ∀ x, (enc x).length = k) (d : Array α) (t : Nat) (h : t < d.size * k) : (d.toList.map enc).flatten[t]? = some (flatK enc k d)[t]! := by
  obtain ⟨x, h1, h2⟩ := rvflat_at enc k hk d.toList t (by simpa using h)
  have k0 : 0 < k := by
    rcases Nat.eq_zero_or_pos k with q | q
    · subst q; simp at h
    · exact q
  rw [h2, get_flatK _ _ _ _ h]
  have hx : d[t / k]! = x := by
    rw [Array.getElem?_toList] at h1
    simp [getElem!_def, h1]
  rw [hx]
  have hm : t % k < (enc x).length := by rw [hk]; exact Nat.mod_lt _ k0
  simp [List.getElem?_eq_getElem hm]
theorem putK_heap (w : World) (n blk off : Nat) (F : Array Value) (os : Array Obj) (b : Nat) (hb : b < w.heap.size) :
    (Sort.grow (putRow id (Sort.ahead w n) blk off F) os).heap[b]? = if b = blk then (w.heap[b]?).map (onCells (putCells id off F)) else w.heap[b]? := by
  show ((w.heap.modify blk (onCells (putCells id off F))) ++ os)[b]? = _
  rw [Array.getElem?_append, if_pos (by simpa using hb), Array.getElem?_modify]
  by_cases e : b = blk
  · subst e; simp
  · rw [if_neg (fun q => e q.symm), if_neg e]
theorem ext_put {Pr : PM} {w : World} {blk off : Nat} (hsz : blk < w.heap.size) (n : Nat) (F : Array Value) (os : Array Obj) : Ext (fun k => k = blk) Pr w Pr (Sort.grow (putRow id (Sort.ahead w n) blk off F) os) :=
  ⟨rfl, rfl, rfl, by show _ ≤ ((w.heap.modify blk _) ++ os).size; simp, PrLe.refl _, fun k hk hn => ⟨by rw [putK_heap _ _ _ _ _ _ _ hk, if_neg hn], fun _ => rfl⟩, by show w.drawn ≤ w.drawn + n; omega⟩
theorem prOK_put {Pr : PM} {w : World} (hP : PrOK Pr w) {blk off : Nat} {c : Array Value} {T : TypeId} (hbl : w.heap[blk]? = some (.cells c T (0, 0))) (hsp : ∀ o, off ≤ o → Pr blk o = none) (n : Nat) (F : Array Value) (os : Array Obj) : PrOK Pr (Sort.grow (putRow id (Sort.ahead w n) blk off F) os) := by
  have hsz : blk < w.heap.size := (Array.getElem?_eq_some_iff.1 hbl).1
  have hblk : (Sort.grow (putRow id (Sort.ahead w n) blk off F) os).heap[blk]? = some (.cells (putCells id off F c) T (0, 0)) := by rw [putK_heap _ _ _ _ _ _ _ hsz, if_pos rfl, hbl]; rfl
  intro b' o v hv
  have h1 := hP b' o v hv
  have hlt : b' < w.heap.size := by
    cases hb' : w.heap[b']? with
    | none => simp [cellX, World.cell?, hb'] at h1
    | some x => exact (Array.getElem?_eq_some_iff.1 hb').1
  by_cases e : b' = blk
  · subst e
    have ho : o < off := by
      rcases Nat.lt_or_ge o off with q | q
      · exact q
      · rw [hsp o q] at hv; cases hv
    have hput : (putCells id off F c)[o]? = c[o]? := by
      unfold putCells
      rw [Array.getElem?_mapIdx]
      cases c[o]? with
      | none => rfl
      | some x => simp only [Option.map_some]; rw [if_neg (by omega)]
    rw [cellX_cells hblk, hput, ← cellX_cells hbl]; exact h1
  · have hheap : (Sort.grow (putRow id (Sort.ahead w n) blk off F) os).heap[b']? = w.heap[b']? := by rw [putK_heap _ _ _ _ _ _ _ hlt, if_neg e]
    simp only [cellX, World.cell?, hheap] at h1 ⊢; exact h1
theorem satO_sortK {P : Program} {ρ : Ren} (L : SlLaysF0.n6 P ρ) (aE : ∀ w, (isAgg (ρ.t 24)).run P w = .ok true w) (zE : ∀ w, (Go.sizeOf (ρ.t 24)).run P w = .ok es.length w) {key : RowE es → Int} {ok : RowE es → Bool} {g2 : Nat} {E2 : List AV → Tr SV} (hS : Sat P g2 E2)
    (hE2 : ∀ x y, ok x = true → ok y = true → (E2 [.agg (rowD es x), .agg (rowD es y)]).Out (.val (.d (.int .i64 (key x - key y))))) {g : Nat} (hg : ρ.f 6 = g) {fn : Func} (hf : P.funcs[g]? = some fn) (hname : (fn.name == "runtime.NumGoroutine") = false) (hb : fn.body.isNone = false) : SatO P g (SSortK es key ok g2) := by
  refine ⟨⟨fn, hf, hname, hb⟩, fun args sv outs h Lz Pr w vals Bs hJ hr hnd hrefl hP => ?_⟩
  obtain ⟨⟨(l : List (RowE es)), _⟩, rfl, ⟨hlen, hok, hkey⟩, ho⟩ := mkO_out h
  have ho := Out_leaf ho
  simp only [Prod.mk.injEq] at ho
  obtain ⟨rfl, rfl⟩ := ho
  match vals, Bs, hr with
  | [v, vf], [B, Bf], hr =>
    have hr0 : RepS Lz Pr w (.own es l) v B ∧ RepS Lz Pr w (.val (.fn g2 [])) vf Bf := by simpa [St.svs, SK.sv, RepSs] using hr
    clear hr
    obtain ⟨hr, hrf⟩ := hr0
    simp only [RepS, RepA] at hrf
    obtain ⟨⟨cb, rfl, hcb⟩, rfl⟩ := hrf
    have hcb : cb = #[] := by
      have : cb.toList = [] := by cases h : cb.toList with
        | nil => rfl
        | cons _ _ => rw [h] at hcb; simp [RepAs] at hcb
      simpa using this
    subst hcb
    simp only [RepS] at hr
    rcases hr with ⟨rfl, rfl, rfl⟩ | ⟨b, off, cap, c, T, vss, rfl, rfl, hbl, hcap, hfit, hspare, hrows, hcells⟩
    · have := AnyF.slices_SortFunc_none L none 0 (.func (.func g2) #[] #[]) w
      rw [hg] at this
      refine Calls.mono this fun e w' ⟨he, hw⟩ => ?_
      subst hw
      refine ⟨_, Pr, [], [[]], he, rfl, by simp [RepS, RepA, RepAs], ?_, hP, Ext.refl _ _ _, by simp, by simp⟩
      simp only [boxVals, RepSs, St.svs, SK.sv, RepS]
      exact ⟨.inl ⟨by trivial, by simp [srtK], by trivial⟩, trivial⟩
    · have hsz : b < w.heap.size := (Array.getElem?_eq_some_iff.1 hbl).1
      obtain ⟨dl, hd1, hd2⟩ := rv_list (ok := ok) l vss hrows hok
      rcases hl0 : dl with _ | ⟨x0, dl0⟩
      · subst hl0
        simp at hd1; subst hd1
        have := AnyF.slices_SortFunc_none L (some ⟨b, off, none⟩) cap (.func (.func g2) #[] #[]) w
        rw [hg] at this
        refine Calls.mono this fun e w' ⟨he, hw⟩ => ?_
        subst hw
        refine ⟨_, Pr, [], [[b]], he, rfl, by simp [RepS, RepA, RepAs], ?_, hP, Ext.refl _ _ _, by simp, by simp⟩
        simp only [boxVals, RepSs, St.svs, SK.sv, RepS, and_true]
        refine .inr ⟨b, off, cap, c, T, vss, by simp [srtK], rfl, hbl, by simp [srtK], hfit, hspare, by simpa [srtK] using hrows, hcells⟩
      · letI : Inhabited (RV Pr es ok) := ⟨x0⟩
        rw [← hl0] at *
        have hk : ∀ x : RV Pr es ok, x.vs.length = es.length := fun x => RowVals.length es _ _ x.rv
        have hdl : dl.length = l.length := by rw [← hd1]; simp
        have hF : ∀ t, t < dl.toArray.size * es.length → c[off + t]? = some (flatK (RV.vs (Pr := Pr) (ok := ok)) es.length dl.toArray)[t]! := fun t ht => hcells t _ (by
          rw [← hd2]; exact flatK_list _ _ hk dl.toArray t ht)
        have hH : HoldsK (RV.vs (Pr := Pr) (ok := ok)) es.length w b off dl.toArray := by
          intro j hj
          rw [size_flatK] at hj
          refine ⟨?_, ?_⟩
          · rw [cell_cells hbl, hF j hj]; rfl
          · simp [World.frozen?, hbl]
        have hO : SWO (ltOf fun x y : RV Pr es ok => key x.r - key y.r) := ⟨fun x => by simp [ltOf], fun x y z h1 h2 => by simp [ltOf] at *; omega, fun x y z h1 h2 => by simp [ltOf] at *; omega⟩
        have eg : ∀ args w, (callFunc g2 args).run P w = .ok (.enter g2 args) w := by
          intro args w
          obtain ⟨fn, f1, f2, f3⟩ := hS.fn
          have f2' : ¬ fn.name = "runtime.NumGoroutine" := by simpa using f2
          have f3' : ¬ fn.body = none := by intro q; simp [q] at f3
          simp [callFunc, f1, f2', f3']
        have hcmp : CmpLays P g2 #[] (RV.vs (Pr := Pr) (ok := ok)) es.length (fun x y => key x.r - key y.r) b off dl.toArray.size w := by
          intro m os dk hdk x y
          have := hS.calls _ _ (hE2 x.r y.r x.ok y.ok) Pr (sortWorldK (RV.vs (Pr := Pr) (ok := ok)) es.length w b off m dk os) [.agg x.vs.toArray, .agg y.vs.toArray] (hJ.jw.ext (ext_put (Pr := Pr) hsz m _ os) fun i hi q => hJ.jt i hi 0 (by simp [q])) (by
            simp only [RepAs, RepA]
            exact ⟨⟨_, rfl, RowVals.ds es x.r x.vs x.rv⟩, ⟨_, rfl, RowVals.ds es y.r y.vs y.rv⟩, trivial⟩) (prOK_put hP hbl hspare _ _ _)
          rw [show (#[Value.agg x.vs.toArray, Value.agg y.vs.toArray] ++ #[] : Array Value) = [Value.agg x.vs.toArray, Value.agg y.vs.toArray].toArray from by simp]
          refine Calls.mono this fun e w' h => ?_
          obtain ⟨v2, Pr2, B2, he2, _, hr2, _, hx2, _⟩ := h
          simp only [RepS, RepA, RepD] at hr2
          exact ⟨by rw [he2, hr2.1], ext_grow hx2⟩
        have key' := AnyQ.slices_SortFunc L es.length aE zE (RV.vs (Pr := Pr) (ok := ok)) hk (fun x => RowVals.one es _ _ x.rv) (fun x y => key x.r - key y.r) hO g2 #[] b off cap dl.toArray w eg hcmp hH hsz (by simp; omega)
        rw [hg] at key'
        rw [show (dl.toArray.size : Nat) = l.length from by simpa using hdl] at key'
        refine Calls.mono key' fun e w' ⟨he, d', n, os, hperm, hsort, hw⟩ => ?_
        subst hw
        obtain ⟨hds, _, hpm⟩ := hperm
        have hds' : d'.size = l.length := by rw [hds]; simpa using hdl
        have hpm : d'.toList.Perm dl := by
          have e1 : d'.extract 0 dl.toArray.size = d' := by rw [← hds]; simp
          have e2 : dl.toArray.extract 0 dl.toArray.size = dl.toArray := by simp
          rw [show l.length = dl.toArray.size from by simpa using hdl.symm, e1, e2] at hpm
          simpa using hpm
        have hs : d'.toList.map RV.r = srtK key l := by
          refine srtK_unique (by rw [← hd1]; exact hpm.map _) ?_ hkey
          rw [List.pairwise_iff_getElem]
          intro i j hi hj hij
          have hi' : i < d'.size := by simpa using hi
          have hj' : j < d'.size := by simpa using hj
          have := hsort i j (Nat.zero_le _) hij (by omega)
          simp only [ltOf, decide_eq_false_iff_not] at this
          rw [getElem!_pos d' i hi', getElem!_pos d' j hj'] at this
          simp only [List.getElem_map, Array.getElem_toList]
          omega
        generalize hFd : flatK (RV.vs (Pr := Pr) (ok := ok)) es.length d' = F
        have hFs : F.size = l.length * es.length := by rw [← hFd, size_flatK, hds']
        unfold sortWorldK putRowK
        rw [hFd]
        have hheap : ∀ k, k < w.heap.size → k ≠ b → (Sort.grow (putRow id (Sort.ahead w n) b off F) os).heap[k]? = w.heap[k]? := fun k hk hne => by rw [putK_heap _ _ _ _ _ _ _ hk, if_neg hne]
        have hblk : (Sort.grow (putRow id (Sort.ahead w n) b off F) os).heap[b]? = some (.cells (putCells id off F c) T (0, 0)) := by rw [putK_heap _ _ _ _ _ _ _ hsz, if_pos rfl, hbl]; rfl
        have hsize : w.heap.size ≤ (Sort.grow (putRow id (Sort.ahead w n) b off F) os).heap.size := by
          show _ ≤ ((w.heap.modify b _) ++ os).size
          simp
        refine ⟨_, Pr, [], [[b]], he, rfl, by simp [RepS, RepA, RepAs], ?_, prOK_put hP hbl hspare n F os, ⟨rfl, rfl, rfl, hsize, PrLe.refl _, fun k hk hn => ⟨hheap k hk (fun e => hn (by simp [e])), fun _ => rfl⟩, by show w.drawn ≤ w.drawn + n; omega⟩, by simp, by simp⟩
        simp only [boxVals, RepSs, St.svs, SK.sv, RepS, and_true]
        refine .inr ⟨b, off, cap, putCells id off F c, T, d'.toList.map RV.vs, by rw [srtK_length], rfl, hblk, by rw [srtK_length]; exact hcap, by simpa [putCells] using hfit, hspare, by rw [← hs]; exact rv_rows d'.toList, ?_⟩
        intro j x hj
        have hjl : j < l.length * es.length := by
          have h1 := (List.getElem?_eq_some_iff.1 hj).1
          have h2 := RowsVals.length _ _ (rv_rows d'.toList)
          rw [h2] at h1
          simpa [hds'] using h1
        have hj2 := flatK_list (RV.vs (Pr := Pr) (ok := ok)) es.length hk d' j (by rw [hds']; exact hjl)
        rw [hj, hFd] at hj2
        simp only [Option.some.injEq] at hj2
        unfold putCells
        have hcj := hF j (by simpa [hdl] using hjl)
        rw [Array.getElem?_mapIdx, hcj]
        simp only [Option.map_some, Option.some.injEq, id]
        rw [if_pos (by rw [hFs]; omega), Nat.add_sub_cancel_left, ← hj2]
  | [], _, hr => simp [St.svs, RepSs] at hr
  | [_], [], hr => simp [St.svs, RepSs] at hr
  | [_], [_], hr => simp [St.svs, RepSs] at hr
  | [_], _ :: _ :: _, hr => simp [St.svs, RepSs] at hr
  | _ :: _ :: _ :: _, [], hr => simp [St.svs, RepSs] at hr
  | _ :: _ :: _ :: _, [_], hr => simp [St.svs, RepSs] at hr
  | _ :: _ :: _ :: _, [_, _], hr => simp [St.svs, RepSs] at hr
  | _ :: _ :: _ :: _, _ :: _ :: _ :: _, hr => simp [St.svs, RepSs] at hr
  | [_, _], [], hr => simp [St.svs, RepSs] at hr
  | [_, _], [_], hr => simp [St.svs, RepSs] at hr
  | [_, _], _ :: _ :: _ :: _, hr => simp [St.svs, RepSs] at hr
end
end Go.Proofs.Ytgcjhcefpkbheaa.Lg
