/- slices.Sort of texts that are owned, by the shelf's contract. -/
import Derived.Test.YtfpojhphmgnfhaaLgF
import Derived.Shelf.Sort.Plain
import Derived.Shelf.Slices.In.SortNone
namespace Go.Proofs.Ytfpojhphmgnfhaa.Lg
open Go Go.Proofs Go.Sort Go.Shelf
def srtS (l : List (RowE [.str])) : List (RowE [.str]) := ((l.map fun r => (r.1 : List UInt8)).mergeSort fun x y => decide (x ≤ y)).map fun s => (s, ())
def SSortS := mkO [true] [.own [.str]] fun ⟨(l : List (RowE [.str])), _⟩ => .chk (l.length < 4611686018427387904) (.leaf (.val (.tup []), [.own [.str] (srtS l)]))
theorem srtS_length (l : List (RowE [.str])) : (srtS l).length = l.length := by simp [srtS, List.length_mergeSort]
theorem put_heap (enc : List UInt8 → Value) (w : World) (n blk off : Nat) (d : Array (List UInt8)) (os : Array Obj) (b : Nat) (hb : b < w.heap.size) :
    (Sort.grow (putRow enc (Sort.ahead w n) blk off d) os).heap[b]? = if b = blk then (w.heap[b]?).map (onCells (putCells enc off d)) else w.heap[b]? := by
  show ((w.heap.modify blk (onCells (putCells enc off d))) ++ os)[b]? = _
  rw [Array.getElem?_append, if_pos (by simpa using hb), Array.getElem?_modify]
  by_cases e : b = blk
  · subst e; simp
  · rw [if_neg (fun q => e q.symm), if_neg e]
theorem strs_vals {Pr : PM} : ∀ (l : List (RowE [.str])) (vss : List (List Value)), RowsVals Pr [.str] l vss → vss.flatten = l.map fun r => (Value.string ⟨(r.1 : List UInt8).toArray⟩)
  | [], [], _ => rfl
  | r :: l, vs :: vss, h => by
    simp only [RowsVals] at h
    obtain ⟨h1, h2⟩ := h
    match vs, h1 with
    | [v], h1 =>
      simp only [RowVals, RepC, and_true] at h1
      subst h1
      simp [strs_vals l vss h2]
    | [], h1 => simp [RowVals] at h1
    | _ :: _ :: _, h1 => simp [RowVals] at h1
  | [], _ :: _, h => by simp [RowsVals] at h
  | _ :: _, [], h => by simp [RowsVals] at h
theorem strs_rows {Pr : PM} : ∀ (l : List (RowE [.str])), RowsVals Pr [.str] l (l.map fun r => [Value.string ⟨(r.1 : List UInt8).toArray⟩])
  | [] => by simp [RowsVals]
  | r :: l => by simp only [List.map_cons, RowsVals]; exact ⟨by simp [RowVals, RepC], strs_rows l⟩
theorem flat_strs : ∀ d : List (List UInt8), ((d.map fun s => ((s, ()) : RowE [.str])).map fun r => [Value.string ⟨(r.1 : List UInt8).toArray⟩]).flatten = d.map fun s => Value.string ⟨s.toArray⟩
  | [] => rfl
  | s :: d => by simp only [List.map_cons, List.flatten_cons, flat_strs d]; rfl
theorem satO_sortS {P : Program} {ρ : Ren} (L : Lays.n190 P ρ) {g : Nat} (hg : ρ.f 190 = g) {fn : Func} (hf : P.funcs[g]? = some fn) (hname : (fn.name == "runtime.NumGoroutine") = false) (hb : fn.body.isNone = false) : SatO P g SSortS := by
  refine ⟨⟨fn, hf, hname, hb⟩, fun args sv outs h Pr w vals Bs hJ hJB hr hnd hrefl hP => ?_⟩
  obtain ⟨⟨(l : List (RowE [.str])), _⟩, rfl, hlen, ho⟩ := mkO_out h
  have ho := Out_leaf ho
  simp only [Prod.mk.injEq] at ho
  obtain ⟨rfl, rfl⟩ := ho
  match vals, Bs, hr with
  | [v], [B], hr =>
    have hr : RepS Pr w (.own [.str] l) v B := by simpa [St.svs, SK.sv, RepSs] using hr
    simp only [RepS] at hr
    rcases hr with ⟨rfl, rfl, rfl⟩ | ⟨b, off, cap, c, T, vss, rfl, rfl, hbl, hcap, hfit, hspare, hrows, hcells⟩
    · have := Any.slices_Sort_string_none L none 0 w
      rw [hg] at this
      refine Calls.mono this fun e w' ⟨he, hw⟩ => ?_
      subst hw
      refine ⟨_, Pr, [], [[]], he, rfl, by simp [RepS, RepA, RepAs], ?_, hP, Ext.refl _ _ _, by simp, by simp⟩
      simp only [boxVals, RepSs, St.svs, SK.sv, RepS]
      exact ⟨.inl ⟨by trivial, by simp [srtS], by trivial⟩, trivial⟩
    · have hsz : b < w.heap.size := (Array.getElem?_eq_some_iff.1 hbl).1
      have hfl := strs_vals l vss hrows
      have hlen' : (l.map fun r => (r.1 : List UInt8)).length = l.length := by simp
      have hcell : ∀ j, j < l.length → c[off + j]? = some (Value.string ⟨((l.map fun r => (r.1 : List UInt8)).getD j default).toArray⟩) := fun j hj => by
        have := hcells j _ (by rw [hfl, List.getElem?_map, List.getElem?_eq_getElem hj]; rfl)
        rw [this]
        simp [List.getD, List.getElem?_map, List.getElem?_eq_getElem hj]
      have hH : Holds encStr w b off (l.map fun r => (r.1 : List UInt8)).toArray := by
        intro j hj
        have hj' : j < l.length := by simpa using hj
        refine ⟨?_, ?_⟩
        · rw [cell_cells hbl, hcell j hj']
          simp [encStr, hj']
        · simp [World.frozen?, hbl]
      have key := Any.slices_Sort_string L b off cap (l.map fun r => (r.1 : List UInt8)) w hH hsz (by simpa using hlen)
      rw [hlen', hg] at key
      refine Calls.mono key fun e w' ⟨he, n, os, hw⟩ => ?_
      subst hw
      generalize hd : ((l.map fun r => (r.1 : List UInt8)).mergeSort fun x y => decide (x ≤ y)) = d
      have hdl : d.length = l.length := by rw [← hd]; simp [List.length_mergeSort]
      have hs : srtS l = d.map fun s => (s, ()) := by unfold srtS; rw [hd]
      have hheap : ∀ k, k < w.heap.size → k ≠ b → (Sort.grow (putRow encStr (Sort.ahead w n) b off d.toArray) os).heap[k]? = w.heap[k]? := fun k hk hne => by rw [put_heap _ _ _ _ _ _ _ _ hk, if_neg hne]
      have hblk : (Sort.grow (putRow encStr (Sort.ahead w n) b off d.toArray) os).heap[b]? = some (.cells (putCells encStr off d.toArray c) T (0, 0)) := by rw [put_heap _ _ _ _ _ _ _ _ hsz, if_pos rfl, hbl]; rfl
      have hsize : w.heap.size ≤ (Sort.grow (putRow encStr (Sort.ahead w n) b off d.toArray) os).heap.size := by
        show _ ≤ ((w.heap.modify b _) ++ os).size
        simp
      have hput : ∀ k, ¬ (off ≤ k ∧ k < off + d.length) → (putCells encStr off d.toArray c)[k]? = c[k]? := fun k hk => by
        unfold putCells
        rw [Array.getElem?_mapIdx]
        cases c[k]? with
        | none => rfl
        | some x => simp only [Option.map_some, List.size_toArray]; rw [if_neg hk]
      have hP' : PrOK Pr (Sort.grow (putRow encStr (Sort.ahead w n) b off d.toArray) os) := by
        intro b' o v hv
        have h1 := hP b' o v hv
        have hlt : b' < w.heap.size := by
          cases hb' : w.heap[b']? with
          | none => simp [cellX, World.cell?, hb'] at h1
          | some x => exact (Array.getElem?_eq_some_iff.1 hb').1
        by_cases e : b' = b
        · subst e
          have ho : o < off := by
            rcases Nat.lt_or_ge o off with q | q
            · exact q
            · rw [hspare o q] at hv; cases hv
          rw [cellX_cells hblk, hput o (by omega), ← cellX_cells hbl]; exact h1
        · simp only [cellX, World.cell?, hheap b' hlt e] at h1 ⊢; exact h1
      refine ⟨_, Pr, [], [[b]], he, rfl, by simp [RepS, RepA, RepAs], ?_, hP', ⟨rfl, rfl, rfl, hsize, PrLe.refl _, fun k hk hn => ⟨hheap k hk (fun e => hn (by simp [e])), fun _ => rfl⟩⟩, by simp, by simp⟩
      simp only [boxVals, RepSs, St.svs, SK.sv, RepS, and_true]
      refine .inr ⟨b, off, cap, putCells encStr off d.toArray c, T, _, by rw [srtS_length], rfl, hblk, by rw [srtS_length]; exact hcap, by simpa [putCells] using hfit, hspare, strs_rows (srtS l), ?_⟩
      intro j x hj
      have hfl2 : ((srtS l).map fun r => [Value.string ⟨(r.1 : List UInt8).toArray⟩]).flatten = d.map fun s => Value.string ⟨s.toArray⟩ := by
        rw [hs]; exact flat_strs d
      rw [hfl2, List.getElem?_map] at hj
      have hjl : j < d.length := by
        rcases Nat.lt_or_ge j d.length with q | q
        · exact q
        · rw [List.getElem?_eq_none q] at hj; cases hj
      rw [List.getElem?_eq_getElem hjl] at hj
      simp only [Option.map_some, Option.some.injEq] at hj
      unfold putCells
      have hcj := hcell j (by omega)
      rw [Array.getElem?_mapIdx, hcj]
      simp only [Option.map_some, List.size_toArray, Option.some.injEq]
      rw [if_pos (by omega), ← hj, Nat.add_sub_cancel_left]
      simp [encStr, hjl]
  | [], _, hr => simp [St.svs, RepSs] at hr
  | _ :: _ :: _, [], hr => simp [St.svs, RepSs] at hr
  | _ :: _ :: _, _ :: _, hr => simp [St.svs, RepSs] at hr
  | [_], [], hr => simp [St.svs, RepSs] at hr
  | [_], _ :: _ :: _, hr => simp [St.svs, RepSs] at hr
end Go.Proofs.Ytfpojhphmgnfhaa.Lg
