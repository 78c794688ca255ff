/- Part of a proof of the seat's statements: no statement by itself. -/
import Derived.Test.YtfafmpiajlgojaaDoorLgD1
import Derived.Carry
import Derived.Handed
import Derived.ChangeSame
import Derived.RowKit
namespace Go.Proofs.YtfafmpiajlgojaaDoor.Lg
open Go

def aggB (P : Program) (t : TypeId) : Bool := match P.underlying t with | some (.struct _) | some (.array _ _) => true | _ => false
/-- An argument's value, of its cells. -/
def argAV : Bool → (es : List Sh) → RowE es → AV
  | true, es, r => .agg (rowD es r)
  | false, e :: _, r => .d (toD e r.1)
  | false, [], _ => .agg []
def Rs : List (Bool × List Sh) → Type
  | [] => Unit
  | p :: ps => RowE p.2 × Rs ps
def Rs.small : (ps : List (Bool × List Sh)) → Rs ps → Prop
  | [], _ => True
  | p :: ps, r => RowE.small p.2 r.1 ∧ Rs.small ps r.2
def Rs.bulk : (ps : List (Bool × List Sh)) → Rs ps → Nat
  | [], _ => 0
  | p :: ps, r => RowE.bulk p.2 r.1 + Rs.bulk ps r.2
def Rs.avs : (ps : List (Bool × List Sh)) → Rs ps → List AV
  | [], _ => []
  | p :: ps, r => argAV p.1 p.2 r.1 :: Rs.avs ps r.2
/-- The parameters' types, as they are told. -/
def parsB (P : Program) : List TypeId → List (Bool × List Sh) → Bool
  | [], [] => true
  | t :: ts, p :: ps => (match shOf P 8 t with | some es => (Sh.eqs? es p.2).isSome | none => false) && (Bool.xor (aggB P t) (!p.1)) && (p.1 || Nat.beq p.2.length 1) && P.readableRec t && decide (t < P.types.size) && parsB P ts ps
  | _, _ => false

section
variable {P : Program} {W : World} {H : Type} {enc : TypeId × Value → H}

theorem trod_val {base : Nat} {t : TypeId} {v : Value} {es : List Sh} (hs : shOf P 8 t = some es) (ha : aggB P t = false → es.length = 1) (hv : Value.okWide P W .any base t v) {d : DataW H} {ps : List MemPlace} (h : DataW.Trod enc P W 0 (fun _ => true) true t v d ps) (hw : ∀ x ∈ d.weights P t, x ≤ reachBytes) :
    ∃ r : RowE es, RepA (allPr W) (argAV (aggB P t) es r) v ∧ RowE.small es r ∧ RowE.bulk es r ≤ blk d := by
  obtain ⟨m, hm⟩ := h
  obtain ⟨r, h1, h2⟩ := shOf_reads 8 t es hs m _ d ps hm hw
  refine ⟨r, ?_, h2⟩
  have key : ∀ (cs : Array Value), v.cells = cs → aggB P t = true → v = .agg cs → RepA (allPr W) (argAV (aggB P t) es r) v := by
    intro cs hc hb e
    rw [hb]
    simp only [argAV, RepA]
    exact ⟨cs, e, by rw [← hc]; exact RowVals.ds es r _ h1⟩
  have key2 : aggB P t = false → v.cells = #[v] → RepA (allPr W) (argAV (aggB P t) es r) v := by
    intro hb hc
    rw [hc] at h1
    have hl := ha hb
    rw [hb]
    match es, r, h1, hl with
    | [e], r, h1, _ =>
      simp only [RowVals] at h1
      simp only [argAV, RepA]
      exact RepC.toD e r.1 v h1.1
  have hs' := hs
  simp only [shOf] at hs'
  cases hu : P.underlying t with
  | none => rw [hu] at hs'; cases hs'
  | some u =>
    cases u with
    | struct fs =>
      have hb : aggB P t = true := by simp [aggB, hu]
      simp only [Value.okWide, hu] at hv
      obtain ⟨cs, rfl, _⟩ := hv
      exact key cs rfl hb rfl
    | array n e =>
      have hb : aggB P t = true := by simp [aggB, hu]
      simp only [Value.okWide, hu] at hv
      obtain ⟨cs, rfl, _⟩ := hv
      exact key cs rfl hb rfl
    | bool => obtain ⟨b, rfl⟩ := WideShapes.okWide_bool hu hv; exact key2 (by simp [aggB, hu]) rfl
    | int k => obtain ⟨b, rfl⟩ := WideShapes.okWide_int hu hv; exact key2 (by simp [aggB, hu]) rfl
    | string => obtain ⟨b, rfl⟩ := WideShapes.okWide_string hu hv; exact key2 (by simp [aggB, hu]) rfl
    | slice e => obtain ⟨_, _, _, rfl⟩ := WideShapes.okWide_slice hu hv; exact key2 (by simp [aggB, hu]) rfl
    | _ => rw [hu] at hs'; cases hs'

theorem args_open {base : Nat} : ∀ (ts : List TypeId) (ps : List (Bool × List Sh)) (vs : List Value) (ds : List (DataW H)) (p : List MemPlace), parsB P ts ps = true → DataW.TrodAll enc P W 0 (fun _ => true) true ts vs ds p →
    (∀ (i : Nat) t v, ts[i]? = some t → vs[i]? = some v → Value.okWide P W .any base t v) → (∀ (i : Nat) t (d : DataW H), ts[i]? = some t → ds[i]? = some d → ∀ x ∈ d.weights P t, x ≤ reachBytes) →
    ∃ rs : Rs ps, RepAs (allPr W) (Rs.avs ps rs) vs ∧ Rs.small ps rs ∧ Rs.bulk ps rs ≤ blkAll ds
  | [], [], vs, ds, p, _, h, _, _ => by
    obtain ⟨h1, _, _⟩ := ChangeShapes.trodAll_nil h
    subst h1
    exact ⟨(), by simp [Rs.avs, RepAs], trivial, by simp [Rs.bulk]⟩
  | t :: ts, q :: ps, vs, ds, p, hp, h, hv, hw => by
    obtain ⟨v, vs', d, ds', p1, p2, rfl, rfl, rfl, h1, h2⟩ := ChangeShapes.trodAll_cons h
    simp only [parsB, Bool.and_eq_true] at hp
    obtain ⟨⟨⟨⟨⟨hs, hx⟩, hl⟩, _⟩, _⟩, hrest⟩ := hp
    cases hes : shOf P 8 t with
    | none => rw [hes] at hs; simp at hs
    | some es =>
      rw [hes] at hs
      simp only at hs
      cases he : Sh.eqs? es q.2 with
      | none => rw [he] at hs; simp at hs
      | some pl =>
        obtain ⟨e⟩ := pl
        obtain ⟨b, q2⟩ := q
        simp only at e; subst e
        have hb : aggB P t = b := by cases h1 : aggB P t <;> cases b <;> simp_all
        obtain ⟨r, q1, q2, b1⟩ := trod_val hes (fun h => by
          rw [hb] at h; subst h
          simp at hl; exact hl) (hv 0 t v rfl rfl) h1 (hw 0 t d rfl rfl)
        obtain ⟨rs, q3, q4, b2⟩ := args_open ts ps vs' ds' p2 hrest h2 (fun i t v h3 h4 => hv (i + 1) t v (by simpa using h3) (by simpa using h4)) (fun i t d h3 h4 => hw (i + 1) t d (by simpa using h3) (by simpa using h4))
        rw [hb] at q1
        exact ⟨(r, rs), by simp only [Rs.avs, RepAs]; exact ⟨q1, q3⟩, ⟨q2, q4⟩, by simp only [Rs.bulk, blkAll]; omega⟩
  | [], _ :: _, _, _, _, h, _, _, _ => by simp [parsB] at h
  | _ :: _, [], _, _, _, h, _, _, _ => by simp [parsB] at h

theorem trodAll_stay (hl : laidOutB P = true) {W' : World} (hb : RowKit.Below W.heap.size W W') : ∀ (ts : List TypeId) (ps : List (Bool × List Sh)) (vs : List Value) (ds : List (DataW H)) (p : List MemPlace), parsB P ts ps = true → DataW.TrodAll enc P W 0 (fun _ => true) true ts vs ds p →
    (∀ x ∈ p, x.block < W.heap.size) → DataW.TrodAll enc P W' 0 (fun b => decide (b < W.heap.size)) true ts vs ds p
  | [], [], [], [], _, _, h, _ => h
  | [], [], _ :: _, _, _, _, h, _ => h.elim
  | [], [], [], _ :: _, _, _, h, _ => h.elim
  | t :: ts, q :: ps, vs, ds, p, hp, h, hlt => by
    obtain ⟨v, vs', d, ds', p1, p2, rfl, rfl, rfl, h1, h2⟩ := ChangeShapes.trodAll_cons h
    simp only [parsB, Bool.and_eq_true] at hp
    obtain ⟨⟨⟨⟨⟨hs, hx⟩, _⟩, hr⟩, ht⟩, hrest⟩ := hp
    exact ⟨p1, p2, RowKit.Below.trod hl hr (of_decide_eq_true ht) h1 hb (fun x hx => hlt x (List.mem_append_left _ hx)), trodAll_stay hl hb ts ps vs' ds' p2 hrest h2 (fun x hx => hlt x (List.mem_append_right _ hx)), rfl⟩
  | [], _ :: _, _, _, _, h, _, _ => by simp [parsB] at h
  | _ :: _, [], _, _, _, h, _, _ => by simp [parsB] at h

theorem contract_upto {f : FuncId} {fn : Func} {s : ChangeSpec} {S : List AV → Tr SV} {ps : List (Bool × List Sh)} {tb : TypeId} (hS : Sat P f S) (laid : laidOutB P = true) (hps : parsB P fn.params.toList ps = true)
    (hr : fn.resultTypes = #[tb]) (htb : P.underlying tb = some .bool) (hvars : s.vars = []) (hs : ∀ (ds : List (DataW H)), ds.length = ps.length → s.fn H ds = { results := [.lit (.bool true)], args := ds })
    (B : Nat) (hout : ∀ rs : Rs ps, Rs.small ps rs → Rs.bulk ps rs ≤ B → (S (Rs.avs ps rs)).Out (.val (.d (.bool true)))) :
    ∀ (W : World) (base : Nat) (args : Array Value) (ds gs : List (DataW H)) (before : List MemPlace), JW P W →
      (∀ (j : Nat) t v, fn.params[j]? = some t → args[j]? = some v → Value.okWide P W .any base t v) →
      DataW.Whole enc P fn.params.toList s.vars false W args.toList ds gs before →
      (DataW.weightsEach P (fn.params.toList ++ s.plain.varTypes P) (ds ++ gs)).all (· ≤ reachBytes) = true → blkAll ds ≤ B →
      Calls P f args W fun e W' => ∃ v, e = .returned v ∧ s.post enc P fn false true false false W args v W' := by
  intro W base args ds gs before hJ hval hW hsz hbk
  have hW' := hW
  obtain ⟨p, q, hA, hV, rfl, hfz, hnd⟩ := hW
  rw [hvars] at hV
  obtain ⟨rfl, rfl⟩ := ChangeShapes.trodVars_none hV
  have hlen : ∀ (ts : List TypeId) (vs : List Value) (ds : List (DataW H)) (p : List MemPlace), DataW.TrodAll enc P W 0 (fun _ => true) true ts vs ds p → ds.length = ts.length ∧ vs.length = ts.length := by
    intro ts
    induction ts with
    | nil => intro vs ds p h; obtain ⟨h1, h2, _⟩ := ChangeShapes.trodAll_nil h; subst h1 h2; simp
    | cons t ts ih =>
      intro vs ds p h
      obtain ⟨v, vs', d, ds', p1, p2, rfl, rfl, rfl, h1, h2⟩ := ChangeShapes.trodAll_cons h
      have := ih vs' ds' p2 h2
      simp [this.1, this.2]
  have hl2 : ∀ (ts : List TypeId) (ps : List (Bool × List Sh)), parsB P ts ps = true → ps.length = ts.length := by
    intro ts
    induction ts with
    | nil => intro ps h; cases ps with
      | nil => rfl
      | cons _ _ => simp [parsB] at h
    | cons t ts ih =>
      intro ps h
      cases ps with
      | nil => simp [parsB] at h
      | cons q ps => simp only [parsB, Bool.and_eq_true] at h; simp [ih ps h.2]
  have hds := (hlen _ _ _ _ hA).1
  obtain ⟨rs, hrep, hsm, hbs⟩ := args_open (base := base) fn.params.toList ps args.toList ds p hps hA (fun i t v h1 h2 => hval i t v (by simpa using h1) (by simpa using h2)) (fun i t d h1 h2 x hx => by
    have hm := weightsEach_mem (fn.params.toList ++ s.plain.varTypes P) (ds ++ []) i t d (by rw [List.getElem?_append_left (List.getElem?_eq_some_iff.1 h1).1]; exact h1) (by simpa using h2) x hx
    have := List.all_eq_true.1 hsz x hm
    exact of_decide_eq_true this)
  have hcall := hS.calls _ _ (hout rs hsm (Nat.le_trans hbs hbk)) (allPr W) W args.toList hJ hrep (allPr_ok W)
  rw [Array.toArray_toList] at hcall
  refine Calls.mono hcall fun e W' ⟨v, Pr', B, he, _, hrv, _, hx, _, _⟩ => ?_
  subst he
  refine ⟨v, rfl, ?_⟩
  have hv : v = .bool true := by simp only [RepS, RepA, RepD] at hrv; exact hrv.1
  subst hv
  have hbel : RowKit.Below W.heap.size W W' := ⟨hx.os, hx.tape, hx.output, hx.size, fun k hk => (hx.block k hk (fun h => h)).1⟩
  have hlt := hA.lt
  have hfn : s.fn H (ds ++ []) = { results := [.lit (.bool true)], args := ds } := by
    rw [List.append_nil]
    exact hs ds (by rw [hds, hl2 _ _ hps])
  refine ⟨ds, [], p ++ [], [], p, [], hW', ?_, ?_, ?_, hbel.frame _, fun h => by cases h⟩
  · rw [hfn, hr]
    exact ChangeShapes.trodAll_mk1 ⟨1, by simp [DataW.trod, Value.cells, htb]⟩
  · rw [hfn]
    exact trodAll_stay laid hbel _ ps _ _ _ hps hA hlt
  · rw [hfn, hvars]; rfl
theorem contract_of {f : FuncId} {fn : Func} {s : ChangeSpec} {S : List AV → Tr SV} {ps : List (Bool × List Sh)} {tb : TypeId} (hS : Sat P f S) (laid : laidOutB P = true) (hps : parsB P fn.params.toList ps = true)
    (hr : fn.resultTypes = #[tb]) (htb : P.underlying tb = some .bool) (hvars : s.vars = []) (hs : ∀ (ds : List (DataW H)), ds.length = ps.length → s.fn H ds = { results := [.lit (.bool true)], args := ds })
    (hout : ∀ rs : Rs ps, Rs.small ps rs → (S (Rs.avs ps rs)).Out (.val (.d (.bool true)))) :
    ∀ (W : World) (base : Nat) (args : Array Value) (ds gs : List (DataW H)) (before : List MemPlace), JW P W →
      (∀ (j : Nat) t v, fn.params[j]? = some t → args[j]? = some v → Value.okWide P W .any base t v) →
      DataW.Whole enc P fn.params.toList s.vars false W args.toList ds gs before →
      (DataW.weightsEach P (fn.params.toList ++ s.plain.varTypes P) (ds ++ gs)).all (· ≤ reachBytes) = true →
      Calls P f args W fun e W' => ∃ v, e = .returned v ∧ s.post enc P fn false true false false W args v W' :=
  fun W base args ds gs before h0 h1 h2 h3 => contract_upto hS laid hps hr htb hvars hs (blkAll ds) (fun rs h _ => hout rs h) W base args ds gs before h0 h1 h2 h3 (Nat.le_refl _)
end
end Go.Proofs.YtfafmpiajlgojaaDoor.Lg
