/- Part of a proof of the seat's statements: no statement by itself. -/
import Derived.Test.YtgcjhcefpkbheaaLgA
import Derived.Laws.CopyRow
import Derived.Laws.Entries
import Derived.ChangeKeysEq
import Derived.Laws.StructEq
import Derived.Laws.Tables
import Derived.Great.BuildSlice
import Derived.Laws.Append
import Derived.Laws.BytesString
import Derived.Laws.Strings
section
namespace Go.Proofs.Ytgcjhcefpkbheaa.Lg
open Go

/-- The cells that never turn again. -/
abbrev PM := Nat → Nat → Option Value
variable {Lz : PM}

/-- A map's entries, as what never turns again is told. -/
def mapEnc (es : Array MapEntry) (ck : Nat) : Value := .tuple #[.int .i64 ck, .tuple (es.map fun e => .tuple #[e.key, e.val, .int .i64 e.born])]
theorem mapEnc_inj {es es' : Array MapEntry} {ck ck' : Nat} (h : mapEnc es ck = mapEnc es' ck') : es = es' ∧ ck = ck' := by
  simp only [mapEnc, Value.tuple.injEq, Array.mk.injEq, List.cons.injEq, Value.int.injEq, true_and, and_true] at h
  obtain ⟨h1, h2⟩ := h
  refine ⟨?_, by omega⟩
  refine (Array.map_inj_right ?_).1 h2
  intro x y hxy
  simp only [Value.tuple.injEq, Array.mk.injEq, List.cons.injEq, Value.int.injEq, true_and, and_true] at hxy
  cases x; cases y; simp at hxy ⊢
  exact ⟨hxy.1, hxy.2.1, by omega⟩
/-- The stamps of a map's entries: no two alike, all below the clock. -/
def BornOK (es : Array MapEntry) (ck : Nat) : Prop := (es.toList.map (·.born)).Nodup ∧ ∀ e ∈ es.toList, e.born < ck
/-- One cell's value, or that of cells. -/
def ValR (b : Bool) (v : Value) (p : List Value → Prop) : Prop := if b = true then ∃ vs, v = .agg vs ∧ p vs.toList else p [v]
theorem ValR.mono {b : Bool} {v : Value} {p q : List Value → Prop} (h : ValR b v p) (k : ∀ l, p l → q l) : ValR b v q := by
  unfold ValR at h ⊢
  cases b
  · exact k _ h
  · obtain ⟨vs, h1, h2⟩ := h; exact ⟨vs, h1, k _ h2⟩

mutual
def RepC (Pr : PM) : (e : Sh) → CE e → Value → Prop
  | .int k, n, v => v = .int k n
  | .bool, b, v => v = .bool b
  | .str, s, v => v = .string ⟨s.toArray⟩
  | .sl es, l, v => ∃ a len cap, v = .slice a len cap ∧ len = l.length ∧ len ≤ cap ∧
      (l = [] ∨ ∃ b off, a = some ⟨b, off, none⟩ ∧ ∀ i x, l[i]? = some x → RepRow Pr es x b (off + i * es.length))
  | .mp k b es, m, v => (v = .map none ∧ m = []) ∨ ∃ bl es' ck, v = .map (some bl) ∧ Pr bl 0 = some (mapEnc es' ck) ∧ BornOK es' ck ∧ ((m : List (CE k × RowE es)).map Prod.fst).Nodup ∧
      ∃ m' : List (CE k × RowE es), m'.Perm m ∧ m'.length = es'.size ∧ ∀ (i : Nat) (x : CE k × RowE es), m'[i]? = some x → ∃ en : MapEntry, es'[i]? = some en ∧ RepC Pr k x.1 en.key ∧ ValR b en.val (RowVals Pr es x.2)
def RowVals (Pr : PM) : (es : List Sh) → RowE es → List Value → Prop
  | [], _, [] => True
  | e :: es, r, v :: vs => RepC Pr e r.1 v ∧ RowVals Pr es r.2 vs
  | _, _, _ => False
def RepRow (Pr : PM) : (es : List Sh) → RowE es → Nat → Nat → Prop
  | [], _, _, _ => True
  | e :: es, r, b, o => (∃ v, Pr b o = some v ∧ RepC Pr e r.1 v) ∧ RepRow Pr es r.2 b (o + 1)
end

def RepD (Pr : PM) : D → Value → Prop
  | .int k n, v => v = .int k n
  | .bool b, v => v = .bool b
  | .str s, v => v = .string ⟨s.toArray⟩
  | .sl es l, v => RepC Pr (.sl es) l v
  | .nl _, v => v = .slice none 0 0
  | .mp k b es m, v => RepC Pr (.mp k b es) m v
def RepDs (Pr : PM) : List D → List Value → Prop
  | [], [] => True
  | d :: ds, v :: vs => RepD Pr d v ∧ RepDs Pr ds vs
  | _, _ => False
mutual
def RepA (Pr : PM) : AV → Value → Prop
  | .d x, v => RepD Pr x v
  | .agg cs, v => ∃ vs, v = .agg vs ∧ RepDs Pr cs vs.toList
  | .tup l, v => ∃ vs, v = .tuple vs ∧ RepAs Pr l vs.toList
  | .fn g caps, v => ∃ cs, v = .func (.func g) #[] cs ∧ RepAs Pr caps cs.toList
  | .pt cs, v => ∃ b o, v = .pointer (some ⟨b, o, none⟩) ∧ ∀ j x, cs[j]? = some x → ∃ u, Pr b (o + j) = some u ∧ RepD Pr x u
def RepAs (Pr : PM) : List AV → List Value → Prop
  | [], [] => True
  | a :: l, v :: vs => RepA Pr a v ∧ RepAs Pr l vs
  | _, _ => False
end

/-- What a map's entries are. -/
def MapR (Pr : PM) (k : Sh) (b : Bool) (es : List Sh) (m : List (CE k × RowE es)) (es' : Array MapEntry) (ck : Nat) : Prop :=
  BornOK es' ck ∧ (m.map Prod.fst).Nodup ∧ ∃ m' : List (CE k × RowE es), m'.Perm m ∧ m'.length = es'.size ∧ ∀ (i : Nat) (x : CE k × RowE es), m'[i]? = some x → ∃ en : MapEntry, es'[i]? = some en ∧ RepC Pr k x.1 en.key ∧ ValR b en.val (RowVals Pr es x.2)
def RowsVals (Pr : PM) (es : List Sh) : List (RowE es) → List (List Value) → Prop
  | [], [] => True
  | r :: l, vs :: vss => RowVals Pr es r vs ∧ RowsVals Pr es l vss
  | _, _ => False
/-- A part of a slice, or the address of a row in it, by the slice's value. -/
def OWv : OA → Value → Value → Prop
  | .sub n lo hi, vd, vt => ∃ p len cap, vd = .slice p len cap ∧ lo ≤ hi ∧ hi ≤ len ∧ vt = .slice (if cap = lo then p else p.map (·.add (lo * n))) (hi - lo) (cap - lo)
  | .at n i o, vd, vt => ∃ b off len cap, vd = .slice (some ⟨b, off, none⟩) len cap ∧ i < len ∧ vt = .pointer (some ⟨b, off + i * n + o, none⟩)
/-- What is read: what was lent, and what never turns again. -/
def un (Lz Pr : PM) : PM := fun b o => match Lz b o with | some v => some v | none => Pr b o
/-- A slice of one's own: what is filled is there for ever, the room behind it is one's own. -/
def AppR (Pr : PM) (w : World) (es : List Sh) (l : List (RowE es)) (v : Value) (B : List Nat) : Prop :=
  (v = .slice none 0 0 ∧ l = [] ∧ B = []) ∨ ∃ b off cap c T, v = .slice (some ⟨b, off, none⟩) l.length cap ∧ B = [b] ∧ w.heap[b]? = some (.cells c T (0, 0)) ∧
      l.length ≤ cap ∧ off + cap * es.length ≤ c.size ∧ (∀ i x, l[i]? = some x → RepRow Pr es x b (off + i * es.length)) ∧ (∀ o, off + l.length * es.length ≤ o → Pr b o = none)
/-- An entry of a map of slices that are one's own; of the one that was taken out no more than what it reads. -/
def EntR (Pr : PM) (w : World) (k : Sh) (es : List Sh) (h : Option (CE k)) (x : CE k × RowE [.sl es]) (en : MapEntry) (B : List Nat) : Prop :=
  RepC Pr k x.1 en.key ∧ ((h = some x.1 ∧ B = [] ∧ RepC Pr (.sl es) x.2.1 en.val) ∨ (h ≠ some x.1 ∧ AppR Pr w es x.2.1 en.val B))
mutual
def RepS (Lz Pr : PM) (w : World) : SV → Value → List Nat → Prop
  | .unk, _, B => B = []
  | .msk, _, B => B = []
  | .und, v, B => v = undef ∧ B = []
  | .val a, v, B => RepA Pr a v ∧ B = []
  | .app es l, v, B => (v = .slice none 0 0 ∧ l = [] ∧ B = []) ∨ ∃ b off cap c T, v = .slice (some ⟨b, off, none⟩) l.length cap ∧ B = [b] ∧ w.heap[b]? = some (.cells c T (0, 0)) ∧
      l.length ≤ cap ∧ off + cap * es.length ≤ c.size ∧ (∀ i x, l[i]? = some x → RepRow Pr es x b (off + i * es.length)) ∧ (∀ o, off + l.length * es.length ≤ o → Pr b o = none)
  | .box _ cs, v, B => ∃ b c T Bs, v = .pointer (some ⟨b, 0, none⟩) ∧ w.heap[b]? = some (.cells c T (0, 0)) ∧ (∀ o, Pr b o = none) ∧ B = b :: Bs.flatten ∧ RepSs Lz Pr w cs c.toList Bs
  | .sit s pos, v, B => ∃ b, v = .pointer (some ⟨b, 0, none⟩) ∧ w.heap[b]? = some (.stringIter ⟨s.toArray⟩ pos) ∧ (∀ o, Pr b o = none) ∧ B = [b]
  | .at cs, v, B => (∃ b o, v = .pointer (some ⟨b, o, none⟩) ∧ ∀ j x, cs[j]? = some x → ∃ u, Pr b (o + j) = some u ∧ RepD Pr x u) ∧ B = []
  | .own es l, v, B => (v = .slice none 0 0 ∧ l = [] ∧ B = []) ∨ ∃ b off cap c T vss, v = .slice (some ⟨b, off, none⟩) l.length cap ∧ B = [b] ∧ w.heap[b]? = some (.cells c T (0, 0)) ∧
      l.length ≤ cap ∧ off + cap * es.length ≤ c.size ∧ (∀ o, off ≤ o → Pr b o = none) ∧ RowsVals Pr es l vss ∧ (∀ (j : Nat) (x : Value), vss.flatten[j]? = some x → c[off + j]? = some x)
  | .ow _ _, _, B => B = []
  | .bld cs, v, B => (∃ c, v = .agg c ∧ RepDs Pr cs c.toList) ∧ B = []
  | .mp k b es m, v, B => ∃ bl es' ck, v = .map (some bl) ∧ B = [bl] ∧ w.heap[bl]? = some (.map es' ck) ∧ (∀ o, Pr bl o = none) ∧ MapR Pr k b es m es' ck
  | .mit k b es rem cur, v, B => ∃ bl, v = .pointer (some ⟨bl, 0, none⟩) ∧ B = [bl] ∧ (∀ o, Pr bl o = none) ∧
      ((∃ s n, w.heap[bl]? = some (.mapIter none s #[] n) ∧ rem = [] ∧ cur = none) ∨ ∃ mb es' ck seen, w.heap[bl]? = some (.mapIter (some mb) ck seen ck) ∧ Pr mb 0 = some (mapEnc es' ck) ∧ BornOK es' ck ∧ (es' = #[] → seen = #[]) ∧
        (∃ m' : List (CE k × RowE es), m'.Perm rem ∧ ∃ ens, ens = es'.toList.filter (fun e => !seen.contains e.born) ∧ m'.length = ens.length ∧ ∀ (i : Nat) (x : CE k × RowE es), m'[i]? = some x → ∃ en : MapEntry, ens[i]? = some en ∧ RepC Pr k x.1 en.key ∧ ValR b en.val (RowVals Pr es x.2)) ∧
        (∀ x : CE k × RowE es, cur = some x → ∃ en ∈ es'.toList, seen.back? = some en.born ∧ RepC Pr k x.1 en.key ∧ ValR b en.val (RowVals Pr es x.2)))
  | .al _ _, _, B => B = []
  | .ref _ _, _, B => B = []
  | .ln v, x, B => RepA (un Lz Pr) v x ∧ B = []
  | .mpa _ k es h m, v, B => ∃ (bl : Nat) (es' : Array MapEntry) (ck : Nat) (Bs : List (List Nat)), v = .map (some bl) ∧ B = bl :: Bs.flatten ∧ w.heap[bl]? = some (.map es' ck) ∧ (∀ o, Pr bl o = none) ∧ BornOK es' ck ∧ (m.map Prod.fst).Nodup ∧
      ∃ m' : List (CE k × RowE [.sl es]), m'.Perm m ∧ m'.length = es'.size ∧ Bs.length = es'.size ∧ ∀ (i : Nat) (x : CE k × RowE [.sl es]), m'[i]? = some x → ∃ en Bi, es'[i]? = some en ∧ Bs[i]? = some Bi ∧ EntR Pr w k es h x en Bi
def RepSs (Lz Pr : PM) (w : World) : List SV → List Value → List (List Nat) → Prop
  | [], [], [] => True
  | s :: ss, v :: vs, B :: Bs => RepS Lz Pr w s v B ∧ RepSs Lz Pr w ss vs Bs
  | _, _, _ => False
end

def PrLe (Pr Pr' : PM) : Prop := ∀ b o v, Pr b o = some v → Pr' b o = some v
def isTup : Value → Bool
  | .tuple _ => true
  | _ => false
/-- What a cell holds; a map's entries stand in its first one. -/
def cellX (w : World) (b o : Nat) : Option Value := match w.heap[b]? with
  | some (.map es ck) => if o = 0 then some (mapEnc es ck) else none
  | _ => (w.cell? ⟨b, o, none⟩).bind fun v => if isTup v = true then none else some v
def PrOK (Pr : PM) (w : World) : Prop := ∀ b o v, Pr b o = some v → cellX w b o = some v
theorem cellX_of {w : World} {b o : Nat} {v : Value} (h : w.cell? ⟨b, o, none⟩ = some v) (ht : isTup v = false) : cellX w b o = some v := by
  unfold cellX
  split
  · rename_i hb; simp [World.cell?, hb] at h
  · simp [h, ht]
theorem PrOK.cell {Pr : PM} {w : World} (h : PrOK Pr w) {b o : Nat} {v : Value} (hv : Pr b o = some v) (ht : isTup v = false) : w.cell? ⟨b, o, none⟩ = some v := by
  have := h b o v hv
  unfold cellX at this
  split at this
  · split at this
    · simp at this; subst this; simp [mapEnc, isTup] at ht
    · cases this
  · obtain ⟨u, h1, h2⟩ := Option.bind_eq_some_iff.1 this
    split at h2
    · cases h2
    · simp at h2; subst h2; exact h1
theorem PrOK.map {Pr : PM} {w : World} (h : PrOK Pr w) {b : Nat} {es : Array MapEntry} {ck : Nat} (hv : Pr b 0 = some (mapEnc es ck)) : w.heap[b]? = some (.map es ck) := by
  have := h b 0 _ hv
  unfold cellX at this
  split at this
  · rename_i es' ck' hb
    simp at this
    obtain ⟨rfl, rfl⟩ := mapEnc_inj this
    exact hb
  · obtain ⟨u, _, h2⟩ := Option.bind_eq_some_iff.1 this
    split at h2
    · cases h2
    · rename_i hu
      simp at h2; subst h2; simp [mapEnc, isTup] at hu

theorem un_le {Lz Pr Pr' : PM} (h : PrLe Pr Pr') : PrLe (un Lz Pr) (un Lz Pr') := fun b o v q => by
  unfold un at q ⊢
  cases hu : Lz b o with
  | some u => rw [hu] at q; exact q
  | none => rw [hu] at q; exact h b o v q
theorem PrLe.refl (Pr : PM) : PrLe Pr Pr := fun _ _ _ h => h
theorem PrLe.trans {a b c : PM} (h : PrLe a b) (k : PrLe b c) : PrLe a c := fun x y z q => k _ _ _ (h _ _ _ q)

mutual
theorem RepC.mono {Pr Pr' : PM} (h : PrLe Pr Pr') : ∀ (e : Sh) (x : CE e) (v : Value), RepC Pr e x v → RepC Pr' e x v
  | .int _, _, _, q => by simpa [RepC] using q
  | .bool, _, _, q => by simpa [RepC] using q
  | .str, _, _, q => by simpa [RepC] using q
  | .sl es, l, v, q => by
    simp only [RepC] at q ⊢
    obtain ⟨a, len, cap, hv, hl, hc, q⟩ := q
    refine ⟨a, len, cap, hv, hl, hc, q.imp id ?_⟩
    rintro ⟨b, off, ha, q⟩
    exact ⟨b, off, ha, fun i x hi => RepRow.mono h es x b _ (q i x hi)⟩
  | .mp k b es, m, v, q => by
    simp only [RepC] at q ⊢
    refine q.imp id ?_
    rintro ⟨bl, es', ck, h1, h2, h3, h4, m', h5, h6, h7⟩
    exact ⟨bl, es', ck, h1, h _ _ _ h2, h3, h4, m', h5, h6, fun i x hi => let ⟨en, g1, g2, g3⟩ := h7 i x hi; ⟨en, g1, RepC.mono h k x.1 en.key g2, g3.mono fun l hl => RowVals.mono h es x.2 l hl⟩⟩
theorem RowVals.mono {Pr Pr' : PM} (h : PrLe Pr Pr') : ∀ (es : List Sh) (r : RowE es) (vs : List Value), RowVals Pr es r vs → RowVals Pr' es r vs
  | [], _, [], q => by simp [RowVals]
  | e :: es, r, v :: vs, q => by simp only [RowVals] at q ⊢; exact ⟨RepC.mono h _ _ _ q.1, RowVals.mono h es r.2 vs q.2⟩
  | [], _, _ :: _, q => by simp [RowVals] at q
  | _ :: _, _, [], q => by simp [RowVals] at q
theorem RepRow.mono {Pr Pr' : PM} (h : PrLe Pr Pr') : ∀ (es : List Sh) (r : RowE es) (b o : Nat), RepRow Pr es r b o → RepRow Pr' es r b o
  | [], _, _, _, _ => by simp [RepRow]
  | e :: es, r, b, o, q => by
    simp only [RepRow] at q ⊢
    obtain ⟨⟨v, hv, q⟩, k⟩ := q
    exact ⟨⟨v, h _ _ _ hv, RepC.mono h e r.1 v q⟩, RepRow.mono h es r.2 b (o + 1) k⟩
end

theorem MapR.mono {Pr Pr' : PM} (h : PrLe Pr Pr') {k : Sh} {b : Bool} {es : List Sh} {m : List (CE k × RowE es)} {es' : Array MapEntry} {ck : Nat} (q : MapR Pr k b es m es' ck) : MapR Pr' k b es m es' ck := by
  obtain ⟨h3, h4, m', h5, h6, h7⟩ := q
  exact ⟨h3, h4, m', h5, h6, fun i x hi => let ⟨en, g1, g2, g3⟩ := h7 i x hi; ⟨en, g1, RepC.mono h k x.1 en.key g2, g3.mono fun l hl => RowVals.mono h es x.2 l hl⟩⟩
theorem RowsVals.mono {Pr Pr' : PM} (h : PrLe Pr Pr') {es : List Sh} : ∀ (l : List (RowE es)) (vss : List (List Value)), RowsVals Pr es l vss → RowsVals Pr' es l vss
  | [], [], _ => trivial
  | r :: l, vs :: vss, q => ⟨RowVals.mono h es r vs q.1, RowsVals.mono h l vss q.2⟩
  | [], _ :: _, q => by simp [RowsVals] at q
  | _ :: _, [], q => by simp [RowsVals] at q
theorem RepD.mono {Pr Pr' : PM} (h : PrLe Pr Pr') : ∀ (x : D) (v : Value), RepD Pr x v → RepD Pr' x v
  | .int _ _, _, q => q
  | .bool _, _, q => q
  | .str _, _, q => q
  | .sl es l, v, q => RepC.mono h (.sl es) l v q
  | .nl _, _, q => q
  | .mp k b es m, v, q => RepC.mono h (.mp k b es) m v q
theorem RepDs.mono {Pr Pr' : PM} (h : PrLe Pr Pr') : ∀ (x : List D) (v : List Value), RepDs Pr x v → RepDs Pr' x v
  | [], [], q => q
  | _ :: _, _ :: _, ⟨a, b⟩ => ⟨RepD.mono h _ _ a, RepDs.mono h _ _ b⟩
  | [], _ :: _, q => q
  | _ :: _, [], q => q
mutual
theorem RepA.mono {Pr Pr' : PM} (h : PrLe Pr Pr') : ∀ (x : AV) (v : Value), RepA Pr x v → RepA Pr' x v
  | .d x, v, q => by simp only [RepA] at q ⊢; exact RepD.mono h x v q
  | .agg cs, v, q => by simp only [RepA] at q ⊢; obtain ⟨vs, hv, q⟩ := q; exact ⟨vs, hv, RepDs.mono h _ _ q⟩
  | .tup l, v, q => by simp only [RepA] at q ⊢; obtain ⟨vs, hv, q⟩ := q; exact ⟨vs, hv, RepAs.mono h _ _ q⟩
  | .fn g caps, v, q => by simp only [RepA] at q ⊢; obtain ⟨vs, hv, q⟩ := q; exact ⟨vs, hv, RepAs.mono h _ _ q⟩
  | .pt cs, v, q => by simp only [RepA] at q ⊢; obtain ⟨b, o, hv, q⟩ := q; exact ⟨b, o, hv, fun j x hj => let ⟨u, hu, r⟩ := q j x hj; ⟨u, h _ _ _ hu, RepD.mono h x u r⟩⟩
theorem RepAs.mono {Pr Pr' : PM} (h : PrLe Pr Pr') : ∀ (x : List AV) (v : List Value), RepAs Pr x v → RepAs Pr' x v
  | [], [], q => by simp [RepAs]
  | a :: l, v :: vs, q => by simp only [RepAs] at q ⊢; exact ⟨RepA.mono h a v q.1, RepAs.mono h l vs q.2⟩
  | [], _ :: _, q => by simp [RepAs] at q
  | _ :: _, [], q => by simp [RepAs] at q
end

/-- What a change of the world leaves of the blocks in B. -/
def Keeps (B : List Nat) (Pr : PM) (w : World) (Pr' : PM) (w' : World) : Prop :=
  ∀ b ∈ B, w'.heap[b]? = w.heap[b]? ∧ ∀ o, Pr' b o = Pr b o

theorem AppR.mono {Pr Pr' : PM} {w w' : World} (h : PrLe Pr Pr') {es : List Sh} {l : List (RowE es)} {v : Value} {B : List Nat} (k : Keeps B Pr w Pr' w') (q : AppR Pr w es l v B) : AppR Pr' w' es l v B := by
  unfold AppR at q ⊢
  refine q.imp id ?_
  rintro ⟨b, off, cap, c, T, hv, hB, hb, h1, h2, h3, h4⟩
  have kb := k b (by simp [hB])
  exact ⟨b, off, cap, c, T, hv, hB, kb.1.trans hb, h1, h2, fun i x hi => RepRow.mono h es x b _ (h3 i x hi), fun o ho => (kb.2 o).trans (h4 o ho)⟩
theorem EntR.mono {Pr Pr' : PM} {w w' : World} (h : PrLe Pr Pr') {k : Sh} {es : List Sh} {ho : Option (CE k)} {x : CE k × RowE [.sl es]} {en : MapEntry} {B : List Nat} (kp : Keeps B Pr w Pr' w') (q : EntR Pr w k es ho x en B) : EntR Pr' w' k es ho x en B :=
  ⟨RepC.mono h _ _ _ q.1, q.2.imp (fun ⟨a, b, c⟩ => ⟨a, b, RepC.mono h _ _ _ c⟩) (fun ⟨a, b⟩ => ⟨a, b.mono h kp⟩)⟩
theorem mem_flat_get {α : Type} {Bs : List (List α)} {i : Nat} {B : List α} (h : Bs[i]? = some B) {b : α} (hb : b ∈ B) : b ∈ Bs.flatten := List.mem_flatten.2 ⟨B, List.mem_of_getElem? h, hb⟩
mutual
theorem RepS.mono {Pr Pr' : PM} {w w' : World} (h : PrLe Pr Pr') : ∀ (x : SV) (v : Value) (B : List Nat), Keeps B Pr w Pr' w' → RepS Lz Pr w x v B → RepS Lz Pr' w' x v B
  | .unk, _, _, _, q => by simpa [RepS] using q
  | .msk, _, _, _, q => by simpa [RepS] using q
  | .und, _, _, _, q => by simpa [RepS] using q
  | .val a, v, _, _, q => by simp only [RepS] at q ⊢; exact ⟨RepA.mono h a v q.1, q.2⟩
  | .app es l, v, B, k, q => by
    simp only [RepS] at q ⊢
    refine q.imp id ?_
    rintro ⟨b, off, cap, c, T, hv, hB, hb, h1, h2, h3, h4⟩
    have kb := k b (by simp [hB])
    exact ⟨b, off, cap, c, T, hv, hB, kb.1.trans hb, h1, h2, fun i x hi => RepRow.mono h es x b _ (h3 i x hi), fun o ho => (kb.2 o).trans (h4 o ho)⟩
  | .box _ cs, v, B, k, q => by
    simp only [RepS] at q ⊢
    obtain ⟨b, c, T, Bs, hv, hb, h1, hB, h2⟩ := q
    have kb := k b (by simp [hB])
    exact ⟨b, c, T, Bs, hv, kb.1.trans hb, fun o => (kb.2 o).trans (h1 o), hB, RepSs.mono h cs c.toList Bs (fun x hx => k x (by simp [hB, hx])) h2⟩
  | .sit s pos, v, B, k, q => by
    simp only [RepS] at q ⊢
    obtain ⟨b, hv, hb, h1, hB⟩ := q
    have kb := k b (by simp [hB])
    exact ⟨b, hv, kb.1.trans hb, fun o => (kb.2 o).trans (h1 o), hB⟩
  | .at cs, v, B, _, q => by
    simp only [RepS] at q ⊢
    obtain ⟨⟨b, o, hv, q⟩, hB⟩ := q
    exact ⟨⟨b, o, hv, fun j x hj => let ⟨u, hu, r⟩ := q j x hj; ⟨u, h _ _ _ hu, RepD.mono h x u r⟩⟩, hB⟩
  | .own es l, v, B, k, q => by
    simp only [RepS] at q ⊢
    refine q.imp id ?_
    rintro ⟨b, off, cap, c, T, vss, hv, hB, hb, h1, h2, h3, h4, h5⟩
    have kb := k b (by simp [hB])
    exact ⟨b, off, cap, c, T, vss, hv, hB, kb.1.trans hb, h1, h2, fun o ho => (kb.2 o).trans (h3 o ho), RowsVals.mono h l vss h4, h5⟩
  | .ow _ _, _, _, _, q => by simpa [RepS] using q
  | .bld cs, v, B, _, q => by
    simp only [RepS] at q ⊢
    obtain ⟨⟨c, hv, q⟩, hB⟩ := q
    exact ⟨⟨c, hv, RepDs.mono h _ _ q⟩, hB⟩
  | .mp k b es m, v, B, kk, q => by
    simp only [RepS] at q ⊢
    obtain ⟨bl, es', ck, h1, hB, h2, h3, h4⟩ := q
    have kb := kk bl (by simp [hB])
    exact ⟨bl, es', ck, h1, hB, kb.1.trans h2, fun o => (kb.2 o).trans (h3 o), h4.mono h⟩
  | .mit k b es rem cur, v, B, kk, q => by
    simp only [RepS] at q ⊢
    obtain ⟨bl, h1, hB, h2, h3⟩ := q
    have kb := kk bl (by simp [hB])
    refine ⟨bl, h1, hB, fun o => (kb.2 o).trans (h2 o), h3.imp (fun ⟨s, n, g1, g2⟩ => ⟨s, n, kb.1.trans g1, g2⟩) ?_⟩
    rintro ⟨mb, es', ck, seen, g1, g2, g3, g3', ⟨m', g4, ens, g5, g6, g7⟩, g8⟩
    exact ⟨mb, es', ck, seen, kb.1.trans g1, h _ _ _ g2, g3, g3', ⟨m', g4, ens, g5, g6, fun i x hi => let ⟨en, q1, q2, q3⟩ := g7 i x hi; ⟨en, q1, RepC.mono h k x.1 en.key q2, q3.mono fun l hl => RowVals.mono h es x.2 l hl⟩⟩,
      fun x hs => let ⟨en, q0, q1, q2, q3⟩ := g8 x hs; ⟨en, q0, q1, RepC.mono h k _ en.key q2, q3.mono fun l hl => RowVals.mono h es _ l hl⟩⟩
  | .al _ _, _, _, _, q => by simpa [RepS] using q
  | .ref _ _, _, _, _, q => by simpa [RepS] using q
  | .ln v, x, _, _, q => by simp only [RepS] at q ⊢; exact ⟨RepA.mono (un_le h) v x q.1, q.2⟩
  | .mpa _ k es ho m, v, B, kk, q => by
    simp only [RepS] at q ⊢
    obtain ⟨bl, es', ck, Bs, h1, hB, h2, h3, h4, h5, m', h6, h7, h8, h9⟩ := q
    have kb := kk bl (by simp [hB])
    refine ⟨bl, es', ck, Bs, h1, hB, kb.1.trans h2, fun o => (kb.2 o).trans (h3 o), h4, h5, m', h6, h7, h8, fun i x hi => ?_⟩
    obtain ⟨en, Bi, g1, g2, g3⟩ := h9 i x hi
    exact ⟨en, Bi, g1, g2, g3.mono h fun b hb => kk b (by rw [hB]; exact List.mem_cons_of_mem _ (mem_flat_get g2 hb))⟩
theorem RepSs.mono {Pr Pr' : PM} {w w' : World} (h : PrLe Pr Pr') : ∀ (x : List SV) (v : List Value) (Bs : List (List Nat)), Keeps Bs.flatten Pr w Pr' w' → RepSs Lz Pr w x v Bs → RepSs Lz Pr' w' x v Bs
  | [], [], [], _, q => by simp [RepSs]
  | s :: ss, v :: vs, B :: Bs, k, q => by
    simp only [RepSs] at q ⊢
    exact ⟨RepS.mono h s v B (fun b hb => k b (by simp [hb])) q.1, RepSs.mono h ss vs Bs (fun b hb => k b (by simp at hb ⊢; exact .inr hb)) q.2⟩
  | [], _ :: _, _, _, q => by simp [RepSs] at q
  | _ :: _, [], _, _, q => by simp [RepSs] at q
  | [], [], _ :: _, _, q => by simp [RepSs] at q
  | _ :: _, _ :: _, [], _, q => by simp [RepSs] at q
end

/-- A world behind: of what was there only blocks in A may have turned. -/
structure Ext (A : Nat → Prop) (Pr : PM) (w : World) (Pr' : PM) (w' : World) : Prop where
  os : w'.os = w.os
  tape : w'.tape = w.tape
  output : w'.output = w.output
  size : w.heap.size ≤ w'.heap.size
  le : PrLe Pr Pr'
  block : ∀ b, b < w.heap.size → ¬ A b → w'.heap[b]? = w.heap[b]? ∧ ∀ o, Pr' b o = Pr b o
  dr : w.drawn ≤ w'.drawn

theorem Ext.refl (A : Nat → Prop) (Pr : PM) (w : World) : Ext A Pr w Pr w := ⟨rfl, rfl, rfl, Nat.le_refl _, PrLe.refl _, fun _ _ _ => ⟨rfl, fun _ => rfl⟩, Nat.le_refl _⟩
/-- A second step may write what the first one was let to, and what is new. -/
theorem Ext.trans {A A' : Nat → Prop} {Pr Pr' Pr'' : PM} {w w' w'' : World} (h : Ext A Pr w Pr' w') (k : Ext A' Pr' w' Pr'' w'') (hA : ∀ b, A' b → A b ∨ w.heap.size ≤ b) : Ext A Pr w Pr'' w'' :=
  ⟨k.os.trans h.os, k.tape.trans h.tape, k.output.trans h.output, Nat.le_trans h.size k.size, h.le.trans k.le, fun b hb hn => by
    have h1 := h.block b hb hn
    have h2 := k.block b (Nat.lt_of_lt_of_le hb h.size) (fun q => (hA b q).elim hn (fun q => by omega))
    exact ⟨h2.1.trans h1.1, fun o => (h2.2 o).trans (h1.2 o)⟩, Nat.le_trans h.dr k.dr⟩
theorem Ext.weaken {A A' : Nat → Prop} {Pr Pr' : PM} {w w' : World} (h : Ext A Pr w Pr' w') (hA : ∀ b, A b → A' b) : Ext A' Pr w Pr' w' :=
  ⟨h.os, h.tape, h.output, h.size, h.le, fun b hb hn => h.block b hb (fun q => hn (hA b q)), h.dr⟩
theorem Ext.keeps {A : Nat → Prop} {Pr Pr' : PM} {w w' : World} (h : Ext A Pr w Pr' w') {B : List Nat} (hB : ∀ b ∈ B, b < w.heap.size ∧ ¬ A b) : Keeps B Pr w Pr' w' :=
  fun b hb => h.block b (hB b hb).1 (hB b hb).2

mutual
/-- What a slot owns lies in the heap. -/
theorem RepS.lt {Pr : PM} {w : World} : ∀ (x : SV) (v : Value) (B : List Nat), RepS Lz Pr w x v B → ∀ b ∈ B, b < w.heap.size
  | .unk, _, _, q => by simp only [RepS] at q; simp [q]
  | .msk, _, _, q => by simp only [RepS] at q; simp [q]
  | .und, _, _, q => by simp only [RepS] at q; simp [q.2]
  | .val a, v, _, q => by simp only [RepS] at q; simp [q.2]
  | .app es l, v, B, q => by
    simp only [RepS] at q
    rcases q with ⟨_, _, q⟩ | ⟨b, off, cap, c, T, hv, hB, hb, _⟩
    · simp [q]
    · intro x hx; simp [hB] at hx; subst hx; exact (Array.getElem?_eq_some_iff.1 hb).1
  | .box _ cs, v, B, q => by
    simp only [RepS] at q
    obtain ⟨b, c, T, Bs, hv, hb, h1, hB, h2⟩ := q
    intro x hx
    rw [hB] at hx
    rcases List.mem_cons.1 hx with rfl | hx
    · exact (Array.getElem?_eq_some_iff.1 hb).1
    · exact RepSs.lt cs c.toList Bs h2 x hx
  | .sit s pos, v, B, q => by
    simp only [RepS] at q
    obtain ⟨b, hv, hb, h1, hB⟩ := q
    intro x hx; simp [hB] at hx; subst hx; exact (Array.getElem?_eq_some_iff.1 hb).1
  | .at cs, v, B, q => by simp only [RepS] at q; simp [q.2]
  | .own es l, v, B, q => by
    simp only [RepS] at q
    rcases q with ⟨_, _, hB⟩ | ⟨b, off, cap, c, T, vss, hv, hB, hb, _⟩
    · simp [hB]
    · intro x hx; simp [hB] at hx; subst hx; exact (Array.getElem?_eq_some_iff.1 hb).1
  | .ow _ _, v, B, q => by simp only [RepS] at q; simp [q]
  | .bld cs, v, B, q => by simp only [RepS] at q; simp [q.2]
  | .mp k b es m, v, B, q => by
    simp only [RepS] at q
    obtain ⟨bl, es', ck, h1, hB, h2, _⟩ := q
    intro x hx; simp [hB] at hx; subst hx; exact (Array.getElem?_eq_some_iff.1 h2).1
  | .mit k b es rem cur, v, B, q => by
    simp only [RepS] at q
    obtain ⟨bl, h1, hB, h2, h3⟩ := q
    intro x hx; simp [hB] at hx; subst hx
    rcases h3 with ⟨s, n, g1, _⟩ | ⟨mb, es', ck, seen, g1, _⟩ <;> exact (Array.getElem?_eq_some_iff.1 g1).1
  | .al _ _, _, _, q => by simp only [RepS] at q; simp [q]
  | .ref _ _, _, _, q => by simp only [RepS] at q; simp [q]
  | .ln _, _, _, q => by simp only [RepS] at q; simp [q.2]
  | .mpa _ k es ho m, v, B, q => by
    simp only [RepS] at q
    obtain ⟨bl, es', ck, Bs, h1, hB, h2, h3, h4, h5, m', h6, h7, h8, h9⟩ := q
    intro b hb
    rw [hB] at hb
    rcases List.mem_cons.1 hb with rfl | hb
    · exact (Array.getElem?_eq_some_iff.1 h2).1
    · obtain ⟨Bi, hBi, hb⟩ := List.mem_flatten.1 hb
      obtain ⟨i, hi, rfl⟩ := List.mem_iff_getElem.1 hBi
      obtain ⟨en, Bi', g1, g2, g3⟩ := h9 i m'[i] (List.getElem?_eq_getElem (by omega))
      rw [List.getElem?_eq_getElem hi] at g2
      cases g2
      rcases g3.2 with ⟨_, q, _⟩ | ⟨_, q⟩
      · rw [q] at hb; simp at hb
      · unfold AppR at q
        rcases q with ⟨_, _, q⟩ | ⟨b', off, cap, c, T, _, q, hq, _⟩
        · rw [q] at hb; simp at hb
        · rw [q] at hb; simp at hb; subst hb
          exact (Array.getElem?_eq_some_iff.1 hq).1
theorem RepSs.lt {Pr : PM} {w : World} : ∀ (x : List SV) (v : List Value) (Bs : List (List Nat)), RepSs Lz Pr w x v Bs → ∀ b ∈ Bs.flatten, b < w.heap.size
  | [], [], [], _ => by simp
  | s :: ss, v :: vs, B :: Bs, q => by
    simp only [RepSs] at q
    intro b hb
    simp only [List.flatten_cons, List.mem_append] at hb
    rcases hb with hb | hb
    · exact RepS.lt s v B q.1 b hb
    · exact RepSs.lt ss vs Bs q.2 b hb
  | [], _ :: _, _, q => by simp [RepSs] at q
  | _ :: _, [], _, q => by simp [RepSs] at q
  | [], [], _ :: _, q => by simp [RepSs] at q
  | _ :: _, _ :: _, [], q => by simp [RepSs] at q
end

/-- A frame: each slot's value is what is told of it; what slots own is apart. -/
structure RepF (Lz Pr : PM) (w : World) (fr : Fr) (ts : Array Value) (F : Nat → List Nat) : Prop where
  rep : ∀ t, RepS Lz Pr w (look1 t fr) (ts.getD t undef) (F t)
  nodup : ∀ t, (F t).Nodup
  apart : ∀ t t', t ≠ t' → ∀ b ∈ F t, b ∉ F t'
  al0 : ∀ t pre d rest, find t fr [] = some (pre, .al d none, rest) → remade d pre = false → ts.getD t undef = ts.getD d undef
  alias1 : ∀ t pre d o rest, find t fr [] = some (pre, .al d (some o), rest) → bound d pre = false → ∃ b c T, ts.getD d undef = .pointer (some ⟨b, 0, none⟩) ∧ b ∈ F d ∧ w.heap[b]? = some (.cells c T (0, 0)) ∧ c[o]? = some (ts.getD t undef)
  own : ∀ t pre d k rest, find t fr [] = some (pre, .ow d k, rest) → bound d pre = false → OWv k (ts.getD d undef) (ts.getD t undef)
  ref : ∀ t pre d o rest, find t fr [] = some (pre, .ref d o, rest) → remade d pre = false → ∃ b, ts.getD d undef = .pointer (some ⟨b, 0, none⟩) ∧ ts.getD t undef = .pointer (some ⟨b, o, none⟩)

theorem RepF.lt {Pr : PM} {w : World} {fr : Fr} {ts : Array Value} {F : Nat → List Nat} (h : RepF Lz Pr w fr ts F) : ∀ t, ∀ b ∈ F t, b < w.heap.size :=
  fun t b hb => RepS.lt _ _ _ (h.rep t) b hb

theorem RepF.mono {Pr Pr' : PM} {w w' : World} {fr : Fr} {ts : Array Value} {F : Nat → List Nat} (h : RepF Lz Pr w fr ts F) (hle : PrLe Pr Pr') (k : ∀ t, Keeps (F t) Pr w Pr' w') : RepF Lz Pr' w' fr ts F :=
  ⟨fun t => RepS.mono hle _ _ _ (k t) (h.rep t), h.nodup, h.apart, h.al0, fun t pre d o rest hf hb => by
    obtain ⟨b, c, T, h1, h2, h3, h4⟩ := h.alias1 t pre d o rest hf hb
    exact ⟨b, c, T, h1, h2, ((k d) b h2).1.trans h3, h4⟩, h.own, h.ref⟩
end Go.Proofs.Ytgcjhcefpkbheaa.Lg
end

section
namespace Go.Proofs.Ytgcjhcefpkbheaa.Lg
open Go
variable {Lz : PM}

theorem getD_set (ts : Array Value) (d t : Nat) (v : Value) (h : d < ts.size) : (ts.setIfInBounds d v).getD t undef = if t = d then v else ts.getD t undef := by
  simp only [Array.getD_eq_getD_getElem?, Array.getElem?_setIfInBounds]
  by_cases e : d = t
  · subst e; simp [h]
  · simp [e, Ne.symm e]

theorem beq_true {x t : Nat} (h : x = t) : Nat.beq x t = true := by subst h; simp
theorem beq_false {x t : Nat} (h : ¬ x = t) : Nat.beq x t = false := by
  cases hb : Nat.beq x t
  · rfl
  · exact absurd (Nat.eq_of_beq_eq_true hb) h

theorem bound_append (d : Nat) : ∀ (l m : List (Nat × Bool)), bound d (l ++ m) = (bound d l || bound d m)
  | [], m => by simp [bound]
  | (x, u) :: l, m => by
    simp only [List.cons_append, bound]
    cases Nat.beq x d <;> simp [bound_append d l m]
theorem remade_append (d : Nat) : ∀ (l m : List (Nat × Bool)), remade d (l ++ m) = (remade d l || remade d m)
  | [], m => by simp [remade]
  | (x, u) :: l, m => by
    simp only [List.cons_append, remade]
    cases Nat.beq x d <;> cases u <;> simp [remade_append d l m]
theorem bound_self (d : Nat) (u : Bool) : bound d [(d, u)] = true := by simp [bound]
theorem bound_one {d x : Nat} {u : Bool} (h : bound d [(x, u)] = false) : d ≠ x := by
  rintro rfl; simp [bound] at h
theorem remade_one {d x : Nat} {u : Bool} (h : remade d [(x, u)] = false) : d ≠ x ∨ u = true := by
  by_cases e : d = x
  · subst e; cases u <;> simp [remade] at h ⊢
  · exact .inl e

theorem find_acc (t : Nat) : ∀ (fr : Fr) (acc : List (Nat × Bool)), find t fr acc = (find t fr []).map fun p => (p.1 ++ acc, p.2)
  | [], acc => by simp [find]
  | (x, sv) :: fr, acc => by
    simp only [find]
    cases hb : Nat.beq x t
    · simp only [cond_false]
      rw [find_acc t fr ((x, sv.isUpd) :: acc), find_acc t fr [(x, sv.isUpd)]]
      simp [Function.comp_def]
    · simp

theorem find_look (t : Nat) : ∀ (fr : Fr) (acc : List (Nat × Bool)) pre sv rest, find t fr acc = some (pre, sv, rest) → look1 t fr = sv
  | [], acc, pre, sv, rest, h => by simp [find] at h
  | (x, s) :: fr, acc, pre, sv, rest, h => by
    simp only [find, look1] at h ⊢
    cases hb : Nat.beq x t
    · simp only [hb, cond_false] at h ⊢; exact find_look t fr _ _ _ _ h
    · simp only [hb, cond_true, Option.some.injEq, Prod.mk.injEq] at h ⊢; exact h.2.1
theorem find_none (t : Nat) : ∀ (fr : Fr) (acc : List (Nat × Bool)), find t fr acc = none → look1 t fr = .unk
  | [], acc, h => rfl
  | (x, s) :: fr, acc, h => by
    simp only [find, look1] at h ⊢
    cases hb : Nat.beq x t
    · simp only [hb, cond_false] at h ⊢; exact find_none t fr _ h
    · simp [hb] at h
/-- A slot that is not among those bound since: what stands further back is what is told of it. -/
theorem find_rest (t d : Nat) : ∀ (fr : Fr) pre sv rest, find t fr [] = some (pre, sv, rest) → bound d pre = false → look1 d fr = look1 d rest
  | [], pre, sv, rest, h, _ => by simp [find] at h
  | (x, s) :: fr, pre, sv, rest, h, hb => by
    simp only [find] at h
    cases hx : Nat.beq x t
    · simp only [hx, cond_false] at h
      rw [find_acc] at h
      cases hf : find t fr [] with
      | none => simp [hf] at h
      | some p =>
        obtain ⟨p1, p2, p3⟩ := p
        simp only [hf, Option.map_some, Option.some.injEq, Prod.mk.injEq] at h
        obtain ⟨h1, rfl, rfl⟩ := h
        rw [← h1, bound_append, Bool.or_eq_false_iff] at hb
        have := bound_one hb.2
        simp only [look1, beq_false (Ne.symm this), cond_false]
        exact find_rest t d fr p1 p2 p3 hf hb.1
    · simp only [hx, cond_true, Option.some.injEq, Prod.mk.injEq] at h
      obtain ⟨h1, rfl, rfl⟩ := h
      rw [← h1] at hb
      have := bound_one hb
      simp only [look1, beq_false (Ne.symm this), cond_false]
theorem find_bound_self (t : Nat) : ∀ (fr : Fr) (acc : List (Nat × Bool)) pre sv rest, find t fr acc = some (pre, sv, rest) → bound t pre = true
  | [], acc, pre, sv, rest, h => by simp [find] at h
  | (x, s) :: fr, acc, pre, sv, rest, h => by
    simp only [find] at h
    cases hx : Nat.beq x t
    · simp only [hx, cond_false] at h; exact find_bound_self t fr _ _ _ _ h
    · simp only [hx, cond_true, Option.some.injEq, Prod.mk.injEq] at h
      rw [← h.1]; simp [bound, hx]

theorem remade_of_bound {d : Nat} : ∀ {pre : List (Nat × Bool)}, bound d pre = false → remade d pre = false
  | [], _ => rfl
  | (x, u) :: pre, h => by
    simp only [bound] at h
    simp only [remade]
    cases hb : Nat.beq x d
    · rw [hb, cond_false] at h; rw [cond_false]; exact remade_of_bound h
    · rw [hb, cond_true] at h; cases h
theorem RepF.alias0 {Pr : PM} {w : World} {fr : Fr} {ts : Array Value} {F : Nat → List Nat} (h : RepF Lz Pr w fr ts F) (t : Nat) (pre : List (Nat × Bool)) (d : Nat) (rest : Fr) (hf : find t fr [] = some (pre, .al d none, rest)) (hb : bound d pre = false) : ts.getD t undef = ts.getD d undef :=
  h.al0 t pre d rest hf (remade_of_bound hb)
/-- A new binding. -/
theorem RepF.rebind {Pr Pr' : PM} {w w' : World} {fr : Fr} {ts ts' : Array Value} {F : Nat → List Nat} {d : Nat} {sv : SV} {B : List Nat} (h : RepF Lz Pr w fr ts F)
    (hle : PrLe Pr Pr') (hk : ∀ t, t ≠ d → Keeps (F t) Pr w Pr' w')
    (hts : ∀ t, t ≠ d → ts'.getD t undef = ts.getD t undef) (hr : RepS Lz Pr' w' sv (ts'.getD d undef) B) (hn : B.Nodup) (ha : ∀ t, t ≠ d → ∀ b ∈ B, b ∉ F t)
    (hu : sv.isUpd = true → ts'.getD d undef = ts.getD d undef)
    (h0 : ∀ d', sv = .al d' none → d' ≠ d → ts'.getD d undef = ts.getD d' undef)
    (h1 : ∀ d' o, sv = .al d' (some o) → d' ≠ d → ∃ b c T, ts.getD d' undef = .pointer (some ⟨b, 0, none⟩) ∧ b ∈ F d' ∧ w'.heap[b]? = some (.cells c T (0, 0)) ∧ c[o]? = some (ts'.getD d undef))
    (h2 : ∀ d' o, sv = .ref d' o → d' ≠ d → ∃ b, ts.getD d' undef = .pointer (some ⟨b, 0, none⟩) ∧ ts'.getD d undef = .pointer (some ⟨b, o, none⟩)) (h3 : ∀ d' k, sv = .ow d' k → d' ≠ d → OWv k (ts.getD d' undef) (ts'.getD d undef) := by simp) :
    RepF Lz Pr' w' ((d, sv) :: fr) ts' (fun t => if t = d then B else F t) := by
  have key : ∀ t pre s rest, find t ((d, sv) :: fr) [] = some (pre, s, rest) → (t = d ∧ pre = [(d, sv.isUpd)] ∧ s = sv ∧ rest = fr) ∨
      (t ≠ d ∧ ∃ p1, find t fr [] = some (p1, s, rest) ∧ pre = p1 ++ [(d, sv.isUpd)]) := by
    intro t pre s rest hf
    simp only [find] at hf
    by_cases e : d = t
    · subst e
      simp at hf
      exact .inl ⟨rfl, hf.1.symm, hf.2.1.symm, hf.2.2.symm⟩
    · rw [beq_false e, cond_false, find_acc] at hf
      cases hg : find t fr [] with
      | none => simp [hg] at hf
      | some p =>
        obtain ⟨p1, p2, p3⟩ := p
        simp only [hg, Option.map_some, Option.some.injEq, Prod.mk.injEq] at hf
        obtain ⟨hf1, rfl, rfl⟩ := hf
        exact .inr ⟨Ne.symm e, p1, rfl, hf1.symm⟩
  refine ⟨?_, ?_, ?_, ?_, ?_, ?_, ?_⟩
  · intro t
    simp only [look1]
    by_cases e : t = d
    · subst e; simpa using hr
    · rw [beq_false (Ne.symm e), cond_false, if_neg e, hts t e]; exact RepS.mono hle _ _ _ (hk t e) (h.rep t)
  · intro t
    by_cases e : t = d
    · simpa [e] using hn
    · simpa [e] using h.nodup t
  · intro t t' ne b hb
    by_cases e : t = d
    · subst e
      simp only [if_true] at hb
      rw [if_neg (Ne.symm ne)]
      exact ha t' (Ne.symm ne) b hb
    · rw [if_neg e] at hb
      by_cases e' : t' = d
      · subst e'; simp only [if_true]; exact fun q => ha t e b q hb
      · rw [if_neg e']; exact h.apart t t' ne b hb
  · intro t pre d' rest hf hb
    rcases key t pre _ rest hf with ⟨rfl, rfl, hs, _⟩ | ⟨e, p1, hg, rfl⟩
    · have : d' ≠ t := by
        rcases remade_one hb with q | q
        · exact q
        · subst hs; simp [SV.isUpd] at q
      rw [h0 d' hs.symm this, hts d' this]
    · rw [remade_append, Bool.or_eq_false_iff] at hb
      have q0 := h.al0 t p1 d' rest hg hb.1
      rw [hts t e, q0]
      by_cases e' : d' = d
      · subst e'
        rcases remade_one hb.2 with q | q
        · exact absurd rfl q
        · rw [hu q]
      · rw [hts d' e']
  · intro t pre d' o rest hf hb
    rcases key t pre _ rest hf with ⟨rfl, rfl, hs, _⟩ | ⟨e, p1, hg, rfl⟩
    · have := bound_one hb
      obtain ⟨b, c, T, q1, q2, q3, q4⟩ := h1 d' o hs.symm this
      exact ⟨b, c, T, by rw [hts d' this]; exact q1, by rw [if_neg this]; exact q2, q3, q4⟩
    · rw [bound_append, Bool.or_eq_false_iff] at hb
      have := bound_one hb.2
      obtain ⟨b, c, T, q1, q2, q3, q4⟩ := h.alias1 t p1 d' o rest hg hb.1
      exact ⟨b, c, T, by rw [hts d' this]; exact q1, by rw [if_neg this]; exact q2, ((hk d' this) b q2).1.trans q3, by rw [hts t e]; exact q4⟩
  · intro t pre d' k rest hf hb
    rcases key t pre _ rest hf with ⟨rfl, rfl, hs, _⟩ | ⟨e, p1, hg, rfl⟩
    · have := bound_one hb
      rw [hts d' this]
      exact h3 d' k hs.symm this
    · rw [bound_append, Bool.or_eq_false_iff] at hb
      have := bound_one hb.2
      rw [hts t e, hts d' this]
      exact h.own t p1 d' k rest hg hb.1
  · intro t pre d' o rest hf hb
    rcases key t pre _ rest hf with ⟨rfl, rfl, hs, _⟩ | ⟨e, p1, hg, rfl⟩
    · have hd' : d' ≠ t := by
        rcases remade_one hb with q | q
        · exact q
        · subst hs; simp [SV.isUpd] at q
      obtain ⟨b, q1, q2⟩ := h2 d' o hs.symm hd'
      exact ⟨b, by rw [hts d' hd']; exact q1, q2⟩
    · rw [remade_append, Bool.or_eq_false_iff] at hb
      obtain ⟨b, q1, q2⟩ := h.ref t p1 d' o rest hg hb.1
      refine ⟨b, ?_, by rw [hts t e]; exact q2⟩
      by_cases e' : d' = d
      · subst e'
        rcases remade_one hb.2 with q | q
        · exact absurd rfl q
        · rw [hu q]; exact q1
      · rw [hts d' e']; exact q1

theorem RepF.bind {Pr : PM} {w : World} {fr : Fr} {ts ts' : Array Value} {F : Nat → List Nat} {d : Nat} {sv : SV} {B : List Nat} (h : RepF Lz Pr w fr ts F)
    (hts : ∀ t, t ≠ d → ts'.getD t undef = ts.getD t undef) (hr : RepS Lz Pr w sv (ts'.getD d undef) B) (hn : B.Nodup) (ha : ∀ t, t ≠ d → ∀ b ∈ B, b ∉ F t)
    (hu : sv.isUpd = true → ts'.getD d undef = ts.getD d undef)
    (h0 : ∀ d', sv = .al d' none → d' ≠ d → ts'.getD d undef = ts.getD d' undef)
    (h1 : ∀ d' o, sv = .al d' (some o) → d' ≠ d → ∃ b c T, ts.getD d' undef = .pointer (some ⟨b, 0, none⟩) ∧ b ∈ F d' ∧ w.heap[b]? = some (.cells c T (0, 0)) ∧ c[o]? = some (ts'.getD d undef))
    (h2 : ∀ d' o, sv = .ref d' o → d' ≠ d → ∃ b, ts.getD d' undef = .pointer (some ⟨b, 0, none⟩) ∧ ts'.getD d undef = .pointer (some ⟨b, o, none⟩)) (h3 : ∀ d' k, sv = .ow d' k → d' ≠ d → OWv k (ts.getD d' undef) (ts'.getD d undef) := by simp) :
    RepF Lz Pr w ((d, sv) :: fr) ts' (fun t => if t = d then B else F t) :=
  h.rebind (PrLe.refl _) (fun _ _ _ _ => ⟨rfl, fun _ => rfl⟩) hts hr hn ha hu h0 h1 h2 h3

/-- Nothing is told of it any more than a plain value. -/
theorem RepF.plain {Pr : PM} {w : World} {fr : Fr} {ts ts' : Array Value} {F : Nat → List Nat} {d : Nat} {sv : SV} (h : RepF Lz Pr w fr ts F)
    (hts : ∀ t, t ≠ d → ts'.getD t undef = ts.getD t undef) (hr : RepS Lz Pr w sv (ts'.getD d undef) [])
    (hk : sv.isUpd = false) (h0 : ∀ d' o, sv ≠ .al d' o) (h2 : ∀ d' o, sv ≠ .ref d' o) (h3 : ∀ d' k, sv ≠ .ow d' k := by simp) :
    RepF Lz Pr w ((d, sv) :: fr) ts' (fun t => if t = d then [] else F t) :=
  h.bind hts hr List.nodup_nil (fun _ _ b hb => by simp at hb) (fun q => by rw [hk] at q; cases q) (fun d' q => absurd q (h0 d' none)) (fun d' o q => absurd q (h0 d' (some o))) (fun d' o q => absurd q (h2 d' o)) (fun d' k q => absurd q (h3 d' k))

theorem RepD.unNl {Pr : PM} : ∀ {d : D} {v : Value}, RepD Pr d v → RepD Pr (Lg.unNl d) v
  | .int _ _, _, h => h
  | .bool _, _, h => h
  | .str _, _, h => h
  | .sl _ _, _, h => h
  | .mp _ _ _ _, _, h => h
  | .nl es, v, h => by
    simp only [RepD] at h
    simp only [Lg.unNl, RepD, RepC]
    exact ⟨none, 0, 0, h, rfl, Nat.le_refl _, by simp⟩
theorem RepDs.unNl {Pr : PM} : ∀ {cs : List D} {vs : List Value}, RepDs Pr cs vs → RepDs Pr (cs.map Lg.unNl) vs
  | [], [], _ => trivial
  | _ :: _, _ :: _, h => ⟨h.1.unNl, RepDs.unNl h.2⟩
  | [], _ :: _, h => by simp [RepDs] at h
  | _ :: _, [], h => by simp [RepDs] at h
theorem addr0 (p : Option Addr) : p.map (·.add 0) = p := by
  cases p with
  | none => rfl
  | some p => simp [Addr.add]
/-- What a part of a slice is, by the whole. -/
theorem view_sound {Pr : PM} {w : World} {fr : Fr} {ts : Array Value} {F : Nat → List Nat} (h : RepF Lz Pr w fr ts F) {s d lo hi : Nat} {es : List Sh} {l : List (RowE es)} (hv : view s fr = some (d, lo, hi, ⟨es, l⟩)) :
    look1 d fr = .own es l ∧ OWv (.sub es.length lo hi) (ts.getD d undef) (ts.getD s undef) ∧ hi ≤ l.length ∧ ∃ p cap, ts.getD d undef = .slice p l.length cap ∧ l.length ≤ cap ∧ (l ≠ [] → ∃ b off, p = some ⟨b, off, none⟩) := by
  have val : ∀ d, look1 d fr = .own es l → ∃ p cap, ts.getD d undef = .slice p l.length cap ∧ l.length ≤ cap ∧ (l ≠ [] → ∃ b off, p = some ⟨b, off, none⟩) := by
    intro d hl
    have hr := h.rep d
    rw [hl] at hr
    simp only [RepS] at hr
    rcases hr with ⟨h1, h2, _⟩ | ⟨b, off, cap, c, T, vss, h1, _, _, h3, _⟩
    · exact ⟨none, 0, by rw [h1, h2]; rfl, by rw [h2]; exact Nat.le_refl _, fun q => absurd h2 q⟩
    · exact ⟨_, _, h1, h3, fun _ => ⟨_, _, rfl⟩⟩
  have whole : ∀ d, look1 d fr = .own es l → OWv (.sub es.length 0 l.length) (ts.getD d undef) (ts.getD d undef) := by
    intro d hl
    obtain ⟨p, cap, hp, _⟩ := val d hl
    refine ⟨p, l.length, cap, hp, Nat.zero_le _, Nat.le_refl _, ?_⟩
    rw [hp, Nat.zero_mul, addr0]
    simp
  unfold view at hv
  split at hv
  · rename_i pre es' l' rest hf
    have hl := find_look s fr [] _ _ _ hf
    simp only [Option.some.injEq, Prod.mk.injEq] at hv
    obtain ⟨rfl, rfl, rfl, hv⟩ := hv
    cases hv
    exact ⟨hl, whole _ hl, Nat.le_refl _, val _ hl⟩
  · rename_i pre d' rest hf
    cases hb : bound d' pre
    · rw [hb, cond_false] at hv
      have hl0 := find_rest s d' fr pre _ rest hf hb
      split at hv
      · rename_i es' l' hl
        simp only [Option.some.injEq, Prod.mk.injEq] at hv
        obtain ⟨rfl, rfl, rfl, hv⟩ := hv
        cases hv
        rw [hl] at hl0
        rw [h.alias0 s pre d' rest hf hb]
        exact ⟨hl0, whole _ hl0, Nat.le_refl _, val _ hl0⟩
      · cases hv
    · rw [hb, cond_true] at hv; cases hv
  · rename_i pre d' n lo' hi' rest hf
    cases hb : bound d' pre
    · rw [hb, cond_false] at hv
      have hl0 := find_rest s d' fr pre _ rest hf hb
      split at hv
      · rename_i es' l' hl
        cases hn : Nat.beq n es'.length
        · rw [hn, cond_false] at hv; cases hv
        · rw [hn, cond_true] at hv
          have hn := Nat.eq_of_beq_eq_true hn
          simp only [Option.some.injEq, Prod.mk.injEq] at hv
          obtain ⟨rfl, rfl, rfl, hv⟩ := hv
          cases hv
          rw [hl] at hl0
          have ho := h.own s pre d' _ rest hf hb
          rw [hn] at ho
          obtain ⟨p, cap, hp, hp2⟩ := val _ hl0
          refine ⟨hl0, ho, ?_, p, cap, hp, hp2⟩
          obtain ⟨p', len, cap', q1, _, q3, _⟩ := ho
          rw [hp] at q1
          simp only [Value.slice.injEq] at q1
          omega
      · cases hv
    · rw [hb, cond_true] at hv; cases hv
  · cases hv
theorem rowAt_sound {Pr : PM} {w : World} {fr : Fr} {ts : Array Value} {F : Nat → List Nat} (h : RepF Lz Pr w fr ts F) {s : Nat} {cs : List D} (hv : rowAt s fr = some cs) :
    ∃ (d i o : Nat) (es : List Sh) (l : List (RowE es)), cs = (rowD es (getR es l (i : Int))).drop o ∧ look1 d fr = .own es l ∧ OWv (.at es.length i o) (ts.getD d undef) (ts.getD s undef) := by
  unfold rowAt at hv
  split at hv
  · rename_i pre d n i o rest hf
    cases hb : bound d pre
    · rw [hb, cond_false] at hv
      have hl0 := find_rest s d fr pre _ rest hf hb
      split at hv
      · rename_i es l hl
        cases hn : Nat.beq n es.length
        · rw [hn, cond_false] at hv; cases hv
        · rw [hn, cond_true] at hv
          have hn := Nat.eq_of_beq_eq_true hn
          cases hv
          have ho := h.own s pre d _ rest hf hb
          rw [hn] at ho
          exact ⟨d, i, o, es, l, rfl, hl0.trans hl, ho⟩
      · cases hv
    · rw [hb, cond_true] at hv; cases hv
  · cases hv
theorem viewO_tmp {fr : Fr} {x : Operand} {v : Nat × Nat × Nat × ((es : List Sh) × List (RowE es))} (h : viewO fr x = some v) : ∃ s, x = .tmp s ∧ view s fr = some v := by
  cases x with
  | tmp s => exact ⟨s, rfl, h⟩
  | _ => simp [viewO] at h
/-- Reading a slot. -/
theorem RepS.av {Pr : PM} {w : World} {sv : SV} {v : Value} {B : List Nat} {x : AV} (h : RepS Lz Pr w sv v B) (hx : sv.av = some x) : RepA Pr x v := by
  cases sv with
  | val a => simp only [SV.av, Option.some.injEq] at hx; subst hx; simp only [RepS] at h; exact h.1
  | app es l =>
    simp only [SV.av, Option.some.injEq] at hx; subst hx
    simp only [RepS] at h
    simp only [RepA, RepD, RepC]
    rcases h with ⟨rfl, rfl, _⟩ | ⟨b, off, cap, c, T, rfl, _, _, h1, _, h3, _⟩
    · exact ⟨none, 0, 0, rfl, rfl, Nat.le_refl _, .inl rfl⟩
    · exact ⟨_, _, _, rfl, rfl, h1, .inr ⟨b, off, rfl, h3⟩⟩
  | «at» cs =>
    simp only [SV.av, Option.some.injEq] at hx; subst hx
    simp only [RepS] at h
    simp only [RepA]
    exact h.1
  | bld cs =>
    simp only [SV.av, Option.some.injEq] at hx; subst hx
    simp only [RepS] at h
    obtain ⟨⟨c, hv, q⟩, _⟩ := h
    simp only [RepA]
    exact ⟨c, hv, q.unNl⟩
  | _ => simp [SV.av] at hx

theorem RepSs.cell {Pr : PM} {w : World} : ∀ (cs : List SV) (vs : List Value) (Bs : List (List Nat)), RepSs Lz Pr w cs vs Bs → ∀ o v, vs[o]? = some v → ∃ B, Bs[o]? = some B ∧ cs[o]? = some (cellAt o cs) ∧ RepS Lz Pr w (cellAt o cs) v B
  | [], [], [], _, o, v, hv => by simp at hv
  | s :: ss, v' :: vs, B :: Bs, q, o, v, hv => by
    simp only [RepSs] at q
    cases o with
    | zero => simp at hv; subst hv; exact ⟨B, rfl, rfl, q.1⟩
    | succ o =>
      obtain ⟨B', h1, h2, h3⟩ := RepSs.cell ss vs Bs q.2 o v (by simpa using hv)
      exact ⟨B', by simpa using h1, by simpa [cellAt] using h2, h3⟩
  | [], _ :: _, _, q, _, _, _ => by simp [RepSs] at q
  | _ :: _, [], _, q, _, _, _ => by simp [RepSs] at q
  | [], [], _ :: _, q, _, _, _ => by simp [RepSs] at q
  | _ :: _, _ :: _, [], q, _, _, _ => by simp [RepSs] at q
theorem RepSs.length {Pr : PM} {w : World} : ∀ (cs : List SV) (vs : List Value) (Bs : List (List Nat)), RepSs Lz Pr w cs vs Bs → vs.length = cs.length ∧ Bs.length = cs.length
  | [], [], [], _ => by simp
  | s :: ss, v' :: vs, B :: Bs, q => by
    simp only [RepSs] at q
    have := RepSs.length ss vs Bs q.2
    simp [this.1, this.2]
  | [], _ :: _, _, q => by simp [RepSs] at q
  | _ :: _, [], _, q => by simp [RepSs] at q
  | [], [], _ :: _, q => by simp [RepSs] at q
  | _ :: _, _ :: _, [], q => by simp [RepSs] at q

/-- What is told of a slot when aliases are resolved. -/
theorem rdSV_sound {Pr : PM} {w : World} {fr : Fr} {ts : Array Value} {F : Nat → List Nat} (h : RepF Lz Pr w fr ts F) (t : Nat) :
    ∃ B, (∀ b ∈ B, ∃ d, b ∈ F d) ∧ RepS Lz Pr w (rdSV t fr) (ts.getD t undef) B := by
  unfold rdSV
  cases hf : find t fr [] with
  | none => exact ⟨[], by simp, by simp [RepS]⟩
  | some p =>
    obtain ⟨pre, sv, rest⟩ := p
    have hl := find_look t fr [] pre sv rest hf
    have hr := h.rep t
    rw [hl] at hr
    cases sv with
    | al d off =>
      simp only
      cases hb : bound d pre
      · simp only [cond_false]
        have hrest := find_rest t d fr pre _ rest hf hb
        cases off with
        | none =>
          simp only
          have hd := h.rep d
          rw [hrest] at hd
          rw [h.alias0 t pre d rest hf hb]
          exact ⟨F d, fun b hb => ⟨d, hb⟩, hd⟩
        | some o =>
          have hd := h.rep d
          rw [hrest] at hd
          cases hx : look1 d rest with
          | box nw cs =>
            simp only
            rw [hx] at hd
            simp only [RepS] at hd
            obtain ⟨b, c, T, Bs, hv, hb', _, hB, hss⟩ := hd
            obtain ⟨b2, c2, T2, q1, q2, q3, q4⟩ := h.alias1 t pre d o rest hf hb
            rw [hv] at q1
            simp at q1; subst q1
            rw [hb'] at q3
            simp at q3
            obtain ⟨rfl, rfl⟩ := q3
            obtain ⟨B, h1, _, h3⟩ := RepSs.cell cs c.toList Bs hss o (ts.getD t undef) (by rw [← q4]; simp)
            exact ⟨B, fun x hx => ⟨d, by rw [hB]; exact List.mem_cons_of_mem _ (List.mem_flatten.2 ⟨B, List.mem_of_getElem? h1, hx⟩)⟩, h3⟩
          | _ => exact ⟨[], by simp, by simp [RepS]⟩
      · exact ⟨[], by simp, by simp [RepS]⟩
    | _ => exact ⟨F t, fun b hb => ⟨t, hb⟩, hr⟩

theorem rd_sound {Pr : PM} {w : World} {fr : Fr} {ts : Array Value} {F : Nat → List Nat} (h : RepF Lz Pr w fr ts F) {t : Nat} {v : AV} (hv : rd t fr = some v) : RepA Pr v (ts.getD t undef) := by
  obtain ⟨B, _, q⟩ := rdSV_sound h t
  exact q.av hv

theorem constAV_sound (Pr : PM) {c : Value} {v : AV} (h : constAV c = some v) : RepA Pr v c := by
  cases c with
  | bool b => simp only [constAV, Option.some.injEq] at h; subst h; simp [RepA, RepD]
  | int k n => simp only [constAV, Option.some.injEq] at h; subst h; simp [RepA, RepD]
  | string s => simp only [constAV, Option.some.injEq] at h; subst h; simp [RepA, RepD]
  | _ => simp [constAV] at h

theorem rdO_sound {Pr : PM} {w : World} {fr : Fr} {a : Act} {F : Nat → List Nat} (h : RepF Lz Pr w fr a.tmps F) {x : Operand} {v : AV} (hv : rdO fr x = some v) : RepA Pr v (a.eval x) := by
  cases x with
  | tmp t => exact rd_sound h hv
  | const c => exact constAV_sound Pr hv
  | func g =>
    simp only [rdO, Option.some.injEq] at hv; subst hv
    simp only [RepA]
    exact ⟨#[], rfl, by simp [RepAs]⟩
  | _ => simp [rdO] at hv
end Go.Proofs.Ytgcjhcefpkbheaa.Lg
end

section
namespace Go.Proofs.Ytgcjhcefpkbheaa.Lg
open Go
variable {Lz : PM}

/-! ### Rows of values -/
theorem RowVals.length {Pr : PM} : ∀ (es : List Sh) (r : RowE es) (vs : List Value), RowVals Pr es r vs → vs.length = es.length
  | [], _, [], _ => rfl
  | e :: es, r, v :: vs, h => by simp only [RowVals] at h; simp [RowVals.length es r.2 vs h.2]
  | [], _, _ :: _, h => by simp [RowVals] at h
  | _ :: _, _, [], h => by simp [RowVals] at h
theorem RowsVals.length {Pr : PM} {es : List Sh} : ∀ (l : List (RowE es)) (vss : List (List Value)), RowsVals Pr es l vss → vss.flatten.length = l.length * es.length
  | [], [], _ => by simp
  | r :: l, vs :: vss, h => by
    simp only [RowsVals] at h
    simp only [List.flatten_cons, List.length_append, RowVals.length es r vs h.1, RowsVals.length l vss h.2, List.length_cons, Nat.succ_mul]
    omega
  | [], _ :: _, h => by simp [RowsVals] at h
  | _ :: _, [], h => by simp [RowsVals] at h
theorem RowsVals.append {Pr : PM} {es : List Sh} : ∀ (l : List (RowE es)) (vss : List (List Value)) (m : List (RowE es)) (uss : List (List Value)), RowsVals Pr es l vss → RowsVals Pr es m uss → RowsVals Pr es (l ++ m) (vss ++ uss)
  | [], [], _, _, _, k => k
  | r :: l, vs :: vss, m, uss, h, k => by simp only [RowsVals] at h; exact ⟨h.1, RowsVals.append l vss m uss h.2 k⟩
  | [], _ :: _, _, _, h, _ => by simp [RowsVals] at h
  | _ :: _, [], _, _, h, _ => by simp [RowsVals] at h

theorem RepRow.vals {Pr : PM} : ∀ (es : List Sh) (r : RowE es) (b o : Nat), RepRow Pr es r b o → ∃ vs, RowVals Pr es r vs ∧ ∀ j v, vs[j]? = some v → Pr b (o + j) = some v
  | [], _, _, _, _ => ⟨[], trivial, by simp⟩
  | e :: es, r, b, o, h => by
    simp only [RepRow] at h
    obtain ⟨⟨v, hv, hc⟩, k⟩ := h
    obtain ⟨vs, h1, h2⟩ := RepRow.vals es r.2 b (o + 1) k
    refine ⟨v :: vs, ⟨hc, h1⟩, fun j u hj => ?_⟩
    cases j with
    | zero => simp at hj; subst hj; simpa using hv
    | succ j => have := h2 j u (by simpa using hj); rw [show o + (j + 1) = o + 1 + j by omega]; exact this
theorem RowVals.row {Pr : PM} : ∀ (es : List Sh) (r : RowE es) (vs : List Value) (b o : Nat), RowVals Pr es r vs → (∀ j v, vs[j]? = some v → Pr b (o + j) = some v) → RepRow Pr es r b o
  | [], _, [], _, _, _, _ => by simp [RepRow]
  | e :: es, r, v :: vs, b, o, h, k => by
    simp only [RowVals] at h
    simp only [RepRow]
    refine ⟨⟨v, by simpa using k 0 v rfl, h.1⟩, RowVals.row es r.2 vs b (o + 1) h.2 fun j u hj => ?_⟩
    have := k (j + 1) u (by simpa using hj)
    rw [show o + 1 + j = o + (j + 1) by omega]; exact this
  | [], _, _ :: _, _, _, h, _ => by simp [RowVals] at h
  | _ :: _, _, [], _, _, h, _ => by simp [RowVals] at h

/-- A slice's rows as values. -/
theorem rows_vals {Pr : PM} {es : List Sh} {b : Nat} : ∀ (l : List (RowE es)) (off : Nat), (∀ i x, l[i]? = some x → RepRow Pr es x b (off + i * es.length)) →
    ∃ vss, RowsVals Pr es l vss ∧ ∀ j v, vss.flatten[j]? = some v → Pr b (off + j) = some v
  | [], _, _ => ⟨[], trivial, by simp⟩
  | r :: l, off, h => by
    obtain ⟨vs, h1, h2⟩ := RepRow.vals es r b off (by simpa using h 0 r rfl)
    obtain ⟨vss, k1, k2⟩ := rows_vals l (off + es.length) (fun i x hi => by have := h (i + 1) x (by simpa using hi); rw [Nat.succ_mul] at this; rw [show off + es.length + i * es.length = off + (i * es.length + es.length) by omega]; exact this)
    have hl := RowVals.length es r vs h1
    refine ⟨vs :: vss, ⟨h1, k1⟩, fun j v hj => ?_⟩
    rw [List.flatten_cons] at hj
    by_cases hjl : j < vs.length
    · rw [List.getElem?_append_left hjl] at hj; exact h2 j v hj
    · rw [List.getElem?_append_right (by omega)] at hj
      have := k2 (j - vs.length) v hj
      rw [show off + es.length + (j - vs.length) = off + j by omega] at this; exact this
theorem vals_rows {Pr : PM} {es : List Sh} {b : Nat} : ∀ (l : List (RowE es)) (vss : List (List Value)) (off : Nat), RowsVals Pr es l vss → (∀ j v, vss.flatten[j]? = some v → Pr b (off + j) = some v) →
    ∀ i x, l[i]? = some x → RepRow Pr es x b (off + i * es.length)
  | [], _, _, _, _, i, x, hi => by simp at hi
  | r :: l, vs :: vss, off, h, k, i, x, hi => by
    simp only [RowsVals] at h
    have hl := RowVals.length es r vs h.1
    cases i with
    | zero =>
      simp at hi; subst hi
      refine RowVals.row es r vs b _ h.1 fun j v hj => ?_
      have hjl : j < vs.length := (List.getElem?_eq_some_iff.1 hj).1
      have := k j v (by rw [List.flatten_cons, List.getElem?_append_left hjl]; exact hj)
      simpa using this
    | succ i =>
      have := vals_rows l vss (off + es.length) h.2 (fun j v hj => by
        have := k (vs.length + j) v (by rw [List.flatten_cons, List.getElem?_append_right (by omega), Nat.add_sub_cancel_left]; exact hj)
        rw [hl] at this; rw [Nat.add_assoc]; exact this) i x (by simpa using hi)
      rw [Nat.succ_mul]; rw [show off + (i * es.length + es.length) = off + es.length + i * es.length by omega]; exact this
  | _ :: _, [], _, h, _, _, _, _ => by simp [RowsVals] at h

theorem RepC.one {Pr : PM} : ∀ (e : Sh) (x : CE e) (v : Value), RepC Pr e x v → v.oneCell' = true
  | .int _, _, _, h => by simp only [RepC] at h; subst h; rfl
  | .bool, _, _, h => by simp only [RepC] at h; subst h; rfl
  | .str, _, _, h => by simp only [RepC] at h; subst h; rfl
  | .sl _, _, _, h => by simp only [RepC] at h; obtain ⟨_, _, _, rfl, _⟩ := h; rfl
  | .mp _ _ _, _, _, h => by
    simp only [RepC] at h
    rcases h with ⟨rfl, _⟩ | ⟨_, _, _, rfl, _⟩ <;> rfl
theorem RepD.one {Pr : PM} {x : D} {v : Value} (h : RepD Pr x v) : v.oneCell' = true := by
  cases x with
  | int k n => simp only [RepD] at h; subst h; rfl
  | bool b => simp only [RepD] at h; subst h; rfl
  | str s => simp only [RepD] at h; subst h; rfl
  | sl es l => exact RepC.one (.sl es) l v h
  | nl es => simp only [RepD] at h; subst h; rfl
  | mp k b es m => exact RepC.one (.mp k b es) m v h
theorem one_tup {v : Value} (h : v.oneCell' = true) : isTup v = false := by
  cases v <;> first | rfl | cases h
theorem RepC.tup {Pr : PM} {e : Sh} {x : CE e} {v : Value} (h : RepC Pr e x v) : isTup v = false := one_tup h.one
theorem RepD.tup {Pr : PM} {x : D} {v : Value} (h : RepD Pr x v) : isTup v = false := one_tup h.one
theorem RowVals.one {Pr : PM} : ∀ (es : List Sh) (r : RowE es) (vs : List Value), RowVals Pr es r vs → ∀ v ∈ vs, v.oneCell' = true
  | [], _, [], _ => by simp
  | e :: es, r, v :: vs, h => by
    simp only [RowVals] at h
    intro u hu
    rcases List.mem_cons.1 hu with rfl | hu
    · exact RepC.one _ _ _ h.1
    · exact RowVals.one es r.2 vs h.2 u hu
  | [], _, _ :: _, h => by simp [RowVals] at h
  | _ :: _, _, [], h => by simp [RowVals] at h
theorem RowsVals.one {Pr : PM} {es : List Sh} : ∀ (l : List (RowE es)) (vss : List (List Value)), RowsVals Pr es l vss → ∀ v ∈ vss.flatten, v.oneCell' = true
  | [], [], _ => by simp
  | r :: l, vs :: vss, h => by
    simp only [RowsVals] at h
    intro v hv
    simp only [List.flatten_cons, List.mem_append] at hv
    rcases hv with hv | hv
    · exact RowVals.one es r vs h.1 v hv
    · exact RowsVals.one l vss h.2 v hv
  | [], _ :: _, h => by simp [RowsVals] at h
  | _ :: _, [], h => by simp [RowsVals] at h

theorem toD_rep {Pr : PM} : ∀ (e : Sh) (x : CE e) (v : Value), RepC Pr e x v → RepD Pr (toD e x) v
  | .int _, _, _, h => h
  | .bool, _, _, h => h
  | .str, _, _, h => h
  | .sl _, _, _, h => h
  | .mp _ _ _, _, _, h => h
theorem rowD_rep {Pr : PM} : ∀ (es : List Sh) (r : RowE es) (b o : Nat), RepRow Pr es r b o → ∀ j x, (rowD es r)[j]? = some x → ∃ u, Pr b (o + j) = some u ∧ RepD Pr x u
  | [], _, _, _, _, j, x, hj => by simp [rowD] at hj
  | e :: es, r, b, o, h, j, x, hj => by
    simp only [RepRow] at h
    cases j with
    | zero => simp [rowD] at hj; subst hj; obtain ⟨⟨v, hv, hc⟩, _⟩ := h; exact ⟨v, by simpa using hv, toD_rep _ _ _ hc⟩
    | succ j =>
      obtain ⟨u, h1, h2⟩ := rowD_rep es r.2 b (o + 1) h.2 j x (by simpa [rowD] using hj)
      exact ⟨u, by rw [show o + (j + 1) = o + 1 + j by omega]; exact h1, h2⟩

theorem ofD_rep {Pr : PM} : ∀ (e : Sh) (x : D) (y : CE e) (v : Value), ofD e x = some y → RepD Pr x v → RepC Pr e y v := by
  intro e x y v h hr
  cases e <;> cases x <;> simp only [ofD] at h <;> try (cases h; done)
  · rename_i k k' n
    split at h
    · rename_i hk; subst hk; cases h; exact hr
    · cases h
  · cases h; exact hr
  · cases h; exact hr
  · rename_i es es' l
    split at h
    · rename_i hq hh; subst hq; cases h; exact hr
    · cases h
  · rename_i k b es k' b' es' m
    split at h
    · rename_i hq hh; cases hq; cases h; exact hr
    · cases h
theorem ofDs_vals {Pr : PM} : ∀ (es : List Sh) (ds : List D) (r : RowE es) (vs : List Value), ofDs es ds = some r → RepDs Pr ds vs → RowVals Pr es r vs
  | [], [], _, [], _, _ => trivial
  | [], [], _, _ :: _, _, q => by simp [RepDs] at q
  | [], _ :: _, _, _, h, _ => by simp [ofDs] at h
  | _ :: _, [], _, _, h, _ => by simp [ofDs] at h
  | e :: es, d :: ds, r, [], _, q => by simp [RepDs] at q
  | e :: es, d :: ds, r, v :: vs, h, q => by
    simp only [ofDs] at h
    cases h1 : ofD e d with
    | none => simp [h1] at h
    | some x =>
      cases h2 : ofDs es ds with
      | none => simp [h1, h2] at h
      | some r' =>
        simp only [h1, h2, Option.some.injEq] at h
        subst h
        simp only [RepDs] at q
        exact ⟨ofD_rep e d x v h1 q.1, ofDs_vals es ds r' vs h2 q.2⟩

theorem RepDs.length {Pr : PM} : ∀ (ds : List D) (vs : List Value), RepDs Pr ds vs → vs.length = ds.length
  | [], [], _ => rfl
  | _ :: ds, _ :: vs, h => by simp only [RepDs] at h; simp [RepDs.length ds vs h.2]
  | [], _ :: _, h => by simp [RepDs] at h
  | _ :: _, [], h => by simp [RepDs] at h
theorem RepDs.get {Pr : PM} : ∀ (ds : List D) (vs : List Value), RepDs Pr ds vs → ∀ (j : Nat) (d : D) (v : Value), ds[j]? = some d → vs[j]? = some v → RepD Pr d v
  | d :: ds, v :: vs, h, 0, d', v', hd, hv => by simp at hd hv; subst hd; subst hv; exact h.1
  | d :: ds, v :: vs, h, j + 1, d', v', hd, hv => RepDs.get ds vs h.2 j d' v' (by simpa using hd) (by simpa using hv)
  | [], _, _, _, _, _, hd, _ => by simp at hd
  | _ :: _, [], _, _, _, _, _, hv => by simp at hv
theorem RepDs.of_get {Pr : PM} : ∀ (ds : List D) (vs : List Value), vs.length = ds.length → (∀ (j : Nat) (d : D) (v : Value), ds[j]? = some d → vs[j]? = some v → RepD Pr d v) → RepDs Pr ds vs
  | [], [], _, _ => trivial
  | d :: ds, v :: vs, hl, h => ⟨h 0 d v rfl rfl, RepDs.of_get ds vs (by simpa using hl) fun j d' v' hd hv => h (j + 1) d' v' (by simpa using hd) (by simpa using hv)⟩
  | [], _ :: _, hl, _ => by simp at hl
  | _ :: _, [], hl, _ => by simp at hl
theorem RepDs.one {Pr : PM} : ∀ (ds : List D) (vs : List Value), RepDs Pr ds vs → ∀ v ∈ vs, v.oneCell' = true
  | [], [], _ => by simp
  | d :: ds, v :: vs, h => by
    intro u hu
    rcases List.mem_cons.1 hu with rfl | hu
    · exact h.1.one
    · exact RepDs.one ds vs h.2 u hu
  | [], _ :: _, h => by simp [RepDs] at h
  | _ :: _, [], h => by simp [RepDs] at h

/-! ### New blocks -/
def prExt (Pr : PM) (b lo : Nat) (us : List Value) : PM := fun b' o => if b' = b ∧ lo ≤ o ∧ o < lo + us.length then us[o - lo]? else Pr b' o
theorem prExt_le {Pr : PM} {b lo : Nat} {us : List Value} (h : ∀ o, lo ≤ o → Pr b o = none) : PrLe Pr (prExt Pr b lo us) := by
  intro b' o v hv
  simp only [prExt]
  split
  · rename_i hc
    obtain ⟨rfl, h1, _⟩ := hc
    rw [h o h1] at hv; cases hv
  · exact hv
theorem prExt_at {Pr : PM} {b lo : Nat} {us : List Value} {j : Nat} {v : Value} (h : us[j]? = some v) : prExt Pr b lo us b (lo + j) = some v := by
  have hj := (List.getElem?_eq_some_iff.1 h).1
  simp only [prExt]
  rw [if_pos ⟨trivial, by omega, by omega⟩, Nat.add_sub_cancel_left]; exact h
theorem prExt_other {Pr : PM} {b lo : Nat} {us : List Value} {b' : Nat} (h : b' ≠ b) (o : Nat) : prExt Pr b lo us b' o = Pr b' o := by
  simp only [prExt]; rw [if_neg (fun q => h q.1)]
theorem PrOK.new {Pr : PM} {w : World} (h : PrOK Pr w) (o : Nat) : Pr w.heap.size o = none := by
  cases hp : Pr w.heap.size o with
  | none => rfl
  | some v => have := h _ _ _ hp; simp [cellX, World.cell?] at this

theorem cell_cells {w : World} {b : Nat} {c : Array Value} {T : TypeId} {f : Nat × Nat} (h : w.heap[b]? = some (.cells c T f)) (o : Nat) : w.cell? ⟨b, o, none⟩ = c[o]? := by
  simp [World.cell?, h]

theorem PrOK.push {Pr : PM} {w : World} (h : PrOK Pr w) (ob : Obj) : PrOK Pr { w with heap := w.heap.push ob } := by
  intro b o v hv
  have := h b o v hv
  simp only [cellX, World.cell?] at this ⊢
  by_cases hb : b < w.heap.size
  · rw [Array.getElem?_push, if_neg (by omega)]; exact this
  · rw [Array.getElem?_eq_none (by omega)] at this; cases this
theorem cellX_cells {w : World} {b : Nat} {c : Array Value} {T : TypeId} {f : Nat × Nat} (h : w.heap[b]? = some (.cells c T f)) (o : Nat) : cellX w b o = (c[o]?).bind fun v => if isTup v = true then none else some v := by
  simp [cellX, World.cell?, h]
theorem keeps_push {Pr : PM} {w : World} {ob : Obj} {B : List Nat} (h : ∀ b ∈ B, b < w.heap.size) : Keeps B Pr w Pr { w with heap := w.heap.push ob } := by
  intro b hb
  have := h b hb
  exact ⟨by simp only [Array.getElem?_push]; rw [if_neg (by omega)], fun _ => rfl⟩
theorem Ext.push (A : Nat → Prop) (Pr : PM) (w : World) (ob : Obj) : Ext A Pr w Pr { w with heap := w.heap.push ob } :=
  ⟨rfl, rfl, rfl, by simp, PrLe.refl _, fun b hb _ => ⟨by simp only [Array.getElem?_push]; rw [if_neg (by omega)], fun _ => rfl⟩, Nat.le_refl _⟩
theorem Ext.pr {A : Nat → Prop} {Pr Pr' : PM} {w w' : World} (h : Ext A Pr w Pr w') (hle : PrLe Pr Pr') (hb : ∀ b, b < w.heap.size → ¬ A b → ∀ o, Pr' b o = Pr b o) : Ext A Pr w Pr' w' :=
  ⟨h.os, h.tape, h.output, h.size, hle, fun b hl hn => ⟨(h.block b hl hn).1, hb b hl hn⟩, h.dr⟩
theorem Ext.drew {A : Nat → Prop} {Pr Pr' : PM} {w w' : World} (h : Ext A Pr w Pr' w') {n : Nat} (hn : w'.drawn ≤ n) : Ext A Pr w Pr' { w' with drawn := n } := ⟨h.os, h.tape, h.output, h.size, h.le, h.block, Nat.le_trans h.dr hn⟩
theorem PrOK.drew {Pr : PM} {w : World} (h : PrOK Pr w) (n : Nat) : PrOK Pr { w with drawn := n } := h

/-- Cells written from lo on into a block of one's own. -/
theorem PrOK.setRow {Pr : PM} {w : World} (h : PrOK Pr w) {b : Nat} {c : Array Value} {T : TypeId} {f : Nat × Nat} (hb : w.heap[b]? = some (.cells c T f)) (c' : Array Value)
    (hk : ∀ o v, Pr b o = some v → c'[o]? = c[o]?) (w' : World) (hw' : w'.heap[b]? = some (.cells c' T f)) (ho : ∀ b', b' ≠ b → w'.heap[b']? = w.heap[b']?) : PrOK Pr w' := by
  intro b' o v hv
  have h1 := h b' o v hv
  by_cases e : b' = b
  · subst e
    rw [cellX_cells hw', hk o v hv, ← cellX_cells hb]; exact h1
  · simp only [cellX, World.cell?, ho b' e] at h1 ⊢; exact h1
end Go.Proofs.Ytgcjhcefpkbheaa.Lg
end

section
namespace Go.Proofs.Ytgcjhcefpkbheaa.Lg
open Go

/-! ### What the table of types says, held against the program -/
def zeroB : Sh → Value → Bool
  | .int k, .int k' n => (if k = k' then true else false) && n == 0
  | .bool, .bool b => !b
  | .str, .string s => s.size == 0
  | .sl _, .slice none 0 0 => true
  | .mp _ _ _, .map none => true
  | _, _ => false
def zerosB : List Sh → List Value → Bool
  | [], [] => true
  | e :: es, v :: vs => zeroB e v && zerosB es vs
  | _, _ => false
def shB (a b : List Sh) : Bool := (Sh.eqs? a b).isSome
theorem shB_eq {a b : List Sh} (h : shB a b = true) : a = b := by
  unfold shB at h
  cases hq : Sh.eqs? a b with
  | none => simp [hq] at h
  | some p => exact p.down
mutual
theorem Sh.eq?_refl : ∀ a : Sh, Sh.eq? a a = some ⟨rfl⟩
  | .int k => by simp [Sh.eq?]
  | .bool => rfl
  | .str => rfl
  | .sl es => by simp [Sh.eq?, Sh.eqs?_refl es]
  | .mp k b es => by simp [Sh.eq?, Sh.eqs?_refl es, Sh.eq?_refl k]
theorem Sh.eqs?_refl : ∀ a : List Sh, Sh.eqs? a a = some ⟨rfl⟩
  | [] => rfl
  | x :: xs => by simp [Sh.eqs?, Sh.eq?_refl x, Sh.eqs?_refl xs]
end
theorem shB_iff {a b : List Sh} : shB a b = true ↔ a = b := ⟨shB_eq, fun h => by subst h; simp [shB, Sh.eqs?_refl]⟩
def fldsB (P : Program) : List Field → List (Nat × Nat) → List Nat → Bool
  | [], [], [] => true
  | f :: fs, (o, n) :: l, t :: ts => f.offset == o && f.type == t && ((P.info? f.type).map (·.size)) == some n && !(n == 0) && fldsB P fs l ts
  | _, _, _ => false
def elB : List Sh → Option TypeDesc → Bool
  | [.int k], some (.int k') => if k = k' then true else false
  | [.int _], _ => false
  | _, _ => true
def keyB : Sh → Option TypeDesc → Bool
  | .int k, some (.int k') => if k = k' then true else false
  | .bool, some .bool => true
  | .str, some .string => true
  | _, _ => false
def valB (b : Bool) (z : Value) : Bool := match z with | .agg _ => b | _ => !b
def mpB (P : Program) (i : TI) (kt et : TypeId) : Bool := match i.sh, i.mp with
  | [.mp k b es], some (kt', et') => kt == kt' && et == et' && keyB k (P.underlying kt) && (match P.info? et with
    | some f => (match f.zero with | some z => zerosB es z.cells.toList && valB b z | none => false)
    | none => false)
  | _, _ => false
def descB (P : Program) (d : TypeDesc) (i : TI) : Bool :=
  match d with
  | .int k => !i.agg && shB i.sh [.int k] && i.flds.isEmpty && i.arr.isNone && i.es.isEmpty
  | .bool => !i.agg && shB i.sh [.bool] && i.flds.isEmpty && i.arr.isNone && i.es.isEmpty
  | .string => !i.agg && shB i.sh [.str] && i.flds.isEmpty && i.arr.isNone && i.es.isEmpty
  | .slice e => !i.agg && shB i.sh [.sl i.es] && i.flds.isEmpty && i.arr.isNone && !i.es.isEmpty &&
      (match P.info? e with
       | some f => f.size == i.es.length && f.bytes == i.eb && !(f.bytes == 0) && (match f.zero with | some z => zerosB i.es z.cells.toList | none => false) && elB i.es (P.underlying e)
       | none => false)
  | .map kt et => !i.agg && mpB P i kt et && i.flds.isEmpty && i.arr.isNone && i.es.isEmpty
  | .struct fs => i.agg && i.arr.isNone && fldsB P fs.toList i.flds i.ftys
  | .array n e => i.agg && i.flds.isEmpty && (match P.info? e, i.arr with | some f, some (m, k) => n == m && f.size == k && !(k == 0) && (match i.ftys with | [t] => e == t | _ => false) | _, _ => false)
  | _ => false
def tyOKb (P : Program) (t : Nat) (i : TI) : Bool :=
  match P.underlying t, P.info? t with
  | some d, some f => f.size == i.sh.length && (match f.zero with | some z => zerosB i.sh z.cells.toList | none => false) && descB P d i
  | _, _ => false

structure Cx (P : Program) (T : Tab) : Prop where
  ty : ∀ t i, ti? t T = some i → tyOKb P t i = true
  eq : ∀ t i, ti? t T = some i → i.eq = true → i.agg = true → P.eqGuardType P.depth t = false ∧ ∀ (Pr : PM) (ds es : List D) (r : Bool) (xs ys : Array Value) (w : World),
    dsFit i.sh ds = true → dsFit i.sh es = true → RepDs Pr ds xs.toList → RepDs Pr es ys.toList → eqDs ds es = some r → (Op.equal t (.agg xs) (.agg ys)).run P w = .ok r w

theorem withT_some {R : Type} {t : Nat} {T : Tab} {k : TI → Option R} {r : R} (h : withT t T k = some r) : ∃ i, ti? t T = some i ∧ k i = some r := by
  unfold withT at h
  cases hi : ti? t T with
  | none => simp [hi] at h
  | some i => exact ⟨i, rfl, by simpa [hi] using h⟩

structure TyF (P : Program) (t : Nat) (i : TI) where
  d : TypeDesc
  f : TypeInfo
  z : Value
  hd : P.underlying t = some d
  hf : P.info? t = some f
  hs : f.size = i.sh.length
  hz : f.zero = some z
  hzb : zerosB i.sh z.cells.toList = true
  desc : descB P d i = true
theorem Cx.facts {P : Program} {T : Tab} (h : Cx P T) {t : Nat} {i : TI} (hi : ti? t T = some i) : Nonempty (TyF P t i) := by
  have := h.ty t i hi
  unfold tyOKb at this
  cases hd : P.underlying t with
  | none => simp [hd] at this
  | some d =>
    cases hf : P.info? t with
    | none => simp [hd, hf] at this
    | some f =>
      simp only [hd, hf, Bool.and_eq_true, beq_iff_eq] at this
      obtain ⟨⟨h1, h2⟩, h3⟩ := this
      cases hz : f.zero with
      | none => simp [hz] at h2
      | some z => exact ⟨⟨d, f, z, hd, hf, h1, hz, by simpa [hz] using h2, h3⟩⟩

section
variable {P : Program} {t : Nat} {i : TI}
theorem TyF.agg (h : TyF P t i) : i.agg = (match h.d with | .struct _ | .array _ _ => true | _ => false) := by
  obtain ⟨d, f, z, hd, hf, hs, hz, hzb, desc⟩ := h
  cases d <;> simp only [descB, Bool.and_eq_true, Bool.not_eq_true'] at desc <;> first | (simp at desc; done) | (simp [desc]; done)
theorem TyF.run_isAgg (h : TyF P t i) (w : World) : (isAgg t).run P w = .ok i.agg w := by
  rw [h.agg]
  unfold Go.isAgg
  simp only [Sem.run_bind, run_underlying h.hd, Result.andThen_ok]
  cases h.d <;> rfl
theorem TyF.run_sizeOf (h : TyF P t i) (w : World) : (Go.sizeOf t).run P w = .ok i.sh.length w := by
  unfold Go.sizeOf
  simp [run_typeInfo w h.hf, h.hs]
theorem TyF.run_zero (h : TyF P t i) (w : World) : (zeroValue t).run P w = .ok h.z w := by
  unfold Go.zeroValue
  simp [run_typeInfo w h.hf, h.hz]
theorem TyF.str (h : TyF P t i) (ha : i.agg = false) (hs : i.sh = [.str]) : P.underlying t = some .string := by
  obtain ⟨d, f, z, hd, hf, hs', hz, hzb, desc⟩ := h
  rw [hd]
  cases d <;> simp only [descB, ha, shB_iff, hs, Bool.and_eq_true] at desc <;> first | rfl | (simp at desc; done) | (simp [mpB, hs] at desc; done)
theorem TyF.int (h : TyF P t i) (ha : i.agg = false) {k : IntKind} (hs : i.sh = [.int k]) : P.underlying t = some (.int k) := by
  obtain ⟨d, f, z, hd, hf, hs', hz, hzb, desc⟩ := h
  rw [hd]
  cases d <;> simp only [descB, ha, shB_iff, hs, Bool.and_eq_true] at desc <;> try (first | (simp at desc; done) | (simp [mpB, hs] at desc; done))
  simp at desc
  rw [desc.1.1.1]
theorem TyF.bool (h : TyF P t i) (ha : i.agg = false) (hs : i.sh = [.bool]) : P.underlying t = some .bool := by
  obtain ⟨d, f, z, hd, hf, hs', hz, hzb, desc⟩ := h
  rw [hd]
  cases d <;> simp only [descB, ha, shB_iff, hs, Bool.and_eq_true] at desc <;> first | rfl | (simp at desc; done) | (simp [mpB, hs] at desc; done)

theorem mpB_some {kt et : TypeId} (h : mpB P i kt et = true) : ∃ k b es, i.sh = [.mp k b es] ∧ i.mp = some (kt, et) ∧ keyB k (P.underlying kt) = true ∧ ∃ f z, P.info? et = some f ∧ f.zero = some z ∧ zerosB es z.cells.toList = true ∧ valB b z = true := by
  unfold mpB at h
  split at h
  · rename_i k b es kt' et' h1 h2
    simp only [Bool.and_eq_true, beq_iff_eq] at h
    obtain ⟨⟨⟨rfl, rfl⟩, h3⟩, h4⟩ := h
    split at h4
    · rename_i f hf
      split at h4
      · rename_i z hz
        simp only [Bool.and_eq_true] at h4
        exact ⟨k, b, es, h1, h2, h3, f, z, hf, hz, h4.1, h4.2⟩
      · cases h4
    · cases h4
  · cases h
structure MpF (P : Program) (t : Nat) (i : TI) (k : Sh) (b : Bool) (es : List Sh) where
  kt : TypeId
  et : TypeId
  f : TypeInfo
  z : Value
  hd : P.underlying t = some (.map kt et)
  hk : keyB k (P.underlying kt) = true
  hf : P.info? et = some f
  hz : f.zero = some z
  hzb : zerosB es z.cells.toList = true
  hv : valB b z = true
  agg : i.agg = false
theorem TyF.mp (h : TyF P t i) {k : Sh} {b : Bool} {es : List Sh} (hs : i.sh = [.mp k b es]) (ha : i.agg = false) : Nonempty (MpF P t i k b es) := by
  have := h.desc
  have hu := h.hd
  cases hd : h.d <;> simp only [hd, descB, Bool.and_eq_true, hs, shB_iff, ha, Bool.false_eq_true, false_and] at this <;> try (simp at this; done)
  rename_i kt et
  obtain ⟨k', b', es', h1, h2, h3, f, z, h4, h5, h6, h7⟩ := mpB_some this.1.1.1.2
  rw [hs] at h1
  cases h1
  exact ⟨⟨kt, et, f, z, by rw [hu, hd], h3, h4, h5, h6, h7, ha⟩⟩

structure ElF (P : Program) (t : Nat) (i : TI) where
  e : TypeId
  f : TypeInfo
  z : Value
  hd : P.underlying t = some (.slice e)
  hf : P.info? e = some f
  hs : f.size = i.es.length
  hb : f.bytes = i.eb
  hb0 : f.bytes ≠ 0
  hz : f.zero = some z
  hzb : zerosB i.es z.cells.toList = true
  ne : i.es ≠ []
  el : elB i.es (P.underlying e) = true
theorem TyF.slice (h : TyF P t i) (ha : i.agg = false) (hn : i.es ≠ [] ∨ ∃ es, i.sh = [.sl es]) : Nonempty (ElF P t i) := by
  have := h.desc
  have hu := h.hd
  cases hd : h.d <;> simp only [hd, descB, Bool.and_eq_true, Bool.not_eq_true', List.isEmpty_iff] at this <;> try (simp [ha] at this; done)
  case slice e =>
    obtain ⟨⟨⟨⟨⟨_, hsh⟩, _⟩, _⟩, hne⟩, hx⟩ := this
    cases hf : P.info? e with
    | none => simp [hf] at hx
    | some f =>
      simp only [hf, Bool.and_eq_true, beq_iff_eq, Bool.not_eq_true', beq_eq_false_iff_ne] at hx
      obtain ⟨⟨⟨⟨h1, h2⟩, h3⟩, h4⟩, h5⟩ := hx
      cases hz : f.zero with
      | none => simp [hz] at h4
      | some z => exact ⟨⟨e, f, z, by rw [hu, hd], hf, h1, h2, h3, hz, by simpa [hz] using h4, fun q => by simp [q] at hne, h5⟩⟩
  all_goals
    rcases hn with hn | ⟨es, hn⟩
    · exact absurd this.2 (by simpa using hn)
    · first | (rw [hn] at this; simp [shB_iff] at this; done) | (simp [mpB, hn] at this; done)
theorem ElF.run_size (h : ElF P t i) (w : World) : (Go.sizeOf h.e).run P w = .ok i.es.length w := by
  unfold Go.sizeOf
  simp [run_typeInfo w h.hf, h.hs]
theorem ElF.run_zero (h : ElF P t i) (w : World) : (zeroValue h.e).run P w = .ok h.z w := by
  unfold Go.zeroValue
  simp [run_typeInfo w h.hf, h.hz]

theorem fldsB_get : ∀ (fs : List Field) (l : List (Nat × Nat)) (ts : List Nat) (j o n : Nat), fldsB P fs l ts = true → l[j]? = some (o, n) → ∃ f, fs[j]? = some f ∧ f.offset = o ∧ ts[j]? = some f.type ∧ (P.info? f.type).map (·.size) = some n ∧ n ≠ 0
  | [], [], [], j, o, n, _, h => by simp at h
  | f :: fs, (o', n') :: l, t :: ts, j, o, n, h, hj => by
    simp only [fldsB, Bool.and_eq_true, beq_iff_eq, Bool.not_eq_true', beq_eq_false_iff_ne] at h
    obtain ⟨⟨⟨⟨h1, h2⟩, h3⟩, h4⟩, h5⟩ := h
    cases j with
    | zero => simp at hj; obtain ⟨rfl, rfl⟩ := hj; exact ⟨f, rfl, h1, by simp [h2], h3, h4⟩
    | succ j =>
      obtain ⟨g, k1, k2, k3, k4, k5⟩ := fldsB_get fs l ts j o n h5 (by simpa using hj)
      exact ⟨g, by simpa using k1, k2, by simpa using k3, k4, k5⟩
  | [], (_, _) :: _, _, _, _, _, h, _ => by simp [fldsB] at h
  | [], [], _ :: _, _, _, _, h, _ => by simp [fldsB] at h
  | _ :: _, [], _, _, _, _, h, _ => by simp [fldsB] at h
  | _ :: _, (_, _) :: _, [], _, _, _, h, _ => by simp [fldsB] at h
theorem TyF.field (h : TyF P t i) {j o n : Nat} (hj : i.flds[j]? = some (o, n)) : ∃ fs f, P.underlying t = some (.struct fs) ∧ fs[j]? = some f ∧ f.offset = o ∧ i.ftys[j]? = some f.type ∧ P.cellsOf f.type = n ∧ (∃ g, P.info? f.type = some g ∧ g.size = n) ∧ n ≠ 0 := by
  have := h.desc
  have hu := h.hd
  have hne : i.flds ≠ [] := fun q => by simp [q] at hj
  cases hd : h.d <;> simp only [hd, descB, Bool.and_eq_true, List.isEmpty_iff] at this
  case struct fs =>
    obtain ⟨f, k1, k2, k3, k4, k5⟩ := fldsB_get _ _ _ j o n this.2 hj
    refine ⟨fs, f, by rw [hu, hd], by simpa using k1, k2, k3, by simp [Program.cellsOf, k4], ?_, k5⟩
    simpa using k4
  all_goals first | (exact absurd this.1.1.2 hne) | (exact absurd this.1.1.1.2 hne) | (exact absurd this.1.2 hne) | (simp at this; done)
theorem TyF.array (h : TyF P t i) {m k : Nat} (ha : i.arr = some (m, k)) : ∃ e g, P.underlying t = some (.array m e) ∧ P.info? e = some g ∧ g.size = k ∧ k ≠ 0 ∧ i.ftys = [e] := by
  have := h.desc
  have hu := h.hd
  cases hd : h.d <;> simp only [hd, descB, Bool.and_eq_true, ha, Option.isNone_some, Bool.false_eq_true, and_false, false_and] at this
  case array n e =>
    obtain ⟨⟨_, _⟩, hx⟩ := this
    cases hf : P.info? e with
    | none => simp [hf] at hx
    | some f =>
      simp only [hf, Bool.and_eq_true, beq_iff_eq, Bool.not_eq_true', beq_eq_false_iff_ne] at hx
      obtain ⟨⟨⟨h1, h2⟩, h3⟩, h4⟩ := hx
      subst h1
      refine ⟨e, f, by rw [hu, hd], hf, h2, h3, ?_⟩
      split at h4
      · rename_i q; rw [q]; simp at h4; rw [h4]
      · cases h4
end
end Go.Proofs.Ytgcjhcefpkbheaa.Lg
end

section
namespace Go.Proofs.Ytgcjhcefpkbheaa.Lg
open Go
variable {Lz : PM}

/-- What must be shown behind an operation. -/
def Nx {R : Type} (Lz : PM) (K : Fr → Option R) (r : R) (dst : Option Tmp) (Pr : PM) (w : World) (a : Act) (F : Nat → List Nat) (next : Act → World → Prop) : Prop :=
  ∀ v fr' Pr' w' F', K fr' = some r → RepF Lz Pr' w' fr' (a.put dst v).tmps F' → PrOK Pr' w' → Ext (fun b => ∃ t, b ∈ F t) Pr w Pr' w' →
    (∀ t b, b ∈ F' t → (∃ t', b ∈ F t') ∨ w.heap.size ≤ b) → next (a.put dst v) w'

theorem wp_value {P : Program} {o : Oper} {a : Act} {w w' : World} {next : Act → World → Prop} {Q : Exit → Act → World → Prop} {v : Value}
    (h : (execOp a.eval o).run P w = .ok (.value v) w') (hn : next (a.put o.dst v) w') : o.wp P a w next Q := by
  unfold Oper.wp; rw [h]; exact hn
theorem wp_skip' {P : Program} {o : Oper} {a : Act} {w w' : World} {next : Act → World → Prop} {Q : Exit → Act → World → Prop}
    (h : (execOp a.eval o).run P w = .ok .skip w') (hn : next (a.put o.dst undef) w') : o.wp P a w next Q := by
  unfold Oper.wp; rw [h]; exact hn

section
variable {R : Type} {P : Program} {T : Tab} {E : CallS} {o : Oper} {fr : Fr} {K : Fr → Option R} {r : R} {Pr : PM} {w : World} {a : Act} {F : Nat → List Nat}
  {next : Act → World → Prop} {Q : Exit → Act → World → Prop}

theorem fin {Pr1 : PM} {w1 : World} {fr1 : Fr} {F1 : Nat → List Nat} {sv : SV} {v : Value} {B : List Nat} (hd : ∀ d, o.dst = some d → d < a.tmps.size) (hn : Nx Lz K r o.dst Pr w a F next)
    (h1 : RepF Lz Pr1 w1 fr1 a.tmps F1) (hP1 : PrOK Pr1 w1) (hx : Ext (fun b => ∃ t, b ∈ F t) Pr w Pr1 w1) (hF1 : ∀ t b, b ∈ F1 t → (∃ t', b ∈ F t') ∨ w.heap.size ≤ b)
    (hr : RepS Lz Pr1 w1 sv v B) (hnd : B.Nodup) (hap : ∀ t, ∀ b ∈ B, b ∉ F1 t) (hB : ∀ b ∈ B, (∃ t', b ∈ F t') ∨ w.heap.size ≤ b) (hu : sv.isUpd = false)
    (h0 : ∀ d', sv = .al d' none → v = a.tmps.getD d' undef)
    (hal : ∀ d' o', sv = .al d' (some o') → ∃ b c T, a.tmps.getD d' undef = .pointer (some ⟨b, 0, none⟩) ∧ b ∈ F1 d' ∧ w1.heap[b]? = some (.cells c T (0, 0)) ∧ c[o']? = some v)
    (hrf : ∀ d' o', sv = .ref d' o' → ∃ b, a.tmps.getD d' undef = .pointer (some ⟨b, 0, none⟩) ∧ v = .pointer (some ⟨b, o', none⟩))
    (hK : K (dset o.dst sv fr1) = some r) (how : ∀ d' k, sv = .ow d' k → OWv k (a.tmps.getD d' undef) v := by simp) : next (a.put o.dst v) w1 := by
  cases hdst : o.dst with
  | none =>
    rw [hdst] at hn hK
    exact hn v fr1 Pr1 w1 F1 hK (by simpa [Act.put] using h1) hP1 hx hF1
  | some d =>
    rw [hdst] at hn hK
    have hlt := hd d hdst
    have ht : (a.put (some d) v).tmps = a.tmps.setIfInBounds d v := rfl
    refine hn v _ Pr1 w1 _ hK (?_ : RepF Lz Pr1 w1 ((d, sv) :: fr1) _ (fun t => if t = d then B else F1 t)) hP1 hx ?_
    · rw [ht]
      refine h1.bind (fun t hne => by rw [getD_set _ _ _ _ hlt, if_neg hne]) (by rw [getD_set _ _ _ _ hlt, if_pos rfl]; exact hr) hnd (fun t _ b hb => hap t b hb) (fun q => by rw [hu] at q; cases q) ?_ ?_ ?_ (fun d' k hs _ => by rw [getD_set _ _ _ _ hlt, if_pos rfl]; exact how d' k hs)
      · intro d' hs hne; rw [getD_set _ _ _ _ hlt, if_pos rfl]; exact h0 d' hs
      · intro d' o' hs hne; rw [getD_set _ _ _ _ hlt, if_pos rfl]; exact hal d' o' hs
      · intro d' o' hs hne
        obtain ⟨b, q1, q2⟩ := hrf d' o' hs
        exact ⟨b, q1, by rw [getD_set _ _ _ _ hlt, if_pos rfl]; exact q2⟩
    · intro t b hb
      by_cases e : t = d
      · rw [if_pos e] at hb; exact hB b hb
      · rw [if_neg e] at hb; exact hF1 t b hb

theorem sub_self : ∀ t b, b ∈ F t → (∃ t', b ∈ F t') ∨ w.heap.size ≤ b := fun t _ h => .inl ⟨t, h⟩

/-- A plain value, no memory turned. -/
theorem finV {x : AV} {v : Value} (hF : RepF Lz Pr w fr a.tmps F) (hP : PrOK Pr w) (hd : ∀ d, o.dst = some d → d < a.tmps.size) (hn : Nx Lz K r o.dst Pr w a F next)
    (hr : RepA Pr x v) (hK : K (dset o.dst (.val x) fr) = some r) : next (a.put o.dst v) w :=
  fin hd hn hF hP (Ext.refl _ _ _) sub_self (B := []) (by simp only [RepS]; exact ⟨hr, trivial⟩) List.nodup_nil (by simp) (by simp) rfl (by simp) (by simp) (by simp) hK
theorem finU {v : Value} (hF : RepF Lz Pr w fr a.tmps F) (hP : PrOK Pr w) (hd : ∀ d, o.dst = some d → d < a.tmps.size) (hn : Nx Lz K r o.dst Pr w a F next)
    (hK : K (dset o.dst .unk fr) = some r) : next (a.put o.dst v) w :=
  fin hd hn hF hP (Ext.refl _ _ _) sub_self (B := []) (by simp [RepS]) List.nodup_nil (by simp) (by simp) rfl (by simp) (by simp) (by simp) hK

theorem RepS_nil (es : List Sh) (Pr : PM) (w : World) : RepS Lz Pr w (.app es []) (.slice none 0 0) [] := by simp [RepS]

/-- Shadowing a slot by a plain value that it holds. -/
theorem RepF.shadow {ts : Array Value} {d : Nat} {x : AV} (h : RepF Lz Pr w fr ts F) (hr : RepA Pr x (ts.getD d undef)) : RepF Lz Pr w ((d, .val x) :: fr) ts (fun t => if t = d then [] else F t) :=
  h.plain (fun _ _ => rfl) (by simp only [RepS]; exact ⟨hr, trivial⟩) rfl (by simp) (by simp)

theorem RepSs.set {x : SV} {v : Value} {B : List Nat} : ∀ (cs : List SV) (vs : List Value) (Bs : List (List Nat)) (o : Nat), RepSs Lz Pr w cs vs Bs → vs[o]? = some v → RepS Lz Pr w x v B → RepSs Lz Pr w (setAt o [x] cs) vs (Bs.set o B)
  | c :: cs, v' :: vs, B' :: Bs, 0, h, hv, hr => by
    simp only [RepSs] at h
    simp at hv; subst hv
    have : setAt 0 [] cs = cs := by cases cs <;> simp [setAt]
    simp only [setAt, List.set_cons_zero, RepSs, this]
    exact ⟨hr, h.2⟩
  | c :: cs, v' :: vs, B' :: Bs, o + 1, h, hv, hr => by
    simp only [RepSs] at h
    simp only [setAt, List.set_cons_succ, RepSs]
    exact ⟨h.1, RepSs.set cs vs Bs o h.2 (by simpa using hv) hr⟩
  | [], [], _, _, _, hv, _ => by simp at hv
  | [], _ :: _, _, _, h, _, _ => by simp [RepSs] at h
  | _ :: _, [], _, _, h, _, _ => by simp [RepSs] at h
  | _ :: _, _ :: _, [], _, h, _, _ => by simp [RepSs] at h

theorem flatten_set_sub : ∀ (Bs : List (List Nat)) (o : Nat), ∀ b ∈ (Bs.set o []).flatten, b ∈ Bs.flatten
  | [], _, b, h => by simp at h
  | B :: Bs, 0, b, h => by simp at h ⊢; exact .inr h
  | B :: Bs, o + 1, b, h => by
    simp only [List.set_cons_succ, List.flatten_cons, List.mem_append] at h ⊢
    exact h.imp id (flatten_set_sub Bs o b)
theorem flatten_set_nodup : ∀ (Bs : List (List Nat)) (o : Nat), Bs.flatten.Nodup → (Bs.set o []).flatten.Nodup
  | [], _, h => by simp
  | B :: Bs, 0, h => by
    simp only [List.flatten_cons, List.nodup_append] at h
    simpa using h.2.1
  | B :: Bs, o + 1, h => by
    simp only [List.set_cons_succ, List.flatten_cons, List.nodup_append] at h ⊢
    exact ⟨h.1, flatten_set_nodup Bs o h.2.1, fun a ha b hb => h.2.2 a ha b (flatten_set_sub Bs o b hb)⟩
theorem flatten_apart : ∀ (Bs : List (List Nat)) (o : Nat) (B : List Nat), Bs.flatten.Nodup → Bs[o]? = some B → ∀ b ∈ B, b ∉ (Bs.set o []).flatten
  | [], _, _, _, h, _, _ => by simp at h
  | B' :: Bs, 0, B, hn, h, b, hb => by
    simp at h; subst h
    simp only [List.flatten_cons, List.nodup_append] at hn
    simp only [List.set_cons_zero, List.flatten_cons, List.nil_append]
    exact fun q => hn.2.2 b hb b q rfl
  | B' :: Bs, o + 1, B, hn, h, b, hb => by
    simp only [List.flatten_cons, List.nodup_append] at hn
    simp only [List.set_cons_succ, List.flatten_cons, List.mem_append]
    have hm : b ∈ Bs.flatten := List.mem_flatten.2 ⟨B, List.mem_of_getElem? (by simpa using h), hb⟩
    rintro (q | q)
    · exact hn.2.2 b q b hm rfl
    · exact flatten_apart Bs o B hn.2.1 (by simpa using h) b hb q

/-- Taking the claim to the room behind a slice. -/
theorem grow_sound {ts : Array Value} {t : Nat} {es : List Sh} {l : List (RowE es)} {fr' : Fr} (h : RepF Lz Pr w fr ts F) (hg : grow fr t = some ⟨es, l, fr'⟩) :
    ∃ B F', RepF Lz Pr w fr' ts F' ∧ RepS Lz Pr w (.app es l) (ts.getD t undef) B ∧ (∀ t' b, b ∈ F' t' → b ∈ F t') ∧ (∀ b ∈ B, ∃ d, b ∈ F d) ∧ (∀ t', ∀ b ∈ B, b ∉ F' t') ∧ B.Nodup := by
  unfold grow at hg
  cases hf : find t fr [] with
  | none => simp [hf] at hg
  | some p =>
    obtain ⟨pre, sv, rest⟩ := p
    have hl := find_look t fr [] pre sv rest hf
    have hr := h.rep t
    rw [hl] at hr
    rw [hf] at hg
    cases sv with
    | app es' l' =>
      simp only [Option.some.injEq, Sigma.mk.injEq] at hg
      obtain ⟨rfl, hg⟩ := hg
      simp only [heq_eq_eq, Prod.mk.injEq] at hg
      obtain ⟨rfl, rfl⟩ := hg
      refine ⟨F t, _, h.shadow (hr.av rfl), hr, ?_, fun b hb => ⟨t, hb⟩, ?_, h.nodup t⟩
      · intro t' b hb
        by_cases e : t' = t
        · simp [e] at hb
        · simpa [e] using hb
      · intro t' b hb
        by_cases e : t' = t
        · simp [e]
        · simpa [e] using h.apart t t' (Ne.symm e) b hb
    | al d off =>
      simp only at hg
      cases hb : bound d pre
      · rw [hb, cond_false] at hg
        have hrest := find_rest t d fr pre _ rest hf hb
        have hd := h.rep d
        rw [hrest] at hd
        cases off with
        | none =>
          have ha := h.alias0 t pre d rest hf hb
          cases hx : look1 d rest with
          | app es' l' =>
            simp only [hx, Option.some.injEq, Sigma.mk.injEq] at hg
            obtain ⟨rfl, hg⟩ := hg
            simp only [heq_eq_eq, Prod.mk.injEq] at hg
            obtain ⟨rfl, rfl⟩ := hg
            rw [hx] at hd
            refine ⟨F d, _, h.shadow (hd.av rfl), by rw [ha]; exact hd, ?_, fun b hb => ⟨d, hb⟩, ?_, h.nodup d⟩
            · intro t' b hb
              by_cases e : t' = d
              · simp [e] at hb
              · simpa [e] using hb
            · intro t' b hb
              by_cases e : t' = d
              · simp [e]
              · simpa [e] using h.apart d t' (Ne.symm e) b hb
          | _ => simp [hx] at hg
        | some o =>
          cases hx : look1 d rest with
          | box nw cs =>
            simp only [hx] at hg
            cases hc : cellAt o cs with
            | app es' l' =>
              simp only [hc, Option.some.injEq, Sigma.mk.injEq] at hg
              obtain ⟨rfl, hg⟩ := hg
              simp only [heq_eq_eq, Prod.mk.injEq] at hg
              obtain ⟨rfl, rfl⟩ := hg
              rw [hx] at hd
              simp only [RepS] at hd
              obtain ⟨b, c, T', Bs, hv, hbl, hpr, hB, hss⟩ := hd
              obtain ⟨b2, c2, T2, q1, q2, q3, q4⟩ := h.alias1 t pre d o rest hf hb
              rw [hv] at q1
              simp at q1; subst q1
              rw [hbl] at q3
              simp at q3
              obtain ⟨rfl, rfl⟩ := q3
              obtain ⟨B, g1, _, g3⟩ := RepSs.cell cs c.toList Bs hss o (ts.getD t undef) (by rw [← q4]; simp)
              rw [hc] at g3
              have hnd := h.nodup d
              rw [hB] at hnd
              have hnd2 := List.nodup_cons.1 hnd
              have hsub : ∀ b' ∈ B, b' ∈ Bs.flatten := fun b' hb' => List.mem_flatten.2 ⟨B, List.mem_of_getElem? g1, hb'⟩
              have hnew : RepS Lz Pr w (.box false (setAt o [.val (.d (.sl es' l'))] cs)) (ts.getD d undef) (b :: (Bs.set o []).flatten) := by
                simp only [RepS]
                exact ⟨b, c, T', Bs.set o [], hv, hbl, hpr, rfl, RepSs.set cs c.toList Bs o hss (by rw [← q4]; simp) (by simp only [RepS]; exact ⟨g3.av rfl, trivial⟩)⟩
              refine ⟨B, _, h.bind (fun _ _ => rfl) hnew ?_ ?_ (fun _ => rfl) (by simp) (by simp) (by simp), g3, ?_, fun b' hb' => ⟨d, by rw [hB]; exact List.mem_cons_of_mem _ (hsub b' hb')⟩, ?_, ?_⟩
              · exact List.nodup_cons.2 ⟨fun q => hnd2.1 (flatten_set_sub Bs o b q), flatten_set_nodup Bs o hnd2.2⟩
              · intro t' hne b' hb'
                have : b' ∈ F d := by
                  rw [hB]
                  rcases List.mem_cons.1 hb' with rfl | hb'
                  · exact List.mem_cons_self
                  · exact List.mem_cons_of_mem _ (flatten_set_sub Bs o b' hb')
                exact h.apart d t' (Ne.symm hne) b' this
              · intro t' b' hb'
                by_cases e : t' = d
                · subst e
                  rw [if_pos rfl] at hb'
                  rw [hB]
                  rcases List.mem_cons.1 hb' with rfl | hb'
                  · exact List.mem_cons_self
                  · exact List.mem_cons_of_mem _ (flatten_set_sub Bs o b' hb')
                · rw [if_neg e] at hb'; exact hb'
              · intro t' b' hb'
                by_cases e : t' = d
                · subst e
                  rw [if_pos rfl]
                  intro q
                  rcases List.mem_cons.1 q with rfl | q
                  · exact hnd2.1 (hsub _ hb')
                  · exact flatten_apart Bs o B hnd2.2 g1 b' hb' q
                · rw [if_neg e]
                  exact h.apart d t' (Ne.symm e) b' (by rw [hB]; exact List.mem_cons_of_mem _ (hsub b' hb'))
              · have : B.Sublist Bs.flatten := List.sublist_flatten_of_mem (List.mem_of_getElem? g1)
                exact this.nodup hnd2.2
            | _ => simp [hc] at hg
          | _ => simp [hx] at hg
      · rw [hb, cond_true] at hg; cases hg
    | _ => simp at hg

theorem mpOf_sound {ts : Array Value} {s d : Nat} {k : Sh} {b : Bool} {es : List Sh} {m : List (CE k × RowE es)} (h : RepF Lz Pr w fr ts F) (hm : mpOf s fr = some (d, ⟨k, b, es, m⟩)) :
    look1 d fr = .mp k b es m ∧ ts.getD s undef = ts.getD d undef := by
  unfold mpOf at hm
  split at hm
  · rename_i pre k' b' es' m' rest hf
    have hl := find_look s fr [] _ _ _ hf
    simp only [Option.some.injEq, Prod.mk.injEq] at hm
    obtain ⟨rfl, hm⟩ := hm
    cases hm
    exact ⟨hl, rfl⟩
  · rename_i pre d' rest hf
    cases hb : bound d' pre
    · rw [hb, cond_false] at hm
      have hl0 := find_rest s d' fr pre _ rest hf hb
      split at hm
      · rename_i k' b' es' m' hl
        simp only [Option.some.injEq, Prod.mk.injEq] at hm
        obtain ⟨rfl, hm⟩ := hm
        cases hm
        exact ⟨hl0.trans hl, h.alias0 s pre d' rest hf hb⟩
      · cases hm
    · rw [hb, cond_true] at hm; cases hm
  · cases hm
theorem ownOf_sound {ts : Array Value} {s d : Nat} {es : List Sh} {l : List (RowE es)} (h : RepF Lz Pr w fr ts F) (hm : ownOf s fr = some (d, ⟨es, l⟩)) :
    look1 d fr = .own es l ∧ ts.getD s undef = ts.getD d undef := by
  unfold ownOf at hm
  split at hm
  · rename_i pre es' l' rest hf
    have hl := find_look s fr [] _ _ _ hf
    simp only [Option.some.injEq, Prod.mk.injEq] at hm
    obtain ⟨rfl, hm⟩ := hm
    cases hm
    exact ⟨hl, rfl⟩
  · rename_i pre d' rest hf
    cases hb : bound d' pre
    · rw [hb, cond_false] at hm
      have hl0 := find_rest s d' fr pre _ rest hf hb
      split at hm
      · rename_i es' l' hl
        simp only [Option.some.injEq, Prod.mk.injEq] at hm
        obtain ⟨rfl, hm⟩ := hm
        cases hm
        exact ⟨hl0.trans hl, h.alias0 s pre d' rest hf hb⟩
      · cases hm
    · rw [hb, cond_true] at hm; cases hm
  · cases hm
/-- A map, for reading. -/
theorem mapV_sound {ts : Array Value} {x : Operand} {k : Sh} {b : Bool} {es : List Sh} {m : List (CE k × RowE es)} (h : RepF Lz Pr w fr ts F) (hP : PrOK Pr w) (hm : mapV fr x = some (.mp k b es m)) :
    ∃ s, x = .tmp s ∧ ((ts.getD s undef = .map none ∧ m = []) ∨ ∃ bl es' ck, ts.getD s undef = .map (some bl) ∧ w.heap[bl]? = some (.map es' ck) ∧ MapR Pr k b es m es' ck) := by
  unfold mapV at hm
  split at hm
  · rename_i s
    refine ⟨s, rfl, ?_⟩
    split at hm
    · rename_i d k' b' es' m' hq
      cases hm
      obtain ⟨h1, h2⟩ := mpOf_sound h hq
      have hr := h.rep d
      rw [h1] at hr
      simp only [RepS] at hr
      obtain ⟨bl, es', ck, g1, _, g2, _, g3⟩ := hr
      exact .inr ⟨bl, es', ck, h2.trans g1, g2, g3⟩
    · split at hm
      · rename_i k' b' es' m' hq
        cases hm
        have hr := rd_sound h hq
        simp only [RepA, RepD, RepC] at hr
        refine hr.imp id ?_
        rintro ⟨bl, es', ck, g1, g2, g3, g4, g5⟩
        exact ⟨bl, es', ck, g1, hP.map g2, g3, g4, g5⟩
      · cases hm
  · cases hm

/-- The root of an address. -/
theorem root_sound {ts : Array Value} {t d off : Nat} {cs : List SV} (h : RepF Lz Pr w fr ts F) (hr : root t fr = some (d, off)) (hb : boxOf d fr = some cs) :
    ∃ b c T nw Bs, ts.getD t undef = .pointer (some ⟨b, off, none⟩) ∧ ts.getD d undef = .pointer (some ⟨b, 0, none⟩) ∧ look1 d fr = .box nw cs ∧ w.heap[b]? = some (.cells c T (0, 0)) ∧ (∀ o, Pr b o = none) ∧ F d = b :: Bs.flatten ∧ RepSs Lz Pr w cs c.toList Bs := by
  have hbox : ∃ nw, look1 d fr = .box nw cs := by
    unfold boxOf at hb
    cases hl : look1 d fr <;> simp [hl] at hb
    subst hb; exact ⟨_, rfl⟩
  obtain ⟨nw, hbox⟩ := hbox
  have hd := h.rep d
  rw [hbox] at hd
  simp only [RepS] at hd
  obtain ⟨b, c, T', Bs, hv, hbl, hpr, hB, hss⟩ := hd
  refine ⟨b, c, T', nw, Bs, ?_, hv, hbox, hbl, hpr, hB, hss⟩
  unfold root at hr
  cases hf : find t fr [] with
  | none => simp [hf] at hr
  | some p =>
    obtain ⟨pre, sv, rest⟩ := p
    rw [hf] at hr
    cases sv with
    | box nw' cs' => simp at hr; obtain ⟨rfl, rfl⟩ := hr; exact hv
    | al d' o' =>
      cases o' with
      | none =>
        simp only at hr
        cases hbd : bound d' pre
        · rw [hbd, cond_false] at hr
          have ha := h.alias0 t pre d' rest hf hbd
          cases hx : look1 d' rest <;> simp [hx] at hr
          obtain ⟨rfl, rfl⟩ := hr
          rw [ha]; exact hv
        · rw [hbd, cond_true] at hr; cases hr
      | some _ => simp at hr
    | ref d' o' =>
      simp only at hr
      cases hbd : remade d' pre
      · rw [hbd, cond_false] at hr
        simp at hr
        obtain ⟨rfl, rfl⟩ := hr
        obtain ⟨b', q1, q2⟩ := h.ref t pre d' o' rest hf hbd
        rw [hv] at q1
        simp at q1; subst q1
        exact q2
      · rw [hbd, cond_true] at hr; cases hr
    | _ => simp at hr
end
end Go.Proofs.Ytgcjhcefpkbheaa.Lg
end

section
namespace Go.Proofs.Ytgcjhcefpkbheaa.Lg
open Go
variable {Lz : PM}
section
variable {R : Type} {P : Program} {T : Tab} {E : CallS} {o : Oper} {fr : Fr} {K : Fr → Option R} {r : R} {Pr : PM} {w : World} {a : Act} {F : Nat → List Nat}
  {next : Act → World → Prop} {Q : Exit → Act → World → Prop}

theorem chk_some {p : Prop} {x : Option R} (h : chk p x = some r) : p ∧ x = some r := by
  unfold chk at h
  split at h
  · exact ⟨‹_›, h⟩
  · cases h
theorem br_some {b : Bool} {x y : Option R} (h : br b x y = some r) : (b = true ∧ x = some r) ∨ (b = false ∧ y = some r) := by
  unfold br at h
  cases b
  · exact .inr ⟨rfl, h⟩
  · exact .inl ⟨rfl, h⟩
theorem brP_some {p : Prop} {x y : Option R} (h : brP p x y = some r) : (p ∧ x = some r) ∨ (¬ p ∧ y = some r) := by
  unfold brP at h
  split at h
  · exact .inl ⟨‹_›, h⟩
  · exact .inr ⟨‹_›, h⟩
theorem bif_some {b : Bool} {x : Option R} (h : (bif b then x else none) = some r) : b = true ∧ x = some r := by
  cases b
  · cases h
  · exact ⟨rfl, h⟩

theorem RepA.cells {x : AV} {cs : List D} {v : Value} (h : RepA Pr x v) (hc : x.cells = some cs) : RepDs Pr cs v.cells.toList := by
  cases x with
  | d y =>
    simp only [AV.cells, Option.some.injEq] at hc; subst hc
    simp only [RepA] at h
    have : v.cells = #[v] := by have := h.one; cases v <;> first | rfl | (simp [Value.oneCell'] at this; done)
    rw [this]; exact ⟨h, trivial⟩
  | agg ds =>
    simp only [AV.cells, Option.some.injEq] at hc; subst hc
    simp only [RepA] at h
    obtain ⟨vs, rfl, h⟩ := h
    exact h
  | tup l => simp [AV.cells] at hc
  | fn g l => simp [AV.cells] at hc
  | pt l => simp [AV.cells] at hc

abbrev DOK (o : Oper) (a : Act) : Prop := ∀ d, o.dst = some d → d < a.tmps.size

theorem finRef {d off : Nat} {b : Nat} (hF : RepF Lz Pr w fr a.tmps F) (hP : PrOK Pr w) (hd : DOK o a) (hn : Nx Lz K r o.dst Pr w a F next)
    (hv0 : a.tmps.getD d undef = .pointer (some ⟨b, 0, none⟩)) (hK : K (dset o.dst (.ref d off) fr) = some r) : next (a.put o.dst (.pointer (some ⟨b, off, none⟩))) w :=
  fin hd hn hF hP (Ext.refl _ _ _) sub_self (B := []) (by simp [RepS]) List.nodup_nil (by simp) (by simp) rfl (by simp) (by simp) (by intro d' o' h; cases h; exact ⟨b, hv0, rfl⟩) hK
theorem op_move {x : Operand} (hC : Cx P T) (ho : o.op = .move x) (hev : evOp0 T E o fr K = some r) (hF : RepF Lz Pr w fr a.tmps F) (hP : PrOK Pr w) (hd : DOK o a) (hn : Nx Lz K r o.dst Pr w a F next) : o.wp P a w next Q := by
  refine wp_value (v := a.eval x) (w' := w) (by simp [execOp, ho]) ?_
  simp only [evOp0, ho] at hev
  split at hev
  · rename_i s
    show next (a.put o.dst (a.tmps.getD s undef)) w
    split at hev
    · rename_i pre v rest hf
      have hr := hF.rep s
      rw [find_look s fr [] _ _ _ hf] at hr
      exact finV hF hP hd hn (hr.av rfl) hev
    · rename_i pre es l rest hf
      exact fin hd hn hF hP (Ext.refl _ _ _) sub_self (B := []) (by simp [RepS]) List.nodup_nil (by simp) (by simp) rfl (by intro d' h; cases h; rfl) (by simp) (by simp) hev
    · rename_i pre nw cs rest hf
      have hr := hF.rep s
      rw [find_look s fr [] _ _ _ hf] at hr
      simp only [RepS] at hr
      obtain ⟨b, c, T', Bs, hv, _⟩ := hr
      rw [hv]
      exact finRef hF hP hd hn hv hev
    · rename_i pre d off rest hf
      cases hb : remade d pre
      · rw [hb, cond_false] at hev
        obtain ⟨b, hv0, hv⟩ := hF.ref s pre d off rest hf hb
        rw [hv]
        exact finRef hF hP hd hn hv0 hev
      · rw [hb, cond_true] at hev
        exact finU hF hP hd hn hev
    · rename_i pre d off rest hf
      cases hb : bound d pre
      · rw [hb, cond_false] at hev
        refine fin hd hn hF hP (Ext.refl _ _ _) sub_self (B := []) (by simp [RepS]) List.nodup_nil (by simp) (by simp) rfl ?_ ?_ (by simp) hev
        · intro d' h; cases h; exact hF.alias0 s pre d rest hf hb
        · intro d' o' h; cases h; exact hF.alias1 s pre d o' rest hf hb
      · rw [hb, cond_true] at hev
        exact finU hF hP hd hn hev
    · rename_i pre cs rest hf
      have hr := hF.rep s
      rw [find_look s fr [] _ _ _ hf] at hr
      have hr' : RepS Lz Pr w (.at cs) (a.tmps.getD s undef) [] := by simp only [RepS] at hr ⊢; exact ⟨hr.1, trivial⟩
      exact fin hd hn hF hP (Ext.refl _ _ _) sub_self (B := []) hr' List.nodup_nil (by simp) (by simp) rfl (by simp) (by simp) (by simp) hev
    · rename_i pre cs rest hf
      have hr := hF.rep s
      rw [find_look s fr [] _ _ _ hf] at hr
      exact finV hF hP hd hn (hr.av rfl) hev
    · rename_i pre es l rest hf
      exact fin hd hn hF hP (Ext.refl _ _ _) sub_self (B := []) (by simp [RepS]) List.nodup_nil (by simp) (by simp) rfl (by intro d' h; cases h; rfl) (by simp) (by simp) hev
    · rename_i pre k b es m rest hf
      exact fin hd hn hF hP (Ext.refl _ _ _) sub_self (B := []) (by simp [RepS]) List.nodup_nil (by simp) (by simp) rfl (by intro d' h; cases h; rfl) (by simp) (by simp) hev
    · exact fin hd hn hF hP (Ext.refl _ _ _) sub_self (B := []) (by simp [RepS]) List.nodup_nil (by simp) (by simp) rfl (by intro d' h; cases h; rfl) (by simp) (by simp) hev
    · rename_i pre d k rest hf
      cases hb : bound d pre
      · rw [hb, cond_false] at hev
        exact fin hd hn hF hP (Ext.refl _ _ _) sub_self (B := []) (by simp [RepS]) List.nodup_nil (by simp) (by simp) rfl (by simp) (by simp) (by simp) hev (by intro d' k' h; cases h; exact hF.own s pre d k rest hf hb)
      · rw [hb, cond_true] at hev
        exact finU hF hP hd hn hev
    · exact finU hF hP hd hn hev
  · replace hev := withT_some hev; obtain ⟨i, hi, hev⟩ := hev
    exact fin hd hn hF hP (Ext.refl _ _ _) sub_self (B := []) (RepS_nil i.es Pr w) List.nodup_nil (by simp) (by simp) rfl (by simp) (by simp) (by simp) hev
  · split at hev
    · rename_i v hv
      exact finV hF hP hd hn (rdO_sound hF hv) hev
    · exact finU hF hP hd hn hev

theorem op_assign {x : Operand} (hC : Cx P T) (ho : o.op = .assign x) (hev : evOp0 T E o fr K = some r) (hF : RepF Lz Pr w fr a.tmps F) (hP : PrOK Pr w) (hd : DOK o a) (hn : Nx Lz K r o.dst Pr w a F next) : o.wp P a w next Q := by
  refine wp_value (v := a.eval x) (w' := w) (by simp [execOp, ho]) ?_
  simp only [evOp0, ho] at hev
  have tok : ∀ {s es l fr' b}, grow fr s = some ⟨es, l, fr'⟩ → K (dset o.dst (apV b es l) fr') = some r → next (a.put o.dst (a.tmps.getD s undef)) w := by
    intro s es l fr' b hg hev
    obtain ⟨B, F', h1, h2, h3, h4, h5, h6⟩ := grow_sound hF hg
    cases b
    · have hev : K (dset o.dst (.app es l) fr') = some r := hev
      exact fin hd hn h1 hP (Ext.refl _ _ _) (fun t b hb => .inl ⟨t, h3 t b hb⟩) h2 h6 h5 (fun b hb => .inl (h4 b hb)) rfl (by simp) (by simp) (by simp) hev
    · have hev : K (dset o.dst (.val (.d (.sl es l))) fr') = some r := hev
      exact fin hd hn h1 hP (Ext.refl _ _ _) (fun t b hb => .inl ⟨t, h3 t b hb⟩) (B := []) (by simp only [RepS]; exact ⟨h2.av rfl, trivial⟩) List.nodup_nil (by simp) (by simp) rfl (by simp) (by simp) (by simp) hev
  have mov : ∀ {d k b es m}, look1 d fr = .mp k b es m → K (dset o.dst (.mp k b es m) ((d, .unk) :: fr)) = some r → next (a.put o.dst (a.tmps.getD d undef)) w := by
    intro d k b es m hl hev
    have hr := hF.rep d
    rw [hl] at hr
    have h1 : RepF Lz Pr w ((d, .unk) :: fr) a.tmps (fun t => if t = d then [] else F t) := hF.plain (fun _ _ => rfl) (by simp [RepS]) rfl (by simp) (by simp)
    refine fin hd hn h1 hP (Ext.refl _ _ _) ?_ hr (hF.nodup d) ?_ (fun b hb => .inl ⟨d, hb⟩) rfl (by simp) (by simp) (by simp) hev
    · intro t b hb
      by_cases e : t = d
      · simp [e] at hb
      · rw [if_neg e] at hb; exact .inl ⟨t, hb⟩
    · intro t b hb
      by_cases e : t = d
      · simp [e]
      · rw [if_neg e]; exact hF.apart d t (Ne.symm e) b hb
  have movO : ∀ {d es l}, look1 d fr = .own es l → K (dset o.dst (.own es l) ((d, .unk) :: fr)) = some r → next (a.put o.dst (a.tmps.getD d undef)) w := by
    intro d es l hl hev
    have hr := hF.rep d
    rw [hl] at hr
    have h1 : RepF Lz Pr w ((d, .unk) :: fr) a.tmps (fun t => if t = d then [] else F t) := hF.plain (fun _ _ => rfl) (by simp [RepS]) rfl (by simp) (by simp)
    refine fin hd hn h1 hP (Ext.refl _ _ _) ?_ hr (hF.nodup d) ?_ (fun b hb => .inl ⟨d, hb⟩) rfl (by simp) (by simp) (by simp) hev
    · intro t b hb
      by_cases e : t = d
      · simp [e] at hb
      · rw [if_neg e] at hb; exact .inl ⟨t, hb⟩
    · intro t b hb
      by_cases e : t = d
      · simp [e]
      · rw [if_neg e]; exact hF.apart d t (Ne.symm e) b hb
  split at hev
  · rename_i s
    show next (a.put o.dst (a.tmps.getD s undef)) w
    split at hev
    · rename_i pre v rest hf
      have hr := hF.rep s
      rw [find_look s fr [] _ _ _ hf] at hr
      exact finV hF hP hd hn (hr.av rfl) hev
    · rename_i pre es l rest hf
      exact tok (s := s) (es := es) (l := l) (by simp [grow, hf]) hev
    · rename_i pre nw cs rest hf
      have hr := hF.rep s
      rw [find_look s fr [] _ _ _ hf] at hr
      have h1 : RepF Lz Pr w ((s, .unk) :: fr) a.tmps (fun t => if t = s then [] else F t) := hF.plain (fun _ _ => rfl) (by simp [RepS]) rfl (by simp) (by simp)
      have hr' : RepS Lz Pr w (.box true cs) (a.tmps.getD s undef) (F s) := by simpa only [RepS] using hr
      refine fin hd hn h1 hP (Ext.refl _ _ _) ?_ hr' (hF.nodup s) ?_ (fun b hb => .inl ⟨s, hb⟩) rfl (by simp) (by simp) (by simp) hev
      · intro t b hb
        by_cases e : t = s
        · simp [e] at hb
        · rw [if_neg e] at hb; exact .inl ⟨t, hb⟩
      · intro t b hb
        by_cases e : t = s
        · simp [e]
        · rw [if_neg e]; exact hF.apart s t (Ne.symm e) b hb
    · split at hev
      · rename_i es l fr' hg
        exact tok hg hev
      · split at hev
        · rename_i d k b es m hq
          obtain ⟨q1, q2⟩ := mpOf_sound hF hq
          rw [q2]
          exact mov q1 hev
        · split at hev
          · rename_i d es l hq
            obtain ⟨q1, q2⟩ := ownOf_sound hF hq
            rw [q2]
            exact movO q1 hev
          · split at hev
            · rename_i v hv
              exact finV hF hP hd hn (rd_sound hF hv) hev
            · exact finU hF hP hd hn hev
    · rename_i pre k b es m rest hf
      exact mov (find_look s fr [] _ _ _ hf) hev
    · rename_i pre nw k es h0 m rest hf
      have hr := hF.rep s
      rw [find_look s fr [] _ _ _ hf] at hr
      have h1 : RepF Lz Pr w ((s, .unk) :: fr) a.tmps (fun t => if t = s then [] else F t) := hF.plain (fun _ _ => rfl) (by simp [RepS]) rfl (by simp) (by simp)
      have hr' : RepS Lz Pr w (.mpa true k es h0 m) (a.tmps.getD s undef) (F s) := by simp only [RepS] at hr ⊢; exact hr
      refine fin hd hn h1 hP (Ext.refl _ _ _) ?_ hr' (hF.nodup s) ?_ (fun b hb => .inl ⟨s, hb⟩) rfl (by simp) (by simp) (by simp) hev
      · intro t b hb
        by_cases e : t = s
        · simp [e] at hb
        · rw [if_neg e] at hb; exact .inl ⟨t, hb⟩
      · intro t b hb q
        by_cases e : t = s
        · simp [e] at q
        · rw [if_neg e] at q; exact hF.apart t s e b q hb
    · rename_i pre cs rest hf
      have hr := hF.rep s
      rw [find_look s fr [] _ _ _ hf] at hr
      exact finV hF hP hd hn (hr.av rfl) hev
    · rename_i pre es l rest hf
      have hr := hF.rep s
      rw [find_look s fr [] _ _ _ hf] at hr
      have h1 : RepF Lz Pr w ((s, .unk) :: fr) a.tmps (fun t => if t = s then [] else F t) := hF.plain (fun _ _ => rfl) (by simp [RepS]) rfl (by simp) (by simp)
      have hr' : RepS Lz Pr w (.own es l) (a.tmps.getD s undef) (F s) := hr
      refine fin hd hn h1 hP (Ext.refl _ _ _) ?_ hr' (hF.nodup s) ?_ (fun b hb => .inl ⟨s, hb⟩) rfl (by simp) (by simp) (by simp) hev
      · intro t b hb
        by_cases e : t = s
        · simp [e] at hb
        · rw [if_neg e] at hb; exact .inl ⟨t, hb⟩
      · intro t b hb
        by_cases e : t = s
        · simp [e]
        · rw [if_neg e]; exact hF.apart s t (Ne.symm e) b hb
    · rename_i pre d k rest hf
      cases hb : bound d pre
      · rw [hb, cond_false] at hev
        exact fin hd hn hF hP (Ext.refl _ _ _) sub_self (B := []) (by simp [RepS]) List.nodup_nil (by simp) (by simp) rfl (by simp) (by simp) (by simp) hev (by intro d' k' h; cases h; exact hF.own s pre d k rest hf hb)
      · rw [hb, cond_true] at hev
        exact finU hF hP hd hn hev
    · exact finU hF hP hd hn hev
  · replace hev := withT_some hev; obtain ⟨i, hi, hev⟩ := hev
    cases hw : owB E o.dst
    · rw [hw, cond_false] at hev
      cases hz : fzB E o.dst
      · rw [hz] at hev
        exact fin hd hn hF hP (Ext.refl _ _ _) sub_self (B := []) (RepS_nil i.es Pr w) List.nodup_nil (by simp) (by simp) rfl (by simp) (by simp) (by simp) hev
      · rw [hz] at hev
        exact finV hF hP hd hn ((RepS_nil (Lz := Lz) i.es Pr w).av (x := .d (.sl i.es [])) rfl) hev
    · rw [hw, cond_true] at hev
      exact fin hd hn hF hP (Ext.refl _ _ _) sub_self (B := []) (sv := .own i.es []) (show RepS Lz Pr w (.own i.es []) (.slice none 0 0) [] by simp [RepS]) List.nodup_nil (by simp) (by simp) rfl (by simp) (by simp) (by simp) hev
  · replace hev := withT_some hev; obtain ⟨i, hi, hev⟩ := hev
    split at hev
    · rename_i k b es hs
      exact finV hF hP hd hn (x := .d (.mp k b es [])) (by simp [RepA, RepD, RepC, Act.eval]) hev
    · cases hev
  · split at hev
    · rename_i v hv
      exact finV hF hP hd hn (rdO_sound hF hv) hev
    · exact finU hF hP hd hn hev

theorem op_pick {c x y : Operand} (ho : o.op = .pick c x y) (hev : evOp0 T E o fr K = some r) (hF : RepF Lz Pr w fr a.tmps F) (hP : PrOK Pr w) (hd : DOK o a) (hn : Nx Lz K r o.dst Pr w a F next) : o.wp P a w next Q := by
  simp only [evOp0, ho] at hev
  split at hev
  · rename_i t hc
    have hb := rdO_sound hF hc
    simp only [RepA, RepD] at hb
    rcases br_some hev with ⟨ht, h1⟩ | ⟨ht, h1⟩
    · subst ht
      clear hev
      split at h1
      · rename_i v hv
        exact wp_value (v := a.eval x) (w' := w) (by simp [execOp, ho, hb, asBool]) (finV hF hP hd hn (rdO_sound hF hv) h1)
      · cases h1
    · subst ht
      clear hev
      split at h1
      · rename_i v hv
        exact wp_value (v := a.eval y) (w' := w) (by simp [execOp, ho, hb, asBool]) (finV hF hP hd hn (rdO_sound hF hv) h1)
      · cases h1
  · cases hev

/-- A new block, nothing of it for ever. -/
theorem finNew {sv : SV} {ob : Obj} (hF : RepF Lz Pr w fr a.tmps F) (hP : PrOK Pr w) (hd : DOK o a) (hn : Nx Lz K r o.dst Pr w a F next)
    (hr : RepS Lz Pr { w with heap := w.heap.push ob } sv (.pointer (some ⟨w.heap.size, 0, none⟩)) [w.heap.size]) (hu : sv.isUpd = false) (h0 : ∀ d o, sv ≠ .al d o) (h2 : ∀ d o, sv ≠ .ref d o)
    (hK : K (dset o.dst sv fr) = some r) (h3 : ∀ d k, sv ≠ .ow d k := by simp) : next (a.put o.dst (.pointer (some ⟨w.heap.size, 0, none⟩))) { w with heap := w.heap.push ob } := by
  have h1 : RepF Lz Pr { w with heap := w.heap.push ob } fr a.tmps F := hF.mono (PrLe.refl _) fun t => keeps_push (hF.lt t)
  refine fin hd hn h1 (hP.push ob) (Ext.push _ _ _ _) sub_self hr (by simp) ?_ (by simp) hu (fun d' q => absurd q (h0 d' none)) (fun d' o' q => absurd q (h0 d' (some o'))) (fun d' o' q => absurd q (h2 d' o')) hK (fun d' k q => absurd q (h3 d' k))
  intro t b hb q
  simp at hb; subst hb
  exact absurd (hF.lt t _ q) (by omega)

theorem zeros_rep : ∀ (es : List Sh) (vs : List Value), zerosB es vs = true → RepSs Lz Pr w (es.map fun e => match e with | .sl es => .app es [] | e => .val (.d (zeroD e))) vs (es.map fun _ => [])
  | [], [], _ => by simp [RepSs]
  | e :: es, v :: vs, h => by
    simp only [zerosB, Bool.and_eq_true] at h
    simp only [List.map_cons, RepSs]
    refine ⟨?_, zeros_rep es vs h.2⟩
    have h1 := h.1
    cases e with
    | int k =>
      cases v <;> simp [zeroB] at h1
      obtain ⟨rfl, rfl⟩ := h1
      simp [RepS, RepA, RepD, zeroD, toD, CE.dflt]
    | bool =>
      cases v <;> simp [zeroB] at h1
      subst h1
      simp [RepS, RepA, RepD, zeroD, toD, CE.dflt]
    | str =>
      cases v <;> simp [zeroB] at h1
      rename_i s
      subst h1
      simp only [RepS, RepA, RepD, zeroD, toD, CE.dflt]
      exact ⟨rfl, trivial⟩
    | sl es' =>
      unfold zeroB at h1
      split at h1 <;> simp_all
      simp [RepS]
    | mp k' b' es' =>
      unfold zeroB at h1
      split at h1 <;> simp_all
      simp [RepS, RepA, RepD, RepC, zeroD, toD, CE.dflt]
  | [], _ :: _, h => by simp [zerosB] at h
  | _ :: _, [], h => by simp [zerosB] at h
theorem flatten_nils {α β : Type} (l : List α) : (l.map fun _ => ([] : List β)).flatten = [] := by induction l <;> simp [*]

theorem op_alloc {t : TypeId} (hC : Cx P T) (ho : o.op = .alloc t) (hev : evOp0 T E o fr K = some r) (hF : RepF Lz Pr w fr a.tmps F) (hP : PrOK Pr w) (hd : DOK o a) (hn : Nx Lz K r o.dst Pr w a F next) : o.wp P a w next Q := by
  simp only [evOp0, ho] at hev
  replace hev := withT_some hev; obtain ⟨i, hi, hev⟩ := hev
  obtain ⟨tf⟩ := hC.facts hi
  refine wp_value (v := .pointer (some ⟨w.heap.size, 0, none⟩)) (w' := { w with heap := w.heap.push (.cells tf.z.cells t) }) (by simp [execOp, ho, Instr.alloc, tf.run_zero, newVar, newRow]) ?_
  refine finNew hF hP hd hn ?_ rfl (by simp) (by simp) hev
  simp only [RepS]
  exact ⟨w.heap.size, tf.z.cells, t, i.sh.map fun _ => [], rfl, by simp, fun o => hP.new o, by rw [flatten_nils], zeros_rep _ _ tf.hzb⟩

theorem vals_rep : ∀ (cs : List D) (vs : List Value), RepDs Pr cs vs → RepSs Lz Pr w (cs.map fun c => .val (.d c)) vs (cs.map fun _ => [])
  | [], [], _ => by simp [RepSs]
  | c :: cs, v :: vs, h => by
    simp only [List.map_cons, RepSs, RepS, RepA]
    exact ⟨⟨h.1, trivial⟩, vals_rep cs vs h.2⟩
  | [], _ :: _, h => by simp [RepDs] at h
  | _ :: _, [], h => by simp [RepDs] at h

theorem cellN_rep {w : World} : ∀ (cs : List D) (vs : List Value), RepDs Pr cs vs → RepSs Lz Pr w (cs.map cellN) vs (cs.map fun _ => [])
  | [], [], _ => by simp [RepSs]
  | c :: cs, v :: vs, h => by
    simp only [List.map_cons, RepSs]
    refine ⟨?_, cellN_rep cs vs h.2⟩
    have h1 := h.1
    cases c with
    | nl es => simp only [RepD] at h1; subst h1; simp [cellN, RepS]
    | _ => simp only [cellN, RepS, RepA]; exact ⟨h1, trivial⟩
  | [], _ :: _, h => by simp [RepDs] at h
  | _ :: _, [], h => by simp [RepDs] at h
theorem op_box {t : TypeId} {x : Operand} (ho : o.op = .box t x) (hev : evOp0 T E o fr K = some r) (hF : RepF Lz Pr w fr a.tmps F) (hP : PrOK Pr w) (hd : DOK o a) (hn : Nx Lz K r o.dst Pr w a F next) : o.wp P a w next Q := by
  simp only [evOp0, ho] at hev
  split at hev
  · rename_i cs hb
    obtain ⟨s, hxs, hl⟩ : ∃ s, x = .tmp s ∧ look1 s fr = .bld cs := by
      unfold bldOf at hb
      split at hb
      · rename_i s
        split at hb
        · rename_i q; cases hb; exact ⟨s, rfl, q⟩
        · cases hb
      · cases hb
    subst hxs
    have hr := hF.rep s
    rw [hl] at hr
    simp only [RepS] at hr
    obtain ⟨⟨c, hv, q⟩, _⟩ := hr
    refine wp_value (v := .pointer (some ⟨w.heap.size, 0, none⟩)) (w' := { w with heap := w.heap.push (.cells c t) }) (by simp only [execOp, ho, Act.eval, hv]; simp [Instr.box, newVar, newRow, Value.cells]) ?_
    refine finNew hF hP hd hn ?_ rfl (by simp) (by simp) hev
    simp only [RepS]
    exact ⟨w.heap.size, c, t, cs.map fun _ => [], rfl, by simp, fun o => hP.new o, by rw [flatten_nils], cellN_rep _ _ q⟩
  cases hx : rdO fr x with
  | none => simp [hx] at hev
  | some v =>
    cases hcs : v.cells with
    | none => simp [hx, hcs] at hev
    | some cs =>
      simp only [hx, Option.bind_some, hcs] at hev
      have hr := (rdO_sound hF hx).cells hcs
      refine wp_value (v := .pointer (some ⟨w.heap.size, 0, none⟩)) (w' := { w with heap := w.heap.push (.cells (a.eval x).cells t) }) (by simp [execOp, ho, Instr.box, newVar, newRow]) ?_
      refine finNew hF hP hd hn ?_ rfl (by simp) (by simp) hev
      simp only [RepS]
      exact ⟨w.heap.size, (a.eval x).cells, t, cs.map fun _ => [], rfl, by simp, fun o => hP.new o, by rw [flatten_nils], vals_rep _ _ hr⟩

theorem op_nilCheck {x : Operand} (ho : o.op = .nilCheck x) (hev : evOp0 T E o fr K = some r) (hF : RepF Lz Pr w fr a.tmps F) (hP : PrOK Pr w) (hd : DOK o a) (hn : Nx Lz K r o.dst Pr w a F next) : o.wp P a w next Q := by
  simp only [evOp0, ho] at hev
  split at hev
  · rename_i s
    split at hev
    · rename_i pre nw cs rest hf
      have hr := hF.rep s
      rw [find_look s fr [] _ _ _ hf] at hr
      simp only [RepS] at hr
      obtain ⟨b, c, T', Bs, hv, _⟩ := hr
      refine wp_value (v := .pointer (some ⟨b, 0, none⟩)) (w' := w) (by simp only [execOp, ho, Act.eval, hv]; rfl) ?_
      exact finRef hF hP hd hn hv hev
    · rename_i pre d off rest hf
      cases hb : remade d pre
      · rw [hb, cond_false] at hev
        obtain ⟨b, hv0, hv⟩ := hF.ref s pre d off rest hf hb
        refine wp_value (v := .pointer (some ⟨b, off, none⟩)) (w' := w) (by simp only [execOp, ho, Act.eval, hv]; rfl) ?_
        exact finRef hF hP hd hn hv0 hev
      · rw [hb, cond_true] at hev; cases hev
    · rename_i pre d rest hf
      cases hb : bound d pre
      · rw [hb, cond_false] at hev
        have ha := hF.alias0 s pre d rest hf hb
        have hl := find_rest s d fr pre _ rest hf hb
        split at hev
        · rename_i nw cs hl2
          have hr := hF.rep d
          rw [hl2] at hr
          simp only [RepS] at hr
          obtain ⟨b, c, T', Bs, hv, _⟩ := hr
          refine wp_value (v := .pointer (some ⟨b, 0, none⟩)) (w' := w) (by simp only [execOp, ho, Act.eval, ha, hv]; rfl) ?_
          exact finRef hF hP hd hn hv hev
        · cases hev
      · rw [hb, cond_true] at hev; cases hev
    · cases hev
  · cases hev
end
end Go.Proofs.Ytgcjhcefpkbheaa.Lg
end

section
namespace Go.Proofs.Ytgcjhcefpkbheaa.Lg
open Go
variable {Lz : PM}
section
variable {R : Type} {P : Program} {T : Tab} {E : CallS} {o : Oper} {fr : Fr} {K : Fr → Option R} {r : R} {Pr : PM} {w : World} {a : Act} {F : Nat → List Nat}
  {next : Act → World → Prop} {Q : Exit → Act → World → Prop}

theorem intsOf_eq : ∀ (cs : List D) (k : IntKind) (l : List Int), intsOf cs = some (k, l) → cs = l.map (D.int k)
  | [], k, l, h => by simp [intsOf] at h
  | .int k' n :: cs, k, l, h => by
    simp only [intsOf] at h
    cases cs with
    | nil => simp at h; obtain ⟨rfl, rfl⟩ := h; rfl
    | cons c cs =>
      simp only at h
      cases e : intsOf (c :: cs) with
      | none => rw [e] at h; cases h
      | some p =>
        obtain ⟨k2, l2⟩ := p
        rw [e] at h
        simp only at h
        split at h
        · rename_i hk
          simp at h
          obtain ⟨rfl, rfl⟩ := h
          subst hk
          rw [intsOf_eq (c :: cs) _ _ e]; rfl
        · cases h
  | .bool _ :: _, _, _, h => by simp [intsOf] at h
  | .str _ :: _, _, _, h => by simp [intsOf] at h
  | .sl _ _ :: _, _, _, h => by simp [intsOf] at h
theorem strsOf_eq : ∀ (cs : List D) (l : List (List UInt8)), strsOf cs = some l → cs = l.map D.str
  | [], l, h => by simp [strsOf] at h; subst h; rfl
  | .str s :: cs, l, h => by
    simp only [strsOf] at h
    cases e : strsOf cs with
    | none => rw [e] at h; cases h
    | some l2 => rw [e] at h; simp at h; subst h; rw [strsOf_eq cs _ e]; rfl
  | .int .. :: _, _, h => by simp [strsOf] at h
  | .bool _ :: _, _, h => by simp [strsOf] at h
  | .sl _ _ :: _, _, h => by simp [strsOf] at h
theorem part_one (cs : List D) (n : Nat) (x : D) (h : cs[n]? = some x) : Lg.part false (n * 1) 1 cs = some (.d x) := by
  have hl : n < cs.length := (List.getElem?_eq_some_iff.1 h).1
  simp only [Lg.part, Nat.mul_one, cond_false]
  rw [List.drop_eq_getElem_cons hl]
  have := (List.getElem?_eq_some_iff.1 h).2
  simp [this]
theorem idxD_part {agg : Bool} {len n m : Nat} {cs : List D} {v : AV} (hn : n < len) (h : idxD agg len n m cs = some v) : Lg.part agg (n * m) m cs = some v := by
  unfold idxD at h
  split at h
  · split at h
    · rename_i k l hl
      cases hb : Nat.beq l.length len with
      | false => rw [hb, cond_false] at h; exact h
      | true =>
        rw [hb, cond_true] at h
        have := Nat.eq_of_beq_eq_true hb
        simp at h; subst h
        rw [intsOf_eq _ _ _ hl]
        exact part_one _ _ _ (by simp [show n < l.length by omega])
    · split at h
      · rename_i l hl
        cases hb : Nat.beq l.length len with
        | false => rw [hb, cond_false] at h; exact h
        | true =>
          rw [hb, cond_true] at h
          have := Nat.eq_of_beq_eq_true hb
          simp at h; subst h
          rw [strsOf_eq _ _ hl]
          exact part_one _ _ _ (by simp [show n < l.length by omega])
      · exact h
  · exact h

theorem at_vals : ∀ (cs : List D) (b o : Nat), (∀ j x, cs[j]? = some x → ∃ u, Pr b (o + j) = some u ∧ RepD Pr x u) → ∃ us, RepDs Pr cs us ∧ ∀ j u, us[j]? = some u → Pr b (o + j) = some u
  | [], _, _, _ => ⟨[], trivial, by simp⟩
  | c :: cs, b, o, h => by
    obtain ⟨u, h1, h2⟩ := h 0 c rfl
    obtain ⟨us, k1, k2⟩ := at_vals cs b (o + 1) (fun j x hj => by
      obtain ⟨u, q1, q2⟩ := h (j + 1) x (by simpa using hj)
      exact ⟨u, by rw [show o + 1 + j = o + (j + 1) by omega]; exact q1, q2⟩)
    refine ⟨u :: us, ⟨h2, k1⟩, fun j v hj => ?_⟩
    cases j with
    | zero => simp at hj; subst hj; simpa using h1
    | succ j => have := k2 j v (by simpa using hj); rw [show o + (j + 1) = o + 1 + j by omega]; exact this

theorem RepDs.take {cs : List D} {vs : List Value} (n : Nat) (h : RepDs Pr cs vs) : RepDs Pr (cs.take n) (vs.take n) := by
  have hl := RepDs.length cs vs h
  refine RepDs.of_get _ _ (by simp [hl]) fun j d v hd hv => ?_
  rw [List.getElem?_take] at hd hv
  split at hd
  · rename_i hj; rw [if_pos hj] at hv; exact RepDs.get cs vs h j d v hd hv
  · cases hd
theorem RepDs.drop {cs : List D} {vs : List Value} (n : Nat) (h : RepDs Pr cs vs) : RepDs Pr (cs.drop n) (vs.drop n) := by
  have hl := RepDs.length cs vs h
  refine RepDs.of_get _ _ (by simp [hl]) fun j d v hd hv => ?_
  rw [List.getElem?_drop] at hd hv
  exact RepDs.get cs vs h _ d v hd hv

theorem run_loadAt {t : TypeId} {i : TI} (tf : TyF P t i) {b o : Nat} {us : List Value} (hl : us.length = i.sh.length) (hc : ∀ j u, us[j]? = some u → w.cell? ⟨b, o + j, none⟩ = some u) :
    (i.agg = true → (Instr.loadAt t (.pointer (some ⟨b, o, none⟩))).run P w = .ok (.agg us.toArray) w) ∧ (i.agg = false → ∀ u rest, us = u :: rest → (Instr.loadAt t (.pointer (some ⟨b, o, none⟩))).run P w = .ok u w) := by
  constructor
  · intro ha
    have := run_loadCells_list (P := P) w ⟨b, o, none⟩ us (fun j v hj => by rw [Addr.add_lit]; exact hc j v hj)
    rw [hl] at this
    simp [Instr.loadAt, Instr.sureAddr, loadVar, tf.run_isAgg, ha, tf.run_sizeOf, this]
  · intro ha u rest hu
    have := hc 0 u (by simp [hu])
    simp at this
    simp [Instr.loadAt, Instr.sureAddr, loadVar, tf.run_isAgg, ha, this]

theorem RepSs.cellsD : ∀ (cs : List SV) (vs : List Value) (Bs : List (List Nat)) (ds : List D), RepSs Lz Pr w cs vs Bs → Lg.cellsD cs = some ds → RepDs Pr ds vs
  | [], [], [], ds, _, h => by simp [Lg.cellsD] at h; subst h; trivial
  | c :: cs, v :: vs, B :: Bs, ds, q, h => by
    simp only [RepSs] at q
    simp only [Lg.cellsD] at h
    split at h
    · rename_i x l h1 h2
      simp at h; subst h
      exact ⟨by have := q.1.av h1; simpa only [RepA] using this, RepSs.cellsD cs vs Bs l q.2 h2⟩
    · cases h
  | [], _ :: _, _, _, q, _ => by simp [RepSs] at q
  | _ :: _, [], _, _, q, _ => by simp [RepSs] at q
  | [], [], _ :: _, _, q, _ => by simp [RepSs] at q
  | _ :: _, _ :: _, [], _, q, _ => by simp [RepSs] at q
theorem RepSs.drop : ∀ (n : Nat) (cs : List SV) (vs : List Value) (Bs : List (List Nat)), RepSs Lz Pr w cs vs Bs → RepSs Lz Pr w (cs.drop n) (vs.drop n) (Bs.drop n)
  | 0, _, _, _, q => by simpa using q
  | n + 1, [], [], [], q => by simpa using q
  | n + 1, c :: cs, v :: vs, B :: Bs, q => by simp only [RepSs] at q; simpa using RepSs.drop n cs vs Bs q.2
  | _, [], _ :: _, _, q => by simp [RepSs] at q
  | _, _ :: _, [], _, q => by simp [RepSs] at q
  | _, [], [], _ :: _, q => by simp [RepSs] at q
  | _, _ :: _, _ :: _, [], q => by simp [RepSs] at q
theorem RepSs.take : ∀ (n : Nat) (cs : List SV) (vs : List Value) (Bs : List (List Nat)), RepSs Lz Pr w cs vs Bs → RepSs Lz Pr w (cs.take n) (vs.take n) (Bs.take n)
  | 0, _, _, _, q => by simp [RepSs]
  | n + 1, [], [], [], q => by simpa using q
  | n + 1, c :: cs, v :: vs, B :: Bs, q => by simp only [RepSs] at q; simp only [List.take_succ_cons, RepSs]; exact ⟨q.1, RepSs.take n cs vs Bs q.2⟩
  | _, [], _ :: _, _, q => by simp [RepSs] at q
  | _, _ :: _, [], _, q => by simp [RepSs] at q
  | _, [], [], _ :: _, q => by simp [RepSs] at q
  | _, _ :: _, _ :: _, [], q => by simp [RepSs] at q

theorem cellAt_lt : ∀ (o : Nat) (cs : List SV), cellAt o cs ≠ .unk → o < cs.length
  | _, [], h => by simp [cellAt] at h
  | 0, c :: cs, _ => by simp
  | o + 1, c :: cs, h => by simp only [cellAt] at h; have := cellAt_lt o cs h; simp; omega

theorem RowsVals.get {Pr : PM} {es : List Sh} : ∀ (l : List (RowE es)) (vss : List (List Value)) (i : Nat) (x : RowE es), RowsVals Pr es l vss → l[i]? = some x → ∃ vs, RowVals Pr es x vs ∧ vs.length = es.length ∧ ∀ (j : Nat) (v : Value), vs[j]? = some v → vss.flatten[i * es.length + j]? = some v
  | r :: l, vs :: vss, 0, x, h, hx => by
    simp at hx; subst hx
    have hn := RowVals.length es r vs h.1
    refine ⟨vs, h.1, hn, fun j v hj => ?_⟩
    have := (List.getElem?_eq_some_iff.1 hj).1
    rw [Nat.zero_mul, Nat.zero_add, List.flatten_cons, List.getElem?_append_left this]; exact hj
  | r :: l, vs :: vss, i + 1, x, h, hx => by
    obtain ⟨us, h1, h2, h3⟩ := RowsVals.get l vss i x h.2 (by simpa using hx)
    have hn := RowVals.length es r vs h.1
    refine ⟨us, h1, h2, fun j v hj => ?_⟩
    rw [List.flatten_cons, List.getElem?_append_right (by rw [hn, Nat.add_mul]; omega), hn, show (i + 1) * es.length + j - es.length = i * es.length + j by rw [Nat.add_mul]; omega]
    exact h3 j v hj
  | [], [], i, x, _, hx => by simp at hx
  | [], _ :: _, _, _, h, _ => by simp [RowsVals] at h
  | _ :: _, [], _, _, h, _ => by simp [RowsVals] at h
theorem RepC.toD {Pr : PM} : ∀ (e : Sh) (x : CE e) (v : Value), RepC Pr e x v → RepD Pr (Lg.toD e x) v
  | .int _, _, _, h => by simp only [RepC] at h; exact h
  | .bool, _, _, h => by simp only [RepC] at h; exact h
  | .str, _, _, h => by simp only [RepC] at h; exact h
  | .sl es, _, _, h => h
  | .mp _ _ _, _, _, h => h
theorem RowVals.ds {Pr : PM} : ∀ (es : List Sh) (r : RowE es) (vs : List Value), RowVals Pr es r vs → RepDs Pr (rowD es r) vs
  | [], _, [], _ => trivial
  | e :: es, r, v :: vs, h => by simp only [RowVals] at h; exact ⟨RepC.toD e r.1 v h.1, RowVals.ds es r.2 vs h.2⟩
  | [], _, _ :: _, h => by simp [RowVals] at h
  | _ :: _, _, [], h => by simp [RowVals] at h

theorem RepDs.tup {Pr : PM} : ∀ {cs : List D} {us : List Value}, RepDs Pr cs us → ∀ (j : Nat) (u : Value), us[j]? = some u → isTup u = false
  | [], [], _, j, u, h => by simp at h
  | _ :: _, _ :: _, q, 0, u, h => by simp at h; subst h; exact q.1.tup
  | _ :: _, _ :: _, q, j + 1, u, h => RepDs.tup q.2 j u (by simpa using h)
  | [], _ :: _, q, _, _, _ => by simp [RepDs] at q
  | _ :: _, [], q, _, _, _ => by simp [RepDs] at q
theorem op_load {t : TypeId} {x : Operand} (hC : Cx P T) (ho : o.op = .load t x) (hev : evOp0 T E o fr K = some r) (hF : RepF Lz Pr w fr a.tmps F) (hP : PrOK Pr w) (hd : DOK o a) (hn : Nx Lz K r o.dst Pr w a F next) : o.wp P a w next Q := by
  simp only [evOp0, ho] at hev
  replace hev := withT_some hev; obtain ⟨i, hi, hev⟩ := hev
  obtain ⟨tf⟩ := hC.facts hi
  split at hev
  · rename_i s
    split at hev
    · rename_i pre cs rest hf
      have hr := hF.rep s
      rw [find_look s fr [] _ _ _ hf] at hr
      simp only [RepS] at hr
      obtain ⟨⟨b, off, hv, hat⟩, _⟩ := hr
      obtain ⟨us, hus, hcell⟩ := at_vals cs b off hat
      have hlen := RepDs.length cs us hus
      unfold part at hev
      cases ha : i.agg
      · rw [ha, cond_false] at hev
        cases hcs : cs with
        | nil => simp [hcs] at hev
        | cons c cs' =>
          simp [hcs] at hev
          cases hu : us with
          | nil => rw [hu, hcs] at hlen; simp at hlen
          | cons u us' =>
            rw [hu, hcs] at hus
            have h1 : w.cell? ⟨b, off, none⟩ = some u := hP.cell (by have := hcell 0 u (by simp [hu]); simpa using this) hus.1.tup
            refine wp_value (v := u) (w' := w) ?_ (finV hF hP hd hn (x := .d c) (by simp only [RepA]; exact hus.1) hev)
            simp [execOp, ho, Act.eval, hv, Instr.loadAt, Instr.sureAddr, loadVar, tf.run_isAgg, ha, h1]
      · rw [ha, cond_true] at hev
        cases hb : Nat.ble (0 + i.sh.length) cs.length
        · rw [hb] at hev; simp at hev
        · rw [hb] at hev
          have hb' := Nat.le_of_ble_eq_true hb
          simp at hev
          have := (run_loadAt (w := w) tf (b := b) (o := off) (us := us.take i.sh.length) (by simp [hlen]; omega) (fun j u hj => by
            rw [List.getElem?_take] at hj
            split at hj
            · exact hP.cell (hcell j u hj) (hus.tup j u hj)
            · cases hj)).1 ha
          refine wp_value (v := .agg (us.take i.sh.length).toArray) (w' := w) (by simp [execOp, ho, Act.eval, hv, this]) (finV hF hP hd hn (x := .agg (cs.take i.sh.length)) ?_ hev)
          simp only [RepA]
          exact ⟨_, rfl, by simpa using hus.take i.sh.length⟩
    · split at hev
      · rename_i cs hrow
        obtain ⟨d, ix, o', es, l, rfl, hl, b, off, len, cap, q1, q2, q3⟩ := rowAt_sound hF hrow
        have hr := hF.rep d
        rw [hl] at hr
        simp only [RepS] at hr
        rw [q1] at hr
        rcases hr with ⟨h, _⟩ | ⟨b', off', cap', c, T', vss, h1, _, hbl, h3, _, _, h6, h7⟩
        · cases h
        · simp only [Value.slice.injEq, Option.some.injEq, Addr.mk.injEq] at h1
          obtain ⟨⟨rfl, rfl, _⟩, rfl, rfl⟩ := h1
          obtain ⟨vs0, g1, g2, g3⟩ := RowsVals.get l vss ix (getR es l (ix : Int)) h6 (by simp [getR, List.getElem?_eq_getElem q2])
          have hus0 := RowVals.ds es _ vs0 g1
          have hus := hus0.drop o'
          have hcell : ∀ (j : Nat) (u : Value), (vs0.drop o')[j]? = some u → w.cell? ⟨b, off + ix * es.length + o' + j, none⟩ = some u := fun j u hj => by
            rw [List.getElem?_drop] at hj
            rw [cell_cells hbl, Nat.add_assoc, Nat.add_assoc]
            exact h7 _ _ (g3 _ u hj)
          generalize hvs : vs0.drop o' = vs at *
          generalize hcsd : (rowD es (getR es l (ix : Int))).drop o' = csd at *
          have hv : a.eval (.tmp s) = .pointer (some ⟨b, off + ix * es.length + o', none⟩) := q3
          have hlen := RepDs.length _ vs hus
          unfold part at hev
          cases ha : i.agg
          · rw [ha, cond_false] at hev
            cases hcs : csd with
            | nil => simp [hcs] at hev
            | cons c' cs' =>
              simp [hcs] at hev
              cases hu : vs with
              | nil => rw [hu, hcs] at hlen; simp at hlen
              | cons u us' =>
                rw [hu, hcs] at hus
                have h1 : w.cell? ⟨b, off + ix * es.length + o', none⟩ = some u := by have := hcell 0 u (by simp [hu]); simpa using this
                refine wp_value (v := u) (w' := w) ?_ (finV hF hP hd hn (x := .d c') (by simp only [RepA]; exact hus.1) hev)
                simp [execOp, ho, hv, Instr.loadAt, Instr.sureAddr, loadVar, tf.run_isAgg, ha, h1]
          · rw [ha, cond_true] at hev
            cases hb : Nat.ble (0 + i.sh.length) csd.length
            · rw [hb] at hev; simp at hev
            · rw [hb] at hev
              have hb' := Nat.le_of_ble_eq_true hb
              simp at hev
              have := (run_loadAt (w := w) tf (b := b) (o := off + ix * es.length + o') (us := vs.take i.sh.length) (by simp [hlen] at hb' ⊢; omega) (fun j u hj => by
                rw [List.getElem?_take] at hj
                split at hj
                · exact hcell j u hj
                · cases hj)).1 ha
              refine wp_value (v := .agg (vs.take i.sh.length).toArray) (w' := w) (by simp [execOp, ho, hv, this]) (finV hF hP hd hn (x := .agg (csd.take i.sh.length)) ?_ hev)
              simp only [RepA]
              exact ⟨_, rfl, by simpa using hus.take i.sh.length⟩
      · cases hev
    · rename_i d off hr _ _
      cases hbx : boxOf d fr with
      | none => simp [hbx] at hev
      | some cs =>
        simp only [hbx] at hev
        obtain ⟨b, c, T', nw, Bs, hv, hv0, hl, hbl, hpr, hB, hss⟩ := root_sound hF hr hbx
        cases ha : i.agg
        · simp only [ha, cond_false] at hev
          have plain : (match cellAt off cs with | .val v => K (dset o.dst (.val v) fr) | .app _ _ => K (dset o.dst (.al d (some off)) fr) | _ => none) = some r → o.wp P a w next Q := by
            intro hev
            split at hev
            · rename_i v hcv
              have hlt := cellAt_lt off cs (by rw [hcv]; simp)
              have hlen := RepSs.length cs c.toList Bs hss
              have hoff : off < c.size := by have := hlen.1; simp at this; omega
              have hu : c[off]? = some c[off] := by simp [hoff]
              obtain ⟨B, _, _, h3⟩ := RepSs.cell cs c.toList Bs hss off c[off] (by simp)
              rw [hcv] at h3
              refine wp_value (v := c[off]) (w' := w) ?_ (finV hF hP hd hn (h3.av rfl) hev)
              simp [execOp, ho, Act.eval, hv, Instr.loadAt, Instr.sureAddr, loadVar, tf.run_isAgg, ha, cell_cells hbl, hu]
            · rename_i es l hcv
              have hlt := cellAt_lt off cs (by rw [hcv]; simp)
              have hlen := RepSs.length cs c.toList Bs hss
              have hoff : off < c.size := by have := hlen.1; simp at this; omega
              have hu : c[off]? = some c[off] := by simp [hoff]
              refine wp_value (v := c[off]) (w' := w) ?_ (fin hd hn hF hP (Ext.refl _ _ _) sub_self (B := []) (by simp [RepS]) List.nodup_nil (by simp) (by simp) rfl (by simp) ?_ (by simp) hev)
              · simp [execOp, ho, Act.eval, hv, Instr.loadAt, Instr.sureAddr, loadVar, tf.run_isAgg, ha, cell_cells hbl, hu]
              · intro d' o' h; cases h
                exact ⟨b, c, T', hv0, by rw [hB]; exact List.mem_cons_self, hbl, hu⟩
            · cases hev
          cases hbig : Nat.blt 16 cs.length
          · rw [hbig, cond_false] at hev; exact plain hev
          · rw [hbig, cond_true] at hev
            split at hev
            · rename_i ds hds
              obtain ⟨hlt, hev⟩ := chk_some hev
              split at hev
              · rename_i v hi2
                have hdr := RepSs.cellsD _ _ _ ds hss hds
                have hl1 := RepDs.length _ _ hdr
                have hoff : off < c.size := by simp at hl1; omega
                have hu : c[off]? = some c[off] := by simp [hoff]
                have hpt := idxD_part hlt hi2
                have hpa : RepA Pr v c[off] := by
                  simp only [Lg.part, Nat.mul_one, cond_false] at hpt
                  rw [List.drop_eq_getElem_cons hlt] at hpt
                  simp at hpt
                  subst hpt
                  simp only [RepA]
                  exact RepDs.get ds c.toList hdr off _ _ (by simp [hlt]) (by simp [hoff])
                refine wp_value (v := c[off]) (w' := w) ?_ (finV hF hP hd hn hpa hev)
                simp [execOp, ho, Act.eval, hv, Instr.loadAt, Instr.sureAddr, loadVar, tf.run_isAgg, ha, cell_cells hbl, hu]
              · cases hev
            · exact plain hev
        · simp only [ha, cond_true] at hev
          split at hev
          · rename_i ds hds
            cases hb : Nat.beq ds.length i.sh.length
            · rw [hb] at hev; simp at hev
            · rw [hb, cond_true] at hev
              have hb' := Nat.eq_of_beq_eq_true hb
              have h1 := RepSs.cellsD _ _ _ ds (RepSs.take i.sh.length _ _ _ (RepSs.drop off _ _ _ hss)) hds
              have hl1 := RepDs.length _ _ h1
              have := (run_loadAt (w := w) tf (b := b) (o := off) (us := (c.toList.drop off).take i.sh.length) (by rw [hl1, hb']) (fun j u hj => by
                rw [cell_cells hbl]
                rw [List.getElem?_take] at hj
                split at hj
                · rw [List.getElem?_drop] at hj; simpa using hj
                · cases hj)).1 ha
              refine wp_value (v := .agg ((c.toList.drop off).take i.sh.length).toArray) (w' := w) (by simp only [execOp, ho, Act.eval, hv]; simp [this]) (finV hF hP hd hn (x := .agg ds) ?_ hev)
              simp only [RepA]
              exact ⟨_, rfl, h1⟩
          · cases hev
    · cases hev
  · cases hev

/-- Writing into a variable of one's own: the cells from off on are new. -/
theorem RepSs.setAt : ∀ (o : Nat) (xs : List SV) (us : List Value) (Cs : List (List Nat)) (cs : List SV) (vs : List Value) (Bs : List (List Nat)), RepSs Lz Pr w cs vs Bs → RepSs Lz Pr w xs us Cs → o + xs.length ≤ cs.length →
    RepSs Lz Pr w (Lg.setAt o xs cs) (vs.take o ++ us ++ vs.drop (o + us.length)) (Bs.take o ++ Cs ++ Bs.drop (o + us.length))
  | 0, [], [], [], cs, vs, Bs, h, _, _ => by
    have : Lg.setAt 0 [] cs = cs := by cases cs <;> simp [Lg.setAt]
    simpa [this] using h
  | 0, x :: xs, u :: us, C :: Cs, c :: cs, v :: vs, B :: Bs, h, k, hl => by
    simp only [RepSs] at h k
    have := RepSs.setAt 0 xs us Cs cs vs Bs h.2 k.2 (by simp at hl ⊢; omega)
    simp only [Lg.setAt, List.take_zero, List.nil_append, List.cons_append, List.length_cons, Nat.zero_add, List.drop_succ_cons] at this ⊢
    simp only [RepSs]
    exact ⟨k.1, this⟩
  | o + 1, xs, us, Cs, c :: cs, v :: vs, B :: Bs, h, k, hl => by
    simp only [RepSs] at h
    have := RepSs.setAt o xs us Cs cs vs Bs h.2 k (by simp at hl; omega)
    have e : Lg.setAt (o + 1) xs (c :: cs) = c :: Lg.setAt o xs cs := by
      cases xs with
      | nil => have : Lg.setAt o [] cs = cs := by cases cs <;> cases o <;> simp [Lg.setAt]
               simp [Lg.setAt, this]
      | cons x xs => simp [Lg.setAt]
    rw [e, show o + 1 + us.length = (o + us.length) + 1 by omega]
    simp only [List.take_succ_cons, List.cons_append, List.drop_succ_cons, RepSs]
    exact ⟨h.1, this⟩
  | o + 1, xs, us, Cs, [], vs, Bs, h, k, hl => by simp at hl
  | 0, x :: xs, us, Cs, [], vs, Bs, h, k, hl => by simp at hl
  | 0, [], _ :: _, _, _, _, _, _, k, _ => by simp [RepSs] at k
  | 0, [], [], _ :: _, _, _, _, _, k, _ => by simp [RepSs] at k
  | 0, _ :: _, [], _, _, _, _, _, k, _ => by simp [RepSs] at k
  | 0, _ :: _, _ :: _, [], _, _, _, _, k, _ => by simp [RepSs] at k
  | 0, _ :: _, _ :: _, _ :: _, _ :: _, [], _, h, _, _ => by simp [RepSs] at h
  | 0, _ :: _, _ :: _, _ :: _, _ :: _, _ :: _, [], h, _, _ => by simp [RepSs] at h
  | _ + 1, _, _, _, _ :: _, [], _, h, _, _ => by simp [RepSs] at h
  | _ + 1, _, _, _, _ :: _, _ :: _, [], h, _, _ => by simp [RepSs] at h

theorem flatten_part (Bs : List (List Nat)) (o n : Nat) : ∀ b ∈ (Bs.take o ++ Bs.drop (o + n)).flatten, b ∈ Bs.flatten := by
  intro b hb
  obtain ⟨B, h1, h2⟩ := List.mem_flatten.1 hb
  refine List.mem_flatten.2 ⟨B, ?_, h2⟩
  rcases List.mem_append.1 h1 with h | h
  · exact List.mem_of_mem_take h
  · exact List.mem_of_mem_drop h
theorem sublist_part (Bs : List (List Nat)) (o n : Nat) : (Bs.take o ++ Bs.drop (o + n)).Sublist Bs := by
  have h1 : (Bs.drop (o + n)).Sublist (Bs.drop o) := by
    rw [← List.drop_drop]; exact List.drop_sublist _ _
  have := (List.Sublist.refl (Bs.take o)).append h1
  rwa [List.take_append_drop] at this
theorem sub_flatten {l m : List (List Nat)} (h : l.Sublist m) : l.flatten.Sublist m.flatten := by
  induction h with
  | slnil => exact List.Sublist.refl _
  | cons a _ ih => exact ih.trans (List.sublist_append_right _ _)
  | cons_cons a _ ih => exact (List.Sublist.refl a).append ih
theorem nodup_part (Bs : List (List Nat)) (o n : Nat) (h : Bs.flatten.Nodup) : (Bs.take o ++ Bs.drop (o + n)).flatten.Nodup :=
  (sub_flatten (sublist_part Bs o n)).nodup h

/-- The store itself. frame fr1 (its claims F1), new cells xs told of the values us, claims Cs. -/
theorem store_core {t : TypeId} {i : TI} {s d off : Nat} {cs xs : List SV} {fr1 : Fr} {F1 : Nat → List Nat} {v : Value} {Cs : List (List Nat)} {x y : Operand}
    (tf : TyF P t i) (ho : o.op = .store t x y) (hx : a.eval x = a.tmps.getD s undef) (hy : a.eval y = v) (hF1 : RepF Lz Pr w fr1 a.tmps F1) (hsub : ∀ t' b, b ∈ F1 t' → ∃ t'', b ∈ F t'')
    (hP : PrOK Pr w) (hd : DOK o a) (hn : Nx Lz K r o.dst Pr w a F next) {b : Nat} {c : Array Value} {T' : TypeId} {nw : Bool} {Bs : List (List Nat)}
    (hv : a.tmps.getD s undef = .pointer (some ⟨b, off, none⟩)) (hv0 : a.tmps.getD d undef = .pointer (some ⟨b, 0, none⟩)) (hl : look1 d fr1 = .box nw cs) (hbl : w.heap[b]? = some (.cells c T' (0, 0)))
    (hpr : ∀ o, Pr b o = none) (hB : F1 d = b :: Bs.flatten) (hss : RepSs Lz Pr w cs c.toList Bs)
    (hus : RepSs Lz Pr w xs v.cells.toList Cs) (hone : ∀ u ∈ v.cells.toList, u.oneCell' = true) (hsz : v.cells.size = i.sh.length) (hfit : off + xs.length ≤ cs.length)
    (hCn : Cs.flatten.Nodup) (hCa : ∀ t', ∀ b' ∈ Cs.flatten, b' ∉ F1 t') (hCs : ∀ b' ∈ Cs.flatten, ∃ t', b' ∈ F t')
    (hdst : o.dst = none) (hK : K ((d, .box false (Lg.setAt off xs cs)) :: fr1) = some r) : o.wp P a w next Q := by
  have hlen := RepSs.length cs c.toList Bs hss
  have hulen := RepSs.length xs v.cells.toList Cs hus
  have hrun : (storeCells ⟨b, off, none⟩ v.cells.toList 0).run P w = .ok () (w.setRow b (c.toList.take off ++ v.cells.toList ++ c.toList.drop (off + v.cells.toList.length)).toArray) := by
    have := run_storeCells_at P b off T' v.cells.toList 0 c w hbl (by simp at hlen hulen ⊢; omega) hone
    simpa using this
  have hw : (execOp a.eval o).run P w = .ok .skip (w.setRow b (c.toList.take off ++ v.cells.toList ++ c.toList.drop (off + v.cells.toList.length)).toArray) := by
    simp only [execOp, ho, hx, hv, hy, Instr.storeAt, Instr.sureAddr, storeVar, Sem.run_bind, Sem.run_pure, Result.andThen_ok, tf.run_sizeOf, hsz, ne_eq, not_true_eq_false, if_false, hrun]
  refine wp_skip' hw ?_
  generalize hw' : w.setRow b (c.toList.take off ++ v.cells.toList ++ c.toList.drop (off + v.cells.toList.length)).toArray = w'
  have hbl' : w'.heap[b]? = some (.cells (c.toList.take off ++ v.cells.toList ++ c.toList.drop (off + v.cells.toList.length)).toArray T' (0, 0)) := by
    rw [← hw']; exact setRow_heap w b c _ T' (0, 0) hbl
  have hoth : ∀ k, k ≠ b → w'.heap[k]? = w.heap[k]? := fun k hk => by rw [← hw']; exact setRow_other w b k _ hk
  have hsize : w'.heap.size = w.heap.size := by rw [← hw']; simp
  have hbd : b ∈ F1 d := by rw [hB]; exact List.mem_cons_self
  have hnd := hF1.nodup d
  rw [hB] at hnd
  have hnd2 := List.nodup_cons.1 hnd
  have hkeep : ∀ (B : List Nat), b ∉ B → Keeps B Pr w Pr w' := fun B hb b' hb' => ⟨hoth b' (fun e => hb (e ▸ hb')), fun _ => rfl⟩
  have hCb : b ∉ Cs.flatten := fun q => hCa d b q hbd
  have hnew : RepS Lz Pr w' (.box false (Lg.setAt off xs cs)) (a.tmps.getD d undef) (b :: (Bs.take off ++ Cs ++ Bs.drop (off + v.cells.toList.length)).flatten) := by
    simp only [RepS]
    refine ⟨b, _, T', _, hv0, hbl', hpr, rfl, ?_⟩
    have h1 := RepSs.mono (PrLe.refl Pr) cs c.toList Bs (hkeep _ hnd2.1) hss
    have h2 := RepSs.mono (PrLe.refl Pr) xs v.cells.toList Cs (hkeep _ hCb) hus
    simpa using RepSs.setAt off xs v.cells.toList Cs cs c.toList Bs h1 h2 hfit
  have hperm : ∀ b', b' ∈ (Bs.take off ++ Cs ++ Bs.drop (off + v.cells.toList.length)).flatten ↔ b' ∈ (Bs.take off ++ Bs.drop (off + v.cells.toList.length)).flatten ∨ b' ∈ Cs.flatten := by
    intro b'; simp only [List.flatten_append, List.mem_append]; exact ⟨fun h => h.elim (fun h => h.elim (fun h => .inl (.inl h)) .inr) (fun h => .inl (.inr h)), fun h => h.elim (fun h => h.elim (fun h => .inl (.inl h)) .inr) (fun h => .inl (.inr h))⟩
  have hnod : (Bs.take off ++ Cs ++ Bs.drop (off + v.cells.toList.length)).flatten.Nodup := by
    have h1 := nodup_part Bs off v.cells.toList.length hnd2.2
    simp only [List.flatten_append] at h1 ⊢
    rw [List.append_assoc]
    rw [List.nodup_append] at h1
    obtain ⟨p1, p2, p3⟩ := h1
    rw [List.nodup_append]
    have hc1 : ∀ x ∈ Cs.flatten, ∀ y ∈ Bs.flatten, x ≠ y := fun x hx y hy e => hCa d x hx (by rw [hB, e]; exact List.mem_cons_of_mem _ hy)
    have q1 : ∀ x ∈ (Bs.take off).flatten, x ∈ Bs.flatten := fun x hx => flatten_part Bs off v.cells.toList.length x (by rw [List.flatten_append]; exact List.mem_append_left _ hx)
    have q2 : ∀ x ∈ (Bs.drop (off + v.cells.toList.length)).flatten, x ∈ Bs.flatten := fun x hx => flatten_part Bs off v.cells.toList.length x (by rw [List.flatten_append]; exact List.mem_append_right _ hx)
    refine ⟨p1, List.nodup_append.2 ⟨hCn, p2, fun x hx y hy => hc1 x hx y (q2 y hy)⟩, fun x hx y hy => ?_⟩
    rcases List.mem_append.1 hy with hy | hy
    · exact fun e => hc1 y hy x (q1 x hx) e.symm
    · exact p3 x hx y hy
  have hfin : RepF Lz Pr w' ((d, .box false (Lg.setAt off xs cs)) :: fr1) a.tmps (fun t => if t = d then b :: (Bs.take off ++ Cs ++ Bs.drop (off + v.cells.toList.length)).flatten else F1 t) := by
    refine hF1.rebind (PrLe.refl _) (fun t ht => hkeep _ (fun q => hF1.apart t d ht b q hbd)) (fun _ _ => rfl) hnew ?_ ?_ (fun _ => rfl) (by simp) (by simp) (by simp)
    · refine List.nodup_cons.2 ⟨fun q => ?_, hnod⟩
      rcases (hperm b).1 q with q | q
      · exact hnd2.1 (flatten_part _ _ _ b q)
      · exact hCb q
    · intro t ht b' hb' q
      rcases List.mem_cons.1 hb' with rfl | hb'
      · exact hF1.apart t d ht _ q hbd
      · rcases (hperm b').1 hb' with h | h
        · exact hF1.apart t d ht _ q (by rw [hB]; exact List.mem_cons_of_mem _ (flatten_part _ _ _ b' h))
        · exact hCa t b' h q
  have hP' : PrOK Pr w' := hP.setRow hbl _ (fun o v h => by rw [hpr] at h; cases h) w' hbl' hoth
  have hx' : Ext (fun b => ∃ t, b ∈ F t) Pr w Pr w' := by
    refine ⟨by rw [← hw']; rfl, by rw [← hw']; rfl, by rw [← hw']; rfl, by omega, PrLe.refl _, fun k hk hna => ⟨hoth k (fun e => ?_), fun _ => rfl⟩, by rw [← hw']; exact Nat.le_refl _⟩
    subst e; exact hna (hsub d _ hbd)
  rw [hdst] at hn ⊢
  refine hn undef _ Pr w' _ hK hfin hP' hx' ?_
  intro t b' hb'
  by_cases e : t = d
  · rw [if_pos e] at hb'
    rcases List.mem_cons.1 hb' with rfl | hb'
    · exact .inl (hsub d _ hbd)
    · rcases (hperm b').1 hb' with h | h
      · exact .inl (hsub d b' (by rw [hB]; exact List.mem_cons_of_mem _ (flatten_part _ _ _ b' h)))
      · exact .inl (hCs b' h)
  · rw [if_neg e] at hb'; exact .inl (hsub t b' hb')
end
end Go.Proofs.Ytgcjhcefpkbheaa.Lg
end

section
namespace Go.Proofs.Ytgcjhcefpkbheaa.Lg
open Go
variable {Lz : PM}
section
variable {R : Type} {P : Program} {T : Tab} {E : CallS} {o : Oper} {fr : Fr} {K : Fr → Option R} {r : R} {Pr : PM} {w : World} {a : Act} {F : Nat → List Nat}
  {next : Act → World → Prop} {Q : Exit → Act → World → Prop}

theorem TyF.one {t : Nat} {i : TI} (tf : TyF P t i) (ha : i.agg = false) : i.sh.length = 1 := by
  obtain ⟨d, f, z, hd, hf, hs, hz, hzb, desc⟩ := tf
  cases d <;> simp only [descB, ha, shB_iff, Bool.and_eq_true] at desc <;> first | (simp at desc; done) | (rw [desc.1.1.1.2]; rfl) | (rw [desc.1.1.1.1.2]; rfl) | (obtain ⟨_, _, _, h1, _⟩ := mpB_some desc.1.1.1.2; rw [h1]; rfl)

theorem op_store {t : TypeId} {x y : Operand} (hC : Cx P T) (ho : o.op = .store t x y) (hev : evOp0 T E o fr K = some r) (hF : RepF Lz Pr w fr a.tmps F) (hP : PrOK Pr w) (hd : DOK o a) (hn : Nx Lz K r o.dst Pr w a F next)
    (hown : ∀ i s, P = P → x = .tmp s → TyF P t i → o.dst = none → evStoreOwn i s y fr K = some r → o.wp P a w next Q) : o.wp P a w next Q := by
  simp only [evOp0, ho] at hev
  have hdst : o.dst = none := by
    cases h : o.dst with
    | none => rfl
    | some d => simp [h] at hev
  simp only [hdst, Option.isSome_none, cond_false] at hev
  replace hev := withT_some hev; obtain ⟨i, hi, hev⟩ := hev
  obtain ⟨tf⟩ := hC.facts hi
  split at hev
  · rename_i s
    split at hev
    · rename_i d off hr
      split at hev
      · -- a nil slice
        rename_i ha
        split at hev
        · rename_i cs hbx
          cases hb : Nat.blt off cs.length
          · rw [hb] at hev; simp at hev
          · rw [hb, cond_true] at hev
            have hb' : off < cs.length := by have := Nat.le_of_ble_eq_true (n := off + 1) (m := cs.length) hb; omega
            obtain ⟨b, c, T', nw, Bs, hv, hv0, hl, hbl, hpr, hB, hss⟩ := root_sound hF hr hbx
            refine store_core (Cs := [[]]) tf ho rfl rfl hF (fun t' b hb => ⟨t', hb⟩) hP hd hn hv hv0 hl hbl hpr hB hss ?_ ?_ ?_ (by simp; omega) (by simp) (by simp) (by simp) hdst hev
            · simp [Act.eval, Value.cells, RepSs, RepS]
            · simp [Act.eval, Value.cells, Value.oneCell']
            · simp [Act.eval, Value.cells, tf.one ha]
        · cases hev
      · rename_i y' ha
        split at hev
        · rename_i es l fr' hg
          split at hev
          · rename_i cs hbx
            cases hb : Nat.blt off cs.length
            · rw [hb] at hev; simp at hev
            · rw [hb, cond_true] at hev
              have hb' : off < cs.length := by have := Nat.le_of_ble_eq_true (n := off + 1) (m := cs.length) hb; omega
              obtain ⟨B, F', h1, h2, h3, h4, h5, h6⟩ := grow_sound hF hg
              -- the box behind the taking
              have hbox : ∃ nw, look1 d fr' = .box nw cs := by
                unfold boxOf at hbx
                cases hl : look1 d fr' <;> simp [hl] at hbx
                subst hbx; exact ⟨_, rfl⟩
              obtain ⟨nw, hbox⟩ := hbox
              have hd' := h1.rep d
              rw [hbox] at hd'
              simp only [RepS] at hd'
              obtain ⟨b, c, T', Bs, hv0, hbl, hpr, hB, hss⟩ := hd'
              -- the address
              have hbx0 : ∃ cs0, boxOf d fr = some cs0 := by
                unfold root at hr
                cases hf : find s fr [] with
                | none => simp [hf] at hr
                | some p =>
                  obtain ⟨pre, sv, rest⟩ := p
                  rw [hf] at hr
                  cases sv with
                  | box nw' cs' => simp at hr; obtain ⟨rfl, rfl⟩ := hr; exact ⟨cs', by simp [boxOf, find_look s fr [] _ _ _ hf]⟩
                  | al d' o' =>
                    cases o' with
                    | none =>
                      simp only at hr
                      cases hbd : bound d' pre
                      · rw [hbd, cond_false] at hr
                        cases hx : look1 d' rest <;> simp [hx] at hr
                        rename_i nw' cs'
                        obtain ⟨rfl, rfl⟩ := hr
                        exact ⟨cs', by simp [boxOf, find_rest s d' fr pre _ rest hf hbd, hx]⟩
                      · rw [hbd, cond_true] at hr; cases hr
                    | some _ => simp at hr
                  | ref d' o' =>
                    simp only at hr
                    cases hbd : remade d' pre
                    · rw [hbd, cond_false] at hr
                      simp at hr
                      obtain ⟨rfl, rfl⟩ := hr
                      cases hq : boxOf d' fr with
                      | some cs0 => exact ⟨cs0, rfl⟩
                      | none =>
                        exfalso
                        unfold boxOf at hq
                        -- a slot that is no box before is none behind
                        have hne : ∀ nw cs, look1 d' fr ≠ .box nw cs := by
                          intro nw cs q; simp [q] at hq
                        unfold grow at hg
                        split at hg
                        · simp only [Option.some.injEq, Sigma.mk.injEq] at hg
                          obtain ⟨rfl, hg⟩ := hg
                          simp only [heq_eq_eq, Prod.mk.injEq] at hg
                          obtain ⟨_, rfl⟩ := hg
                          simp only [look1] at hbox
                          cases hbb : Nat.beq y' d'
                          · rw [hbb, cond_false] at hbox; exact hne _ _ hbox
                          · rw [hbb, cond_true] at hbox; cases hbox
                        · rename_i pre2 d2 off2 rest2 hf2
                          cases hb2 : bound d2 pre2
                          · rw [hb2, cond_false] at hg
                            split at hg
                            · simp only [Option.some.injEq, Sigma.mk.injEq] at hg
                              obtain ⟨rfl, hg⟩ := hg
                              simp only [heq_eq_eq, Prod.mk.injEq] at hg
                              obtain ⟨_, rfl⟩ := hg
                              simp only [look1] at hbox
                              cases hbb : Nat.beq d2 d'
                              · rw [hbb, cond_false] at hbox; exact hne _ _ hbox
                              · rw [hbb, cond_true] at hbox; cases hbox
                            · rename_i o2 nw2 cs2 hl2
                              split at hg
                              · simp only [Option.some.injEq, Sigma.mk.injEq] at hg
                                obtain ⟨rfl, hg⟩ := hg
                                simp only [heq_eq_eq, Prod.mk.injEq] at hg
                                obtain ⟨_, rfl⟩ := hg
                                simp only [look1] at hbox
                                cases hbb : Nat.beq d2 d'
                                · rw [hbb, cond_false] at hbox; exact hne _ _ hbox
                                · have e := Nat.eq_of_beq_eq_true hbb
                                  subst e
                                  have := find_rest y' d2 fr pre2 _ rest2 hf2 hb2
                                  rw [hl2] at this
                                  exact hne _ _ this
                              · cases hg
                            · cases hg
                          · rw [hb2, cond_true] at hg; cases hg
                        · cases hg
                    · rw [hbd, cond_true] at hr; cases hr
                  | _ => simp at hr
              obtain ⟨cs0, hbx0⟩ := hbx0
              obtain ⟨b0, c0, T0, nw0, Bs0, hv, hv00, _⟩ := root_sound hF hr hbx0
              have eb : b0 = b := by rw [hv0] at hv00; simp at hv00; exact hv00.symm
              subst eb
              have hu : ∃ p n cp, a.tmps.getD y' undef = .slice p n cp := by
                simp only [RepS] at h2
                rcases h2 with ⟨h2, _⟩ | ⟨b, off, cap, c, T', h2, _⟩
                · exact ⟨_, _, _, h2⟩
                · exact ⟨_, _, _, h2⟩
              obtain ⟨p, n, cp, hu⟩ := hu
              refine store_core (Cs := [B]) (fr1 := fr') tf ho rfl rfl h1 (fun t' b hb => ⟨t', h3 t' b hb⟩) hP hd hn hv hv0 hbox hbl hpr hB hss ?_ ?_ ?_ (by simp; omega) (by simpa using h6) (by simpa using h5) (by simpa using h4) hdst hev
              · simp only [Act.eval, hu, Value.cells, RepSs]
                rw [hu] at h2; exact ⟨h2, trivial⟩
              · simp [Act.eval, hu, Value.cells, Value.oneCell']
              · simp [Act.eval, hu, Value.cells, tf.one ha]
          · cases hev
        · split at hev
          · rename_i cs v hbx hv1
            cases hb : Nat.blt off cs.length
            · rw [hb] at hev; simp at hev
            · rw [hb, cond_true] at hev
              have hb' : off < cs.length := by have := Nat.le_of_ble_eq_true (n := off + 1) (m := cs.length) hb; omega
              obtain ⟨b, c, T', nw, Bs, hv, hv0, hl, hbl, hpr, hB, hss⟩ := root_sound hF hr hbx
              have hrv := rd_sound hF hv1
              have hcl := hrv.cells (cs := [v]) rfl
              have h1 := RepDs.length _ _ hcl
              refine store_core (Cs := [[]]) tf ho rfl rfl hF (fun t' b hb => ⟨t', hb⟩) hP hd hn hv hv0 hl hbl hpr hB hss ?_ ?_ ?_ (by simp; omega) (by simp) (by simp) (by simp) hdst hev
              · exact vals_rep [v] _ hcl
              · exact RepDs.one _ _ hcl
              · rw [tf.one ha]; simpa [Act.eval] using h1
          · cases hev
      · split at hev
        · rename_i cs ds hbx hds
          cases hb1 : Nat.beq ds.length i.sh.length
          · rw [hb1] at hev; simp at hev
          · rw [hb1, cond_true] at hev
            cases hb : Nat.ble (off + ds.length) cs.length
            · rw [hb] at hev; simp at hev
            · rw [hb, cond_true] at hev
              obtain ⟨b, c, T', nw, Bs, hv, hv0, hl, hbl, hpr, hB, hss⟩ := root_sound hF hr hbx
              obtain ⟨vv, hx, hds⟩ := Option.bind_eq_some_iff.1 hds
              have hcl := (rdO_sound hF hx).cells hds
              have h1 := RepDs.length _ _ hcl
              refine store_core (Cs := ds.map fun _ => []) tf ho rfl rfl hF (fun t' b hb => ⟨t', hb⟩) hP hd hn hv hv0 hl hbl hpr hB hss ?_ ?_ ?_ (by simpa using Nat.le_of_ble_eq_true hb) (by rw [flatten_nils]; exact List.nodup_nil) (by rw [flatten_nils]; simp) (by rw [flatten_nils]; simp) hdst hev
              · exact vals_rep ds _ hcl
              · exact RepDs.one _ _ hcl
              · rw [← Nat.eq_of_beq_eq_true hb1, ← h1]; simp
        · cases hev
    · exact hown i s rfl rfl tf hdst hev
  · cases hev
end
end Go.Proofs.Ytgcjhcefpkbheaa.Lg
end

section
namespace Go.Proofs.Ytgcjhcefpkbheaa.Lg
open Go
variable {Lz : PM}
section
variable {R : Type} {P : Program} {T : Tab} {E : CallS} {o : Oper} {fr : Fr} {K : Fr → Option R} {r : R} {Pr : PM} {w : World} {a : Act} {F : Nat → List Nat}
  {next : Act → World → Prop} {Q : Exit → Act → World → Prop}

theorem root_ptr {ts : Array Value} {t d off : Nat} (h : RepF Lz Pr w fr ts F) (hr : root t fr = some (d, off)) : ∃ b, ts.getD t undef = .pointer (some ⟨b, off, none⟩) ∧ ts.getD d undef = .pointer (some ⟨b, 0, none⟩) := by
  have box : ∀ {d nw cs}, look1 d fr = .box nw cs → ∃ b, ts.getD d undef = .pointer (some ⟨b, 0, none⟩) := by
    intro d nw cs hl
    have hd := h.rep d
    rw [hl] at hd
    simp only [RepS] at hd
    obtain ⟨b, c, T', Bs, hv, _⟩ := hd
    exact ⟨b, hv⟩
  unfold root at hr
  cases hf : find t fr [] with
  | none => simp [hf] at hr
  | some p =>
    obtain ⟨pre, sv, rest⟩ := p
    rw [hf] at hr
    cases sv with
    | box nw' cs' =>
      simp at hr; obtain ⟨rfl, rfl⟩ := hr
      obtain ⟨b, hb⟩ := box (find_look t fr [] _ _ _ hf)
      exact ⟨b, hb, hb⟩
    | al d' o' =>
      cases o' with
      | none =>
        simp only at hr
        cases hbd : bound d' pre
        · rw [hbd, cond_false] at hr
          have ha := h.alias0 t pre d' rest hf hbd
          have hl := find_rest t d' fr pre _ rest hf hbd
          cases hx : look1 d' rest <;> simp [hx] at hr
          obtain ⟨rfl, rfl⟩ := hr
          obtain ⟨b, hb⟩ := box (hl.trans hx)
          exact ⟨b, by rw [ha]; exact hb, hb⟩
        · rw [hbd, cond_true] at hr; cases hr
      | some _ => simp at hr
    | ref d' o' =>
      simp only at hr
      cases hbd : remade d' pre
      · rw [hbd, cond_false] at hr
        simp at hr
        obtain ⟨rfl, rfl⟩ := hr
        obtain ⟨b', q1, q2⟩ := h.ref t pre d' o' rest hf hbd
        exact ⟨b', q2, q1⟩
      · rw [hbd, cond_true] at hr; cases hr
    | _ => simp at hr

theorem finAt {cs : List D} {v : Value} (hF : RepF Lz Pr w fr a.tmps F) (hP : PrOK Pr w) (hd : DOK o a) (hn : Nx Lz K r o.dst Pr w a F next)
    (hr : ∃ b o, v = .pointer (some ⟨b, o, none⟩) ∧ ∀ j x, cs[j]? = some x → ∃ u, Pr b (o + j) = some u ∧ RepD Pr x u) (hK : K (dset o.dst (.at cs) fr) = some r) : next (a.put o.dst v) w :=
  fin hd hn hF hP (Ext.refl _ _ _) sub_self (B := []) (by simp only [RepS]; exact ⟨hr, trivial⟩) List.nodup_nil (by simp) (by simp) rfl (by simp) (by simp) (by simp) hK

theorem op_fieldAddr {t : TypeId} {x : Operand} {f : Nat} (hC : Cx P T) (ho : o.op = .fieldAddr t x f) (hev : evOp0 T E o fr K = some r) (hF : RepF Lz Pr w fr a.tmps F) (hP : PrOK Pr w) (hd : DOK o a) (hn : Nx Lz K r o.dst Pr w a F next) : o.wp P a w next Q := by
  simp only [evOp0, ho] at hev
  replace hev := withT_some hev; obtain ⟨i, hi, hev⟩ := hev
  obtain ⟨tf⟩ := hC.facts hi
  have run : ∀ {off n b o'} (s : Nat), i.flds[f]? = some (off, n) → a.tmps.getD s undef = .pointer (some ⟨b, o', none⟩) → x = .tmp s → (execOp a.eval o).run P w = .ok (.value (.pointer (some ⟨b, o' + off, none⟩))) w := by
    intro off n b o' s hfl hv hx
    obtain ⟨fs, fld, h1, h2, h3, h4, h5, ⟨g, h6, h7⟩, h8⟩ := tf.field hfl
    subst hx
    simp [execOp, ho, Act.eval, Instr.fieldAt, run_underlying h1, h2, hv, Instr.sureAddr, fieldPlace, Go.sizeOf, run_typeInfo w h6, h7, h8, Addr.add_lit, h3]
  split at hev
  · rename_i s
    split at hev
    · rename_i pre cs rest off n hf hfl
      have hr := hF.rep s
      rw [find_look s fr [] _ _ _ hf] at hr
      simp only [RepS] at hr
      obtain ⟨⟨b, o', hv, hat⟩, _⟩ := hr
      refine wp_value (run s hfl hv rfl) (finAt hF hP hd hn ⟨b, o' + off, rfl, fun j x hj => ?_⟩ hev)
      rw [List.getElem?_take] at hj
      split at hj
      · rw [List.getElem?_drop] at hj
        obtain ⟨u, h1, h2⟩ := hat _ x hj
        exact ⟨u, by rw [Nat.add_assoc]; exact h1, h2⟩
      · cases hj
    · rename_i pre d n' i' o' rest off n hf hfl
      cases hb : bound d pre
      · rw [hb, cond_false] at hev
        obtain ⟨b, off0, len, cap, q1, q2, q3⟩ := hF.own s pre d _ rest hf hb
        refine wp_value (run s hfl q3 rfl) (fin hd hn hF hP (Ext.refl _ _ _) sub_self (B := []) (by simp [RepS]) List.nodup_nil (by simp) (by simp) rfl (by simp) (by simp) (by simp) hev (fun d' k h => ?_))
        cases h
        exact ⟨b, off0, len, cap, q1, q2, by rw [Nat.add_assoc _ o' off]⟩
      · rw [hb, cond_true] at hev; cases hev
    · rename_i off n d o' hfl hr _ _
      obtain ⟨b, hv, hv0⟩ := root_ptr hF hr
      exact wp_value (run s hfl hv rfl) (finRef hF hP hd hn hv0 hev)
    · cases hev
  · cases hev

theorem run_part_agg {t : Nat} {j : TI} (tf : TyF P t j) (ha : j.agg = true) (vs : Array Value) (off : Nat) : (Go.part t vs off).run P w = .ok (.agg (vs.extract off (off + j.sh.length))) w := by
  simp [Go.part, tf.run_isAgg, ha, tf.run_sizeOf]
theorem run_part_one {t : Nat} {j : TI} (tf : TyF P t j) (ha : j.agg = false) {vs : Array Value} {off : Nat} {v : Value} (h : vs[off]? = some v) : (Go.part t vs off).run P w = .ok v w := by
  simp [Go.part, tf.run_isAgg, ha, h]
theorem part_sound {t : Nat} {j : TI} (tf : TyF P t j) {off : Nat} {cs : List D} {vs : Array Value} {v : AV} (h : Lg.part j.agg off j.sh.length cs = some v) (hr : RepDs Pr cs vs.toList) :
    ∃ u, (Go.part t vs off).run P w = .ok u w ∧ RepA Pr v u := by
  unfold Lg.part at h
  have hl := RepDs.length _ _ hr
  cases ha : j.agg
  · rw [ha, cond_false] at h
    split at h
    · rename_i x rest hx
      simp at h; subst h
      have h1 : cs[off]? = some x := by have := congrArg (·[0]?) hx; simpa using this
      have hlt : off < vs.size := by have := (List.getElem?_eq_some_iff.1 h1).1; simp at hl; omega
      refine ⟨vs[off], run_part_one tf ha (by simp [hlt]), ?_⟩
      simp only [RepA]
      exact RepDs.get cs vs.toList hr off x _ h1 (by simp [hlt])
    · cases h
  · rw [ha, cond_true] at h
    cases hb : Nat.ble (off + j.sh.length) cs.length
    · rw [hb] at h; simp at h
    · rw [hb, cond_true] at h
      simp at h; subst h
      refine ⟨_, run_part_agg tf ha vs off, ?_⟩
      simp only [RepA]
      refine ⟨_, rfl, ?_⟩
      have := (hr.drop off).take j.sh.length
      rw [Array.toList_extract, List.extract_eq_take_drop, Nat.add_sub_cancel_left]
      exact this

theorem op_field {t : TypeId} {x : Operand} {f : Nat} (hC : Cx P T) (ho : o.op = .field t x f) (hev : evOp0 T E o fr K = some r) (hF : RepF Lz Pr w fr a.tmps F) (hP : PrOK Pr w) (hd : DOK o a) (hn : Nx Lz K r o.dst Pr w a F next) : o.wp P a w next Q := by
  simp only [evOp0, ho] at hev
  replace hev := withT_some hev; obtain ⟨i, hi, hev⟩ := hev
  replace hev := withT_some hev; obtain ⟨j, hj, hev⟩ := hev
  obtain ⟨tf⟩ := hC.facts hi
  obtain ⟨tj⟩ := hC.facts hj
  split at hev
  · rename_i cs off n ft hx hfl hft
    replace hev := bif_some hev; obtain ⟨e1, hev⟩ := hev
    replace hev := bif_some hev; obtain ⟨e2, hev⟩ := hev
    have e1 := Nat.eq_of_beq_eq_true e1
    have e2 := Nat.eq_of_beq_eq_true e2
    subst e1; subst e2
    split at hev
    · rename_i v hv
      obtain ⟨fs, fld, h1, h2, h3, h4, _⟩ := tf.field hfl
      rw [hft] at h4; simp at h4
      have hr := rdO_sound hF hx
      simp only [RepA] at hr
      obtain ⟨vs, hvs, hds⟩ := hr
      obtain ⟨u, hu, hru⟩ := part_sound (w := w) tj hv hds
      refine wp_value (v := u) (w' := w) ?_ (finV hF hP hd hn hru hev)
      simp only [execOp, ho, Instr.field, Sem.run_bind, run_underlying h1, Result.andThen_ok, h2, asAgg, hvs, Sem.run_pure, h3, ← h4, hu]
    · cases hev
  · cases hev

theorem getR_get {es : List Sh} {l : List (RowE es)} {n : Int} (h : 0 ≤ n ∧ n < l.length) : l[n.toNat]? = some (getR es l n) := by
  unfold getR
  have : n.toNat < l.length := by omega
  simp [this]

theorem own_cond {i : TI} {es : List Sh} (h : (i.agg || (Sh.eqs? es i.es).isNone || es.isEmpty) = false) : i.agg = false ∧ es = i.es ∧ es ≠ [] := by
  simp only [Bool.or_eq_false_iff] at h
  obtain ⟨⟨h1, h2⟩, h3⟩ := h
  refine ⟨h1, ?_, by rintro rfl; simp at h3⟩
  cases q : Sh.eqs? es i.es with
  | none => simp [q] at h2
  | some e => exact e.down
/-- The address of a row of a slice that is owned whole. -/
theorem own_index {t : TypeId} {i : TI} {s d lo hi : Nat} {es : List Sh} {l : List (RowE es)} {y : Operand} (tf : TyF P t i) (ho : o.op = .indexAddr t (.tmp s) y) (hF : RepF Lz Pr w fr a.tmps F) (hvw : view s fr = some (d, lo, hi, ⟨es, l⟩))
    (hev : (match rdO fr y with
      | some (.d (.int _ n)) => bif i.agg || (Sh.eqs? es i.es).isNone || es.isEmpty || i.arr.isSome then none else chk (0 ≤ n ∧ n < ((hi : Int) - lo)) (K (dset o.dst (.ow d (.at es.length (lo + n.toNat) 0)) fr))
      | _ => none) = some r) : ∃ v k, (∀ w, (execOp a.eval o).run P w = .ok (.value v) w) ∧ OWv k (a.tmps.getD d undef) v ∧ K (dset o.dst (.ow d k) fr) = some r := by
  obtain ⟨hl, ⟨p, len, cap, q1, q2, q3, q4⟩, hbl, p', cap', r1, r2, r3⟩ := view_sound hF hvw
  rw [q1] at r1
  simp only [Value.slice.injEq] at r1
  obtain ⟨rfl, rfl, rfl⟩ := r1
  split at hev
  · rename_i k n hy
    have hyr := rdO_sound hF hy
    simp only [RepA, RepD] at hyr
    cases hb : (i.agg || (Sh.eqs? es i.es).isNone || es.isEmpty || i.arr.isSome)
    · rw [hb, cond_false] at hev
      rw [Bool.or_eq_false_iff] at hb
      obtain ⟨ha, he, hne⟩ := own_cond hb.1
      obtain ⟨⟨z0, z1⟩, hev⟩ := chk_some hev
      obtain ⟨b, off, rfl⟩ := r3 (by rintro rfl; simp at q3; omega)
      obtain ⟨ef⟩ := tf.slice ha (.inl (he ▸ hne))
      have hsz : ∀ w', (Go.sizeOf ef.e).run P w' = .ok es.length w' := fun w' => by rw [he]; exact ef.run_size w'
      have hc : ¬ cap = lo := by omega
      rw [if_neg hc] at q4
      have hx : a.eval (.tmp s) = .slice ((some (⟨b, off, none⟩ : Addr)).map (·.add (lo * es.length))) (hi - lo) (cap - lo) := q4
      have hlt : n < ((hi - lo : Nat) : Int) := by omega
      refine ⟨.pointer (some ⟨b, off + (lo + n.toNat) * es.length, none⟩), .at es.length (lo + n.toNat) 0, fun w => ?_, ⟨b, off, l.length, cap, q1, by omega, rfl⟩, hev⟩
      have e : off + (lo + n.toNat) * es.length = off + lo * es.length + n.toNat * es.length := by rw [Nat.add_mul]; omega
      rw [e]
      simp [execOp, ho, hx, hyr, Instr.indexAt, asIntOf, run_underlying ef.hd, z0, hlt, hsz, Addr.add_lit]
    · rw [hb, cond_true] at hev; cases hev
  · cases hev
theorem op_indexAddr {t : TypeId} {x y : Operand} (hC : Cx P T) (ho : o.op = .indexAddr t x y) (hev : evOp0 T E o fr K = some r) (hF : RepF Lz Pr w fr a.tmps F) (hP : PrOK Pr w) (hd : DOK o a) (hn : Nx Lz K r o.dst Pr w a F next) : o.wp P a w next Q := by
  simp only [evOp0, ho] at hev
  replace hev := withT_some hev; obtain ⟨i, hi, hev⟩ := hev
  obtain ⟨tf⟩ := hC.facts hi
  cases hvw : viewO fr x with
  | some vw =>
    obtain ⟨d, lo, hi', es, l⟩ := vw
    rw [hvw] at hev
    obtain ⟨s, rfl, hvw⟩ := viewO_tmp hvw
    obtain ⟨v, k, h1, h2, h3⟩ := own_index tf ho hF hvw hev
    exact wp_value (h1 w) (fin hd hn hF hP (Ext.refl _ _ _) sub_self (B := []) (by simp [RepS]) List.nodup_nil (by simp) (by simp) rfl (by simp) (by simp) (by simp) h3 (by intro d' k' h; cases h; exact h2))
  | none =>
  rw [hvw] at hev
  dsimp only at hev
  split at hev
  · rename_i s k n hy
    have hyr := rdO_sound hF hy
    simp only [RepA, RepD] at hyr
    split at hev
    · rename_i len m d o' harr hr
      obtain ⟨⟨h0, h1⟩, hev⟩ := chk_some hev
      obtain ⟨b, hv, hv0⟩ := root_ptr hF hr
      obtain ⟨e, g, hu, hg, hgs, hm, _⟩ := tf.array harr
      refine wp_value (v := .pointer (some ⟨b, o' + n.toNat * m, none⟩)) (w' := w) ?_ (finRef hF hP hd hn hv0 hev)
      simp [execOp, ho, (show a.eval (.tmp s) = _ from hv), hyr, Instr.indexAt, asIntOf, run_underlying hu, Instr.sureAddr, h0, h1, Go.sizeOf, run_typeInfo w hg, hgs, Addr.add_lit]
    · rename_i harr
      split at hev
      · rename_i es l hx
        split at hev
        · rename_i hes _
          cases ha : i.agg
          · rw [ha, cond_false] at hev
            replace hev := bif_some hev; obtain ⟨hpos, hev⟩ := hev
            obtain ⟨hlt, hev⟩ := chk_some hev
            have hxr := rd_sound hF hx
            have hes' := hes.down
            subst hes'
            simp only [RepA, RepD, RepC] at hxr
            obtain ⟨p, len, cap, hv, hl, hc, hrow⟩ := hxr
            have hne : l ≠ [] := by rintro rfl; simp at hlt; omega
            replace hrow := hrow.resolve_left hne; obtain ⟨b, off, rfl, hrow⟩ := hrow
            have hine : i.es ≠ [] ∨ ∃ es, i.sh = [.sl es] := .inl (by rintro q; simp [q] at hpos)
            obtain ⟨ef⟩ := tf.slice ha hine
            refine wp_value (v := .pointer (some ⟨b, off + n.toNat * i.es.length, none⟩)) (w' := w) ?_ (finAt hF hP hd hn ⟨b, _, rfl, rowD_rep _ _ _ _ (hrow _ _ (getR_get hlt))⟩ hev)
            simp [execOp, ho, (show a.eval (.tmp s) = _ from hv), hyr, Instr.indexAt, asIntOf, run_underlying ef.hd, hl, hlt.1, hlt.2, ef.run_size, Addr.add_lit]
          · rw [ha, cond_true] at hev; cases hev
        · cases hev
      · cases hev
    · cases hev
  · cases hev
end
end Go.Proofs.Ytgcjhcefpkbheaa.Lg
end

section
namespace Go.Proofs.Ytgcjhcefpkbheaa.Lg
open Go
variable {Lz : PM}
section
variable {R : Type} {P : Program} {T : Tab} {E : CallS} {o : Oper} {fr : Fr} {K : Fr → Option R} {r : R} {Pr : PM} {w : World} {a : Act} {F : Nat → List Nat}
  {next : Act → World → Prop} {Q : Exit → Act → World → Prop}

theorem str_get (s : List UInt8) (n : Nat) : (⟨s.toArray⟩ : ByteArray)[n]? = s[n]? := by
  by_cases h : n < s.length
  · have h1 : n < (⟨s.toArray⟩ : ByteArray).size := h
    rw [getElem?_pos (⟨s.toArray⟩ : ByteArray) n h1, List.getElem?_eq_getElem h]; rfl
  · have h1 : ¬ n < (⟨s.toArray⟩ : ByteArray).size := h
    rw [getElem?_neg (⟨s.toArray⟩ : ByteArray) n h1, List.getElem?_eq_none (by omega)]
theorem str_size (s : List UInt8) : (⟨s.toArray⟩ : ByteArray).size = s.length := rfl

theorem op_index {t : TypeId} {x y : Operand} (hC : Cx P T) (ho : o.op = .index t x y) (hev : evOp0 T E o fr K = some r) (hF : RepF Lz Pr w fr a.tmps F) (hP : PrOK Pr w) (hd : DOK o a) (hn : Nx Lz K r o.dst Pr w a F next) : o.wp P a w next Q := by
  simp only [evOp0, ho] at hev
  replace hev := withT_some hev; obtain ⟨i, hi, hev⟩ := hev
  obtain ⟨tf⟩ := hC.facts hi
  split at hev
  · rename_i s k n ha hs hx hy
    have hxr := rdO_sound hF hx
    have hyr := rdO_sound hF hy
    simp only [RepA, RepD] at hxr hyr
    obtain ⟨⟨h0, h1⟩, hev⟩ := chk_some hev
    have hlt : n.toNat < s.length := by omega
    refine wp_value (v := .int .u8 (byteAt s n)) (w' := w) ?_ (finV hF hP hd hn (x := .d (.int .u8 (byteAt s n))) (by simp [RepA, RepD]) hev)
    simp [execOp, ho, hxr, hyr, Instr.index, asIntOf, run_underlying (tf.str ha hs), h0, str_get, hlt, byteAt]
  · rename_i cs k n ha hx hy
    replace hev := withT_some hev; obtain ⟨j, hj, hev⟩ := hev
    obtain ⟨tj⟩ := hC.facts hj
    split at hev
    · rename_i len m ft harr hft
      replace hev := bif_some hev; obtain ⟨e1, hev⟩ := hev
      replace hev := bif_some hev; obtain ⟨e2, hev⟩ := hev
      obtain ⟨⟨h0, h1⟩, hev⟩ := chk_some hev
      have e1 := Nat.eq_of_beq_eq_true e1
      have e2 := Nat.eq_of_beq_eq_true e2
      subst e1; subst e2
      split at hev
      · rename_i v hv
        have hv := idxD_part (show n.toNat < len by omega) hv
        obtain ⟨e, g, hu, hg, hgs, hm, hfe⟩ := tf.array harr
        rw [hft] at hfe; simp at hfe
        have hxr := rdO_sound hF hx
        have hyr := rdO_sound hF hy
        simp only [RepA, RepD] at hxr hyr
        obtain ⟨vs, hvs, hds⟩ := hxr
        obtain ⟨u, hpu, hru⟩ := part_sound (w := w) tj hv hds
        refine wp_value (v := u) (w' := w) ?_ (finV hF hP hd hn hru hev)
        rw [hfe] at hpu
        simp [execOp, ho, hyr, Instr.index, asIntOf, run_underlying hu, hvs, h0, h1, Go.sizeOf, run_typeInfo w hg, hgs, hpu]
      · cases hev
    · cases hev
  · cases hev

theorem op_extract {x : Operand} {n : Nat} (ho : o.op = .extract x n) (hev : evOp0 T E o fr K = some r) (hF : RepF Lz Pr w fr a.tmps F) (hP : PrOK Pr w) (hd : DOK o a) (hn : Nx Lz K r o.dst Pr w a F next) : o.wp P a w next Q := by
  simp only [evOp0, ho] at hev
  split at hev
  · rename_i vs hx
    split at hev
    · rename_i v hv
      have hr := rdO_sound hF hx
      simp only [RepA] at hr
      obtain ⟨us, hus, hr⟩ := hr
      have get : ∀ (l : List AV) (us : List Value), RepAs Pr l us → ∀ (n : Nat) (v : AV), l[n]? = some v → ∃ u, us[n]? = some u ∧ RepA Pr v u := by
        intro l
        induction l with
        | nil => intro us _ n v h; simp at h
        | cons x l ih =>
          intro us h n v hv
          cases us with
          | nil => simp [RepAs] at h
          | cons u us =>
            simp only [RepAs] at h
            cases n with
            | zero => simp at hv; subst hv; exact ⟨u, rfl, h.1⟩
            | succ n => exact ih us h.2 n v (by simpa using hv)
      obtain ⟨u, hu, hru⟩ := get vs us.toList hr n v hv
      have hu' : us[n]? = some u := by simpa using hu
      refine wp_value (v := u) (w' := w) ?_ (finV hF hP hd hn hru hev)
      simp [execOp, ho, hus, Instr.extract, hu']
    · cases hev
  · cases hev

theorem op_unOp {u : UnOp} {t : TypeId} {x : Operand} (ho : o.op = .unOp u t x) (hev : evOp0 T E o fr K = some r) (hF : RepF Lz Pr w fr a.tmps F) (hP : PrOK Pr w) (hd : DOK o a) (hn : Nx Lz K r o.dst Pr w a F next) : o.wp P a w next Q := by
  simp only [evOp0, ho] at hev
  split at hev
  · rename_i b hx
    have hr := rdO_sound hF hx
    simp only [RepA, RepD] at hr
    exact wp_value (v := .bool (!b)) (w' := w) (by simp [execOp, ho, hr, Op.unary]) (finV hF hP hd hn (x := .d (.bool (!b))) (by simp [RepA, RepD]) hev)
  · rename_i k n hx
    have hr := rdO_sound hF hx
    simp only [RepA, RepD] at hr
    exact wp_value (v := .int k (k.wrap (-n))) (w' := w) (by simp [execOp, ho, hr, Op.unary, Op.intArith]) (finV hF hP hd hn (x := .d (.int k (k.wrap (-n)))) (by simp [RepA, RepD]) hev)
  · cases hev

theorem bytesLess_eq : ∀ (a b : List UInt8), Op.bytesLess a b = Lg.bytesLess a b
  | [], [] => rfl
  | [], _ :: _ => rfl
  | _ :: _, [] => rfl
  | x :: xs, y :: ys => by simp [Op.bytesLess, Lg.bytesLess, bytesLess_eq xs ys]

def vOf : D → Value
  | .int k n => .int k n
  | .bool b => .bool b
  | .str s => .string ⟨s.toArray⟩
  | .sl _ _ => undef
  | .nl _ => undef
  | .mp _ _ _ _ => undef

theorem run_equalIn_bool (d : Nat) {t : TypeId} (h : P.underlying t = some .bool) (b c : Bool) : (Op.equalIn (d + 1) t (.bool b) (.bool c)).run P w = .ok (b == c) w := by
  simp [Op.equalIn, run_underlying h]
theorem run_equal_bool {t : TypeId} (h : P.underlying t = some .bool) (b c : Bool) : (Op.equal t (.bool b) (.bool c)).run P w = .ok (b == c) w := run_equalIn_bool 9999 h b c

theorem op_binOp {u : BinOp} {t t' : TypeId} {x y : Operand} (hC : Cx P T) (ho : o.op = .binOp u t x y t') (hev : evOp0 T E o fr K = some r) (hF : RepF Lz Pr w fr a.tmps F) (hP : PrOK Pr w) (hd : DOK o a) (hn : Nx Lz K r o.dst Pr w a F next) (hy0 : isNilC y = false) : o.wp P a w next Q := by
  simp only [evOp0, ho, hy0, cond_false] at hev
  split at hev
  · rename_i va vb hx hy
    have hxr := rdO_sound hF hx
    have hyr := rdO_sound hF hy
    have done : ∀ {z : D}, K (dset o.dst (.val (.d z)) fr) = some r → RepD Pr z (vOf z) → (execOp a.eval o).run P w = .ok (.value (vOf z)) w → o.wp P a w next Q :=
      fun h3 h2 h1 => wp_value h1 (finV hF hP hd hn (x := .d _) (by simp only [RepA]; exact h2) h3)
    unfold binV at hev
    split at hev
    · rename_i k m k' n
      simp only [RepA, RepD] at hxr hyr
      split at hev
      · rename_i hk
        subst hk
        cases u <;> simp only [binI] at hev <;> try (cases hev; done)
        case quo => obtain ⟨h0, hev⟩ := chk_some hev; exact done hev (by simp [vOf, RepD]) (by simp [vOf, execOp, ho, hxr, hyr, eqGuard, binOp, Op.intDiv, h0])
        case rem => obtain ⟨h0, hev⟩ := chk_some hev; exact done hev (by simp [vOf, RepD]) (by simp [vOf, execOp, ho, hxr, hyr, eqGuard, binOp, Op.intDiv, h0])
        all_goals exact done hev (by simp [vOf, RepD]) (by simp [vOf, execOp, ho, hxr, hyr, eqGuard, binOp, Op.intArith, Op.intCmp])
      · cases hev
    · rename_i s s'
      simp only [RepA, RepD] at hxr hyr
      cases u <;> simp only [binS] at hev <;> try (cases hev; done)
      case add =>
        obtain ⟨h0, hev⟩ := chk_some hev
        refine done hev (by simp [vOf, RepD]) ?_
        have h0' : ¬ (((⟨s.toArray⟩ : ByteArray).size + (⟨s'.toArray⟩ : ByteArray).size : Nat) : Int) > IntKind.i64.max := by
          simp only [str_size, Lg.maxI, IntKind.max, IntKind.signed, IntKind.bits] at h0 ⊢
          simp; omega
        have happ : (⟨s.toArray⟩ : ByteArray) ++ ⟨s'.toArray⟩ = ⟨(s ++ s').toArray⟩ := by
          apply ByteArray.ext; simp
        simp only [vOf, execOp, ho, hxr, hyr, eqGuard, binOp, Op.stringOp, if_neg h0', happ]
        simp
      all_goals
        refine done hev (by simp [vOf, RepD]) ?_
        simp only [vOf, execOp, ho, hxr, hyr, eqGuard, binOp, Op.stringOp, ByteArray.toList_mk, bytesLess_eq]
        simp
    · rename_i b b'
      simp only [RepA, RepD] at hxr hyr
      replace hev := withT_some hev; obtain ⟨i, hi, hev⟩ := hev
      obtain ⟨tf⟩ := hC.facts hi
      split at hev
      · rename_i ha hs
        exact done hev (by simp [vOf, RepD]) (by simp [vOf, execOp, ho, hxr, hyr, eqGuard, binOp, run_equal_bool (tf.bool ha hs)])
      · rename_i ha hs
        exact done hev (by simp [vOf, RepD]) (by simp [vOf, execOp, ho, hxr, hyr, eqGuard, binOp, run_equal_bool (tf.bool ha hs)])
      · cases hev
    · rename_i cs ds
      simp only [RepA] at hxr hyr
      obtain ⟨xs, hxs, hxr⟩ := hxr
      obtain ⟨ys, hys, hyr⟩ := hyr
      replace hev := withT_some hev; obtain ⟨i, hi, hev⟩ := hev
      replace hev := bif_some hev; obtain ⟨hb, hev⟩ := hev
      simp only [Bool.and_eq_true] at hb
      obtain ⟨⟨⟨ha, he⟩, h1⟩, h2⟩ := hb
      obtain ⟨hg, hq⟩ := hC.eq t i hi he ha
      split at hev
      · rename_i q hq'
        have := hq Pr cs ds q xs ys w h1 h2 hxr hyr hq'
        exact done hev (by simp [vOf, RepD]) (by simp [vOf, execOp, ho, hxs, hys, eqGuard, hg, binOp, this])
      · rename_i q hq'
        have := hq Pr cs ds q xs ys w h1 h2 hxr hyr hq'
        exact done hev (by simp [vOf, RepD]) (by simp [vOf, execOp, ho, hxs, hys, eqGuard, hg, binOp, this])
      · cases hev
    · cases hev
  · cases hev
end
end Go.Proofs.Ytgcjhcefpkbheaa.Lg
end

section
namespace Go.Proofs.Ytgcjhcefpkbheaa.Lg
open Go
variable {Lz : PM}
section
variable {R : Type} {P : Program} {T : Tab} {E : CallS} {o : Oper} {fr : Fr} {K : Fr → Option R} {r : R} {Pr : PM} {w : World} {a : Act} {F : Nat → List Nat}
  {next : Act → World → Prop} {Q : Exit → Act → World → Prop}

theorem fitsV_str {i : TI} {s : List UInt8} (h : fitsV i (.d (.str s)) = true) : i.sh = [.str] := by
  simp only [fitsV] at h
  split at h <;> first | assumption | cases h
theorem fitsV_sl {i : TI} {es : List Sh} {l : List (RowE es)} (h : fitsV i (.d (.sl es l)) = true) : i.sh = [.sl es] ∧ i.es = es := by
  simp only [fitsV] at h
  split at h
  · rename_i es' hs
    simp only [Bool.and_eq_true] at h
    have h1 := shB_eq (show shB es es' = true from h.1)
    have h2 := shB_eq (show shB es i.es = true from h.2)
    subst h1
    exact ⟨hs, h2.symm⟩
  · cases h

theorem str_extract (s : List UInt8) (l h : Nat) : (⟨s.toArray⟩ : ByteArray).extract l h = ⟨((s.take h).drop l).toArray⟩ := by
  apply ByteArray.ext
  simp [ByteArray.data_extract, List.extract_eq_take_drop, List.drop_take]

theorem cut_rep {es : List Sh} {l : List (RowE es)} {p : Option Addr} {cap : Nat} {lo hi : Nat} (h1 : lo ≤ hi) (h2 : hi ≤ l.length) (hc : l.length ≤ cap)
    (hrow : l = [] ∨ ∃ b off, p = some ⟨b, off, none⟩ ∧ ∀ i x, l[i]? = some x → RepRow Pr es x b (off + i * es.length)) :
    RepA Pr (.d (.sl es ((l.take hi).drop lo))) (.slice (if cap = lo then p else p.map (·.add (lo * es.length))) (hi - lo) (cap - lo)) := by
  simp only [RepA, RepD, RepC]
  refine ⟨_, _, _, rfl, by simp; omega, by omega, ?_⟩
  by_cases he : lo = hi
  · left; subst he; simp
  · right
    have hne : l ≠ [] := by rintro rfl; simp at h2; omega
    replace hrow := hrow.resolve_left hne; obtain ⟨b, off, rfl, hrow⟩ := hrow
    refine ⟨b, off + lo * es.length, ?_, fun i x hi' => ?_⟩
    · rw [if_neg (by omega)]; simp [Addr.add_lit]
    · rw [List.getElem?_drop, List.getElem?_take] at hi'
      split at hi'
      · have := hrow _ _ hi'
        rw [Nat.add_mul] at this
        rw [Nat.add_assoc]; exact this
      · cases hi'

theorem rdOpt_sound {x : Option Operand} {v : Option AV} (hF : RepF Lz Pr w fr a.tmps F) (h : rdOpt fr x = some v) : (x = none ∧ v = none) ∨ ∃ y u, x = some y ∧ v = some u ∧ RepA Pr u (a.eval y) := by
  cases x with
  | none => simp [rdOpt] at h; exact .inl ⟨rfl, h.symm⟩
  | some y =>
    simp only [rdOpt, Option.map_eq_some_iff] at h
    obtain ⟨u, h1, rfl⟩ := h
    exact .inr ⟨y, u, rfl, rfl, rdO_sound hF h1⟩

/-- A part of a slice that is owned whole. -/
theorem own_slice {t : TypeId} {i : TI} {s d b : Nat} {es : List Sh} {l : List (RowE es)} {lo hi : Option Operand} (tf : TyF P t i) (ho : o.op = .slice t (.tmp s) lo hi none) (hF : RepF Lz Pr w fr a.tmps F) (hvw : view s fr = some (d, 0, b, ⟨es, l⟩))
    (hev : (match rdOpt fr lo, rdOpt fr hi with
      | some none, some (some (.d (.int _ m))) => bif i.agg || (Sh.eqs? es i.es).isNone || es.isEmpty then none else chk (0 ≤ m ∧ m ≤ b) (K (dset o.dst (.ow d (.sub es.length 0 m.toNat)) fr))
      | some (some (.d (.int _ n))), some none => bif i.agg || (Sh.eqs? es i.es).isNone || es.isEmpty then none else chk (0 ≤ n ∧ n ≤ b) (K (dset o.dst (.ow d (.sub es.length n.toNat b)) fr))
      | _, _ => none) = some r) : ∃ v k, (∀ w, (execOp a.eval o).run P w = .ok (.value v) w) ∧ OWv k (a.tmps.getD d undef) v ∧ K (dset o.dst (.ow d k) fr) = some r := by
  obtain ⟨hl, ⟨p, len, cap, q1, q2, q3, q4⟩, hbl, p', cap', r1, r2, _⟩ := view_sound hF hvw
  rw [q1] at r1
  simp only [Value.slice.injEq] at r1
  obtain ⟨_, rfl, rfl⟩ := r1
  rw [Nat.zero_mul, addr0, ite_self, Nat.sub_zero, Nat.sub_zero] at q4
  have run : i.agg = false → es = i.es → es ≠ [] → ∀ (l0 h : Nat) (lv hv' : Option Value), (∀ w, (Instr.sliceBounds true b cap lv hv' none).run P w = .ok (l0, h, cap) w) → lo.map a.eval = lv → hi.map a.eval = hv' →
      ∀ w, (execOp a.eval o).run P w = .ok (.value (.slice (if cap = l0 then p else p.map (·.add (l0 * es.length))) (h - l0) (cap - l0))) w := by
    intro ha he hne l0 h lv hv' hr e1 e2 w
    subst e1; subst e2
    obtain ⟨ef⟩ := tf.slice ha (.inl (he ▸ hne))
    have hsz := ef.run_size w
    rw [← he] at hsz
    simp only [execOp, ho, (show a.eval (.tmp s) = _ from q4), Instr.sliceAt, Sem.run_bind, run_underlying ef.hd, Result.andThen_ok, Instr.slice, Option.map_none, hr w, hsz, Sem.run_pure]
  split at hev
  · rename_i k m h1 h2
    have g1 := rdOpt_sound hF h1
    have g2 := rdOpt_sound hF h2
    rcases g1 with ⟨rfl, _⟩ | ⟨_, _, _, q, _⟩
    · rcases g2 with ⟨_, q⟩ | ⟨y, u, rfl, q, hh⟩
      · cases q
      · cases q
        simp only [RepA, RepD] at hh
        cases hb : (i.agg || (Sh.eqs? es i.es).isNone || es.isEmpty)
        · rw [hb, cond_false] at hev
          obtain ⟨ha, he, hne⟩ := own_cond hb
          obtain ⟨⟨z0, z1⟩, hev⟩ := chk_some hev
          refine ⟨_, .sub es.length 0 m.toNat, run ha he hne 0 m.toNat none (some (.int k m)) (fun w => by simp [Instr.sliceBounds, Instr.sliceBound, asIntOf, z0, show m ≤ (cap : Int) by omega]) rfl (by simp [hh]), ⟨p, l.length, cap, q1, Nat.zero_le _, by omega, rfl⟩, hev⟩
        · rw [hb, cond_true] at hev; cases hev
    · cases q
  · rename_i k n h1 h2
    have g1 := rdOpt_sound hF h1
    have g2 := rdOpt_sound hF h2
    rcases g1 with ⟨_, q⟩ | ⟨y, u, rfl, q, hh⟩
    · cases q
    · cases q
      rcases g2 with ⟨rfl, _⟩ | ⟨_, _, _, q, _⟩
      · simp only [RepA, RepD] at hh
        cases hb : (i.agg || (Sh.eqs? es i.es).isNone || es.isEmpty)
        · rw [hb, cond_false] at hev
          obtain ⟨ha, he, hne⟩ := own_cond hb
          obtain ⟨⟨z0, z1⟩, hev⟩ := chk_some hev
          refine ⟨_, .sub es.length n.toNat b, run ha he hne n.toNat b (some (.int k n)) none (fun w => by simp [Instr.sliceBounds, Instr.sliceBound, asIntOf, z0, z1]) (by simp [hh]) rfl, ⟨p, l.length, cap, q1, by omega, by omega, rfl⟩, hev⟩
        · rw [hb, cond_true] at hev; cases hev
      · cases q
  · cases hev
theorem op_slice {t : TypeId} {x : Operand} {lo hi : Option Operand} (hC : Cx P T) (ho : o.op = .slice t x lo hi none) (hev : evOp0 T E o fr K = some r) (hF : RepF Lz Pr w fr a.tmps F) (hP : PrOK Pr w) (hd : DOK o a) (hn : Nx Lz K r o.dst Pr w a F next) : o.wp P a w next Q := by
  simp only [evOp0, ho] at hev
  replace hev := withT_some hev; obtain ⟨i, hi', hev⟩ := hev
  obtain ⟨tf⟩ := hC.facts hi'
  cases hvw : viewO fr x with
  | some vw =>
    obtain ⟨d, a0, b, es, l⟩ := vw
    rw [hvw] at hev
    obtain ⟨s, rfl, hvw⟩ := viewO_tmp hvw
    cases a0 with
    | succ n => cases hev
    | zero =>
      obtain ⟨v, k, h1, h2, h3⟩ := own_slice tf ho hF hvw hev
      exact wp_value (h1 w) (fin hd hn hF hP (Ext.refl _ _ _) sub_self (B := []) (by simp [RepS]) List.nodup_nil (by simp) (by simp) rfl (by simp) (by simp) (by simp) h3 (by intro d' k' h; cases h; exact h2))
  | none =>
  rw [hvw] at hev
  dsimp only at hev
  split at hev
  · rename_i v av bv ha hx hlo hhi
    replace hev := bif_some hev; obtain ⟨hfit, hev⟩ := hev
    have hxr := rdO_sound hF hx
    have hlor := rdOpt_sound hF hlo
    have hhir := rdOpt_sound hF hhi
    have done : ∀ {v : Value} {z : AV}, K (dset o.dst (.val z) fr) = some r → RepA Pr z v → (execOp a.eval o).run P w = .ok (.value v) w → o.wp P a w next Q :=
      fun h3 h2 h1 => wp_value h1 (finV hF hP hd hn h2 h3)
    cases v with
    | d y =>
      cases y with
      | str s =>
        have hu := tf.str ha (fitsV_str hfit)
        simp only [RepA, RepD] at hxr
        have run : ∀ (l h : Nat) (lv hv : Option Value), (Instr.sliceBounds false s.length s.length lv hv none).run P w = .ok (l, h, s.length) w → lo.map a.eval = lv → hi.map a.eval = hv →
            (execOp a.eval o).run P w = .ok (.value (.string ⟨((s.take h).drop l).toArray⟩)) w := by
          intro l h lv hv hr e1 e2
          subst e1; subst e2
          simp only [execOp, ho, hxr, Instr.sliceAt, Sem.run_bind, run_underlying hu, Result.andThen_ok, Instr.slice, Option.map_none, Option.isSome_none, Bool.false_eq_true, if_false, Sem.run_pure, str_size, hr, str_extract]
        rcases hlor with ⟨rfl, rfl⟩ | ⟨ly, lu, rfl, rfl, hl⟩ <;> rcases hhir with ⟨rfl, rfl⟩ | ⟨hy, hu', rfl, rfl, hh⟩
        · simp only [evSlice] at hev
          have h1 := run 0 s.length none none (by simp [Instr.sliceBounds]) rfl rfl
          rw [List.take_length, List.drop_zero] at h1
          exact done hev (by simp [RepA, RepD]) h1
        · cases hu' with
          | d z =>
            cases z with
            | int k b =>
              simp only [evSlice] at hev
              obtain ⟨⟨g0, g1⟩, hev⟩ := chk_some hev
              simp only [RepA, RepD] at hh
              have h1 := run 0 b.toNat none (some (.int k b)) (by simp [Instr.sliceBounds, Instr.sliceBound, asIntOf, g0, g1]) rfl (by simp [hh])
              rw [List.drop_zero] at h1
              exact done hev (by simp [RepA, RepD]) h1
            | _ => simp [evSlice] at hev
          | _ => simp [evSlice] at hev
        · cases lu with
          | d z =>
            cases z with
            | int k b =>
              simp only [evSlice] at hev
              obtain ⟨⟨g0, g1⟩, hev⟩ := chk_some hev
              simp only [RepA, RepD] at hl
              have h1 := run b.toNat s.length (some (.int k b)) none (by simp [Instr.sliceBounds, Instr.sliceBound, asIntOf, g0, g1]) (by simp [hl]) rfl
              rw [List.take_length] at h1
              exact done hev (by simp [RepA, RepD]) h1
            | _ => simp [evSlice] at hev
          | _ => simp [evSlice] at hev
        · cases lu with
          | d z =>
            cases z with
            | int k b =>
              cases hu' with
              | d z' =>
                cases z' with
                | int k' b' =>
                  simp only [evSlice] at hev
                  obtain ⟨⟨g0, g1, g2⟩, hev⟩ := chk_some hev
                  simp only [RepA, RepD] at hl hh
                  have e1 : ((b'.toNat : Nat) : Int) = b' := by omega
                  have h1 := run b.toNat b'.toNat (some (.int k b)) (some (.int k' b')) (by simp [Instr.sliceBounds, Instr.sliceBound, asIntOf, g0, g2, show (0 : Int) ≤ b' by omega, e1, g1]) (by simp [hl]) (by simp [hh])
                  exact done hev (by simp [RepA, RepD]) h1
                | _ => simp [evSlice] at hev
              | _ => simp [evSlice] at hev
            | _ => simp [evSlice] at hev
          | _ => simp [evSlice] at hev
      | sl es l =>
        obtain ⟨hsh, hes⟩ := fitsV_sl hfit
        obtain ⟨ef⟩ := tf.slice ha (.inr ⟨es, hsh⟩)
        simp only [RepA, RepD, RepC] at hxr
        obtain ⟨p, len, cap, hv, hlen, hc, hrow⟩ := hxr
        subst hlen
        have run : ∀ (l0 h : Nat) (lv hv' : Option Value), (Instr.sliceBounds true l.length cap lv hv' none).run P w = .ok (l0, h, cap) w → lo.map a.eval = lv → hi.map a.eval = hv' →
            (execOp a.eval o).run P w = .ok (.value (.slice (if cap = l0 then p else p.map (·.add (l0 * es.length))) (h - l0) (cap - l0))) w := by
          intro l0 h lv hv' hr e1 e2
          subst e1; subst e2
          have hsz := ef.run_size w
          rw [hes] at hsz
          simp only [execOp, ho, hv, Instr.sliceAt, Sem.run_bind, run_underlying ef.hd, Result.andThen_ok, Instr.slice, Option.map_none, hr, hsz, Sem.run_pure]
        rcases hlor with ⟨rfl, rfl⟩ | ⟨ly, lu, rfl, rfl, hl⟩ <;> rcases hhir with ⟨rfl, rfl⟩ | ⟨hy, hu', rfl, rfl, hh⟩
        · simp only [evSlice] at hev
          have h1 := run 0 l.length none none (by simp [Instr.sliceBounds]) rfl rfl
          have h2 := cut_rep (Pr := Pr) (p := p) (lo := 0) (hi := l.length) (by omega) (by omega) hc hrow
          rw [List.take_length, List.drop_zero] at h2
          exact done hev h2 h1
        · cases hu' with
          | d z =>
            cases z with
            | int k b =>
              simp only [evSlice] at hev
              obtain ⟨⟨g0, g1⟩, hev⟩ := chk_some hev
              simp only [RepA, RepD] at hh
              have h1 := run 0 b.toNat none (some (.int k b)) (by simp [Instr.sliceBounds, Instr.sliceBound, asIntOf, g0, show b ≤ (cap : Int) by omega]) rfl (by simp [hh])
              have h2 := cut_rep (Pr := Pr) (p := p) (lo := 0) (hi := b.toNat) (by omega) (by omega) hc hrow
              rw [List.drop_zero] at h2
              exact done hev h2 h1
            | _ => simp [evSlice] at hev
          | _ => simp [evSlice] at hev
        · cases lu with
          | d z =>
            cases z with
            | int k b =>
              simp only [evSlice] at hev
              obtain ⟨⟨g0, g1⟩, hev⟩ := chk_some hev
              simp only [RepA, RepD] at hl
              have h1 := run b.toNat l.length (some (.int k b)) none (by simp [Instr.sliceBounds, Instr.sliceBound, asIntOf, g0, g1]) (by simp [hl]) rfl
              have h2 := cut_rep (Pr := Pr) (p := p) (lo := b.toNat) (hi := l.length) (by omega) (by omega) hc hrow
              rw [List.take_length] at h2
              exact done hev h2 h1
            | _ => simp [evSlice] at hev
          | _ => simp [evSlice] at hev
        · cases lu with
          | d z =>
            cases z with
            | int k b =>
              cases hu' with
              | d z' =>
                cases z' with
                | int k' b' =>
                  simp only [evSlice] at hev
                  obtain ⟨⟨g0, g1, g2⟩, hev⟩ := chk_some hev
                  simp only [RepA, RepD] at hl hh
                  have e1 : ((b'.toNat : Nat) : Int) = b' := by omega
                  have h1 := run b.toNat b'.toNat (some (.int k b)) (some (.int k' b')) (by simp [Instr.sliceBounds, Instr.sliceBound, asIntOf, g0, show b' ≤ (cap : Int) by omega, show (0 : Int) ≤ b' by omega, e1, g1]) (by simp [hl]) (by simp [hh])
                  exact done hev (cut_rep (by omega) (by omega) hc hrow) h1
                | _ => simp [evSlice] at hev
              | _ => simp [evSlice] at hev
            | _ => simp [evSlice] at hev
          | _ => simp [evSlice] at hev
      | _ => simp [fitsV] at hfit
    | _ => simp [fitsV] at hfit
  · cases hev

theorem op_range {t : TypeId} {x : Operand} (hC : Cx P T) (ho : o.op = .range t x) (hev : evOp0 T E o fr K = some r) (hF : RepF Lz Pr w fr a.tmps F) (hP : PrOK Pr w) (hd : DOK o a) (hn : Nx Lz K r o.dst Pr w a F next) : o.wp P a w next Q := by
  simp only [evOp0, ho] at hev
  replace hev := withT_some hev; obtain ⟨i, hi, hev⟩ := hev
  obtain ⟨tf⟩ := hC.facts hi
  split at hev
  · rename_i s ha hs hx
    have hxr := rdO_sound hF hx
    simp only [RepA, RepD] at hxr
    refine wp_value (v := .pointer (some ⟨w.heap.size, 0, none⟩)) (w' := { w with heap := w.heap.push (.stringIter ⟨s.toArray⟩ 0) }) (by simp [execOp, ho, hxr, Instr.range, run_underlying (tf.str ha hs)]) ?_
    refine finNew hF hP hd hn ?_ rfl (by simp) (by simp) hev
    simp only [RepS]
    exact ⟨w.heap.size, rfl, by simp, fun o => hP.new o, rfl⟩
  · rename_i k b es k' b' es' m ha hs hx
    split at hev
    · rename_i hq _
      cases hq.down
      have hxr := rdO_sound hF hx
      simp only [RepA, RepD, RepC] at hxr
      obtain ⟨mf⟩ := tf.mp hs ha
      rcases hxr with ⟨hxr, rfl⟩ | ⟨bl, ens, ck, hxr, g2, g3, g4, m', g5, g6, g7⟩
      · refine wp_value (v := .pointer (some ⟨w.heap.size, 0, none⟩)) (w' := { w with heap := w.heap.push (.mapIter none 0 #[] 0) }) (by simp [execOp, ho, hxr, Instr.range, run_underlying mf.hd]) ?_
        refine finNew hF hP hd hn ?_ rfl (by simp) (by simp) hev
        simp only [RepS]
        exact ⟨w.heap.size, rfl, rfl, fun o => hP.new o, .inl ⟨0, 0, by simp⟩⟩
      · have hbl := hP.map g2
        refine wp_value (v := .pointer (some ⟨w.heap.size, 0, none⟩)) (w' := { w with heap := w.heap.push (.mapIter (some bl) ck #[] ck) }) (by simp [execOp, ho, hxr, Instr.range, run_underlying mf.hd, Go.getObj, Sem.run, hbl]) ?_
        refine finNew hF hP hd hn ?_ rfl (by simp) (by simp) hev
        simp only [RepS]
        refine ⟨w.heap.size, rfl, rfl, fun o => hP.new o, .inr ⟨bl, ens, ck, #[], by simp, g2, g3, fun _ => rfl, ⟨m', g5, ens.toList, (by simp only [show ∀ b : Nat, (#[] : Array Nat).contains b = false from fun _ => by simp, Bool.not_false]; exact (List.filter_eq_self.2 fun _ _ => rfl).symm), by simpa using g6, fun i x hi => ?_⟩, by simp⟩⟩
        obtain ⟨en, q1, q2, q3⟩ := g7 i x hi
        exact ⟨en, by simpa using q1, q2, q3⟩
    · cases hev
  · cases hev

theorem op_next {x : Operand} (ho : o.op = .next x true) (hev : evOp0 T E o fr K = some r) (hF : RepF Lz Pr w fr a.tmps F) (hP : PrOK Pr w) (hd : DOK o a) (hn : Nx Lz K r o.dst Pr w a F next) : o.wp P a w next Q := by
  simp only [evOp0, ho] at hev
  split at hev
  · rename_i s
    split at hev
    · rename_i pre l pos rest hf
      have hl := find_look s fr [] _ _ _ hf
      have hr := hF.rep s
      rw [hl] at hr
      simp only [RepS] at hr
      obtain ⟨b, hv, hb, hpr, hB⟩ := hr
      rcases brP_some hev with ⟨hlt, h⟩ | ⟨hlt, h⟩
      · clear hev
        generalize hw' : ({ w with heap := w.heap.setIfInBounds b (.stringIter ⟨l.toArray⟩ (pos + (Utf8.decode ⟨l.toArray⟩ pos).2)) } : World) = w'
        have hlt2 := (Array.getElem?_eq_some_iff.1 hb).1
        have hb' : w'.heap[b]? = some (.stringIter ⟨l.toArray⟩ (pos + (Utf8.decode ⟨l.toArray⟩ pos).2)) := by rw [← hw']; simp [hlt2]
        have hoth : ∀ k, k ≠ b → w'.heap[k]? = w.heap[k]? := fun k hk => by rw [← hw']; simp [Array.getElem?_setIfInBounds, Ne.symm hk]
        have hsize : w'.heap.size = w.heap.size := by rw [← hw']; simp
        have hbs : b ∈ F s := by rw [hB]; simp
        have hrun : (execOp a.eval o).run P w = .ok (.value (.tuple #[.bool true, .int .i64 pos, .int .i32 (Utf8.decode ⟨l.toArray⟩ pos).1])) w' := by
          rw [← hw']
          simp [execOp, ho, (show a.eval (.tmp s) = _ from hv), Instr.next, Go.getObj, Sem.run, hb, str_size, hlt, setObj, goInt]
        have hkeep : ∀ (B : List Nat), b ∉ B → Keeps B Pr w Pr w' := fun B hb b' hb' => ⟨hoth b' (fun e => hb (e ▸ hb')), fun _ => rfl⟩
        have h1 : RepF Lz Pr w' ((s, .sit l (pos + (Utf8.decode ⟨l.toArray⟩ pos).2)) :: fr) a.tmps (fun t => if t = s then [b] else F t) := by
          refine hF.rebind (PrLe.refl _) (fun t ht => hkeep _ (fun q => hF.apart t s ht b q hbs)) (fun _ _ => rfl) ?_ (by simp) ?_ (by simp [SV.isUpd]) (by simp) (by simp) (by simp)
          · simp only [RepS]; exact ⟨b, hv, hb', hpr, rfl⟩
          · intro t ht b' hb' q; simp at hb'; subst hb'; exact hF.apart t s ht _ q hbs
        have hP' : PrOK Pr w' := by
          intro b' o' v hv'
          have := hP b' o' v hv'
          by_cases e : b' = b
          · subst e; rw [hpr] at hv'; cases hv'
          · simp only [cellX, World.cell?, hoth b' e] at this ⊢; exact this
        have hx' : Ext (fun b => ∃ t, b ∈ F t) Pr w Pr w' := by
          refine ⟨by rw [← hw'], by rw [← hw'], by rw [← hw'], by omega, PrLe.refl _, fun k hk hna => ⟨hoth k (fun e => ?_), fun _ => rfl⟩, by rw [← hw']; exact Nat.le_refl _⟩
          subst e; exact hna ⟨s, hbs⟩
        refine wp_value hrun (fin hd hn h1 hP' hx' ?_ (B := []) ?_ List.nodup_nil (by simp) (by simp) rfl (by simp) (by simp) (by simp) h)
        · intro t b' hb'
          by_cases e : t = s
          · simp [e] at hb'; subst hb'; exact .inl ⟨s, hbs⟩
          · rw [if_neg e] at hb'; exact .inl ⟨t, hb'⟩
        · simp [RepS, RepA, RepAs, RepD]
      · clear hev
        refine wp_value (v := .tuple #[.bool false]) (w' := w) ?_ (finV hF hP hd hn ?_ h)
        · simp [execOp, ho, (show a.eval (.tmp s) = _ from hv), Instr.next, Go.getObj, Sem.run, hb, str_size, hlt]
        · simp [RepA, RepAs, RepD]
    · cases hev
  · cases hev
end
end Go.Proofs.Ytgcjhcefpkbheaa.Lg
end

section
namespace Go.Proofs.Ytgcjhcefpkbheaa.Lg
open Go
variable {Lz : PM}
section
variable {R : Type} {P : Program} {T : Tab} {E : CallS} {o : Oper} {fr : Fr} {K : Fr → Option R} {r : R} {Pr : PM} {w : World} {a : Act} {F : Nat → List Nat}
  {next : Act → World → Prop} {Q : Exit → Act → World → Prop}

theorem foldl_splice : ∀ (us : List Value) (off k : Nat) (cells : Array Value), off + k + us.length ≤ cells.size →
    ((us.zipIdx k).foldl (fun cs (x : Value × Nat) => cs.setIfInBounds (off + x.2) x.1) cells).toList = cells.toList.take (off + k) ++ us ++ cells.toList.drop (off + k + us.length)
  | [], off, k, cells, _ => by simp
  | u :: us, off, k, cells, h => by
    simp only [List.zipIdx_cons, List.foldl_cons]
    rw [foldl_splice us off (k + 1) (cells.setIfInBounds (off + k) u) (by simp at h ⊢; omega)]
    have hlt : off + k < cells.toList.length := by simp at h ⊢; omega
    have e1 : (cells.setIfInBounds (off + k) u).toList = cells.toList.set (off + k) u := by simp
    rw [e1]
    have e2 : (cells.toList.set (off + k) u).take (off + (k + 1)) = cells.toList.take (off + k) ++ [u] := by
      rw [show off + (k + 1) = (off + k) + 1 by omega, List.take_succ_eq_append_getElem (by simpa using hlt), List.take_set_of_le (Nat.le_refl _)]
      simp
    have e3 : (cells.toList.set (off + k) u).drop (off + (k + 1) + us.length) = cells.toList.drop (off + k + (us.length + 1)) := by
      rw [List.drop_set_of_lt (by omega), show off + (k + 1) + us.length = off + k + (us.length + 1) by omega]
    rw [e2, e3]
    simp

def spl {α : Type} (o : Nat) (us cs : List α) : List α := cs.take o ++ us ++ cs.drop (o + us.length)

theorem fill_cons {place : Nat → Option (Nat × Nat)} {cells : Array Value} {i off size : Nat} {v : Value} {rest : List (Nat × Value)} (hp : place i = some (off, size)) (hs : v.cells.size = size) (hf : off + size ≤ cells.size) :
    ∃ cells' : Array Value, cells'.toList = spl off v.cells.toList cells.toList ∧ Instr.fill place cells ((i, v) :: rest) = Instr.fill place cells' rest := by
  refine ⟨v.cells.zipIdx.foldl (fun cs x => cs.setIfInBounds (off + x.2) x.1) cells, ?_, ?_⟩
  · rw [← Array.foldl_toList, Array.toList_zipIdx]
    have := foldl_splice v.cells.toList off 0 cells (by simp; omega)
    simpa [spl] using this
  · simp only [Instr.fill, hp]
    rw [if_neg (by simp [hs]; omega)]

theorem spl_spl {α : Type} (o : Nat) (A B cs : List α) (h : o + A.length + B.length ≤ cs.length) : spl (o + A.length) B (spl o A cs) = spl o (A ++ B) cs := by
  unfold spl
  have h1 : (List.take o cs ++ A).length = o + A.length := by simp; omega
  have e1 : (List.take o cs ++ A ++ List.drop (o + A.length) cs).take (o + A.length) = List.take o cs ++ A := List.take_left' h1
  have e2 : (List.take o cs ++ A ++ List.drop (o + A.length) cs).drop (o + A.length + B.length) = List.drop (o + (A ++ B).length) cs := by
    rw [← List.drop_drop, List.drop_left' h1, List.drop_drop]
    congr 1; simp; omega
  rw [e1, e2]
  simp

theorem setD_nil : ∀ (o : Nat) (cs : List D), setD o [] cs = cs
  | 0, [] => rfl
  | 0, _ :: _ => rfl
  | _ + 1, [] => rfl
  | _ + 1, _ :: _ => rfl
theorem setD_spl : ∀ (o : Nat) (ds cs : List D), o + ds.length ≤ cs.length → setD o ds cs = spl o ds cs
  | o, [], cs, _ => by simp [setD_nil, spl]
  | 0, x :: xs, [], h => by simp at h
  | o + 1, x :: xs, [], h => by simp at h
  | 0, x :: xs, c :: cs, h => by
    simp only [setD]
    rw [setD_spl 0 xs cs (by simp at h ⊢; omega)]
    simp [spl, Nat.add_comm]
  | o + 1, x :: xs, c :: cs, h => by
    simp only [setD]
    rw [setD_spl o (x :: xs) cs (by simp at h ⊢; omega)]
    unfold spl
    rw [show o + 1 + (x :: xs).length = (o + (x :: xs).length) + 1 by omega]
    simp
theorem RepDs.append : ∀ (cs : List D) (vs : List Value) (ds : List D) (us : List Value), RepDs Pr cs vs → RepDs Pr ds us → RepDs Pr (cs ++ ds) (vs ++ us)
  | [], [], _, _, _, k => k
  | c :: cs, v :: vs, ds, us, h, k => ⟨h.1, RepDs.append cs vs ds us h.2 k⟩
  | [], _ :: _, _, _, h, _ => by simp [RepDs] at h
  | _ :: _, [], _, _, h, _ => by simp [RepDs] at h
theorem RepDs.spl {cs ds : List D} {vs us : List Value} (o : Nat) (h : RepDs Pr cs vs) (k : RepDs Pr ds us) : RepDs Pr (Lg.spl o ds cs) (Lg.spl o us vs) := by
  unfold Lg.spl
  rw [RepDs.length _ _ k]
  exact RepDs.append _ _ _ _ (RepDs.append _ _ _ _ (h.take o) k) (h.drop _)

theorem fill_sound (hF : RepF Lz Pr w fr a.tmps F) {flds : List (Nat × Nat)} {place : Nat → Option (Nat × Nat)} (hp : ∀ i, flds[i]? ≠ none → place i = flds[i]?) : ∀ (parts : List (Nat × Operand)) (cs cs' : List D) (cells : Array Value),
    fillD flds fr parts cs = some cs' → RepDs Pr cs cells.toList → ∃ cells', Instr.fill place cells (parts.map fun x => (x.1, a.eval x.2)) = some cells' ∧ RepDs Pr cs' cells'.toList
  | [], cs, cs', cells, h, hr => by simp [fillD] at h; subst h; exact ⟨cells, rfl, hr⟩
  | (i, x) :: rest, cs, cs', cells, h, hr => by
    simp only [fillD] at h
    split at h
    · rename_i off n ds hfl hds
      replace h := bif_some h; obtain ⟨e1, h⟩ := h
      replace h := bif_some h; obtain ⟨e2, h⟩ := h
      have e1 := Nat.eq_of_beq_eq_true e1
      have e2 := Nat.le_of_ble_eq_true e2
      obtain ⟨v, hv, hds⟩ := Option.bind_eq_some_iff.1 hds
      have hcl := (rdO_sound hF hv).cells hds
      have h1 := RepDs.length _ _ hcl
      have h2 := RepDs.length _ _ hr
      obtain ⟨cells', hc1, hc2⟩ := fill_cons (place := place) (cells := cells) (i := i) (off := off) (size := n) (v := a.eval x) (rest := rest.map fun x => (x.1, a.eval x.2)) (by rw [hp i (by simp [hfl]), hfl]) (by simp at h1; omega) (by simp at h2; omega)
      rw [List.map_cons, hc2]
      rw [setD_spl off ds cs (by omega)] at h
      exact fill_sound hF hp rest _ cs' cells' h (by rw [hc1]; exact hr.spl off hcl)
    · cases h

theorem zerosD_rep : ∀ (es : List Sh) (vs : List Value), zerosB es vs = true → RepDs Pr (es.map zeroD) vs
  | [], [], _ => trivial
  | e :: es, v :: vs, h => by
    simp only [zerosB, Bool.and_eq_true] at h
    refine ⟨?_, zerosD_rep es vs h.2⟩
    have h1 := h.1
    cases e with
    | int k => cases v <;> simp [zeroB] at h1; obtain ⟨rfl, rfl⟩ := h1; simp [RepD, zeroD, toD, CE.dflt]
    | bool => cases v <;> simp [zeroB] at h1; subst h1; simp [RepD, zeroD, toD, CE.dflt]
    | str => cases v <;> simp [zeroB] at h1; subst h1; simp only [RepD, zeroD, toD, CE.dflt]; rfl
    | sl es' =>
      unfold zeroB at h1
      split at h1 <;> simp_all
      simp only [RepD, zeroD, toD, CE.dflt, RepC]
      exact ⟨none, 0, 0, rfl, rfl, Nat.le_refl _, by simp⟩
    | mp k' b' es' =>
      unfold zeroB at h1
      split at h1 <;> simp_all
      simp [RepD, RepC, zeroD, toD, CE.dflt]
  | [], _ :: _, h => by simp [zerosB] at h
  | _ :: _, [], h => by simp [zerosB] at h

theorem zerosN_rep : ∀ (es : List Sh) (vs : List Value), zerosB es vs = true → RepDs Pr (es.map zeroN) vs
  | [], [], _ => trivial
  | e :: es, v :: vs, h => by
    have h0 := zerosD_rep (Pr := Pr) (e :: es) (v :: vs) h
    simp only [zerosB, Bool.and_eq_true] at h
    refine ⟨?_, zerosN_rep es vs h.2⟩
    have h1 := h.1
    cases e with
    | sl es' =>
      unfold zeroB at h1
      split at h1 <;> simp_all
      simp [RepD, zeroN]
    | _ => exact h0.1
  | [], _ :: _, h => by simp [zerosB] at h
  | _ :: _, [], h => by simp [zerosB] at h

theorem places_of : ∀ (fs : List Field) (l : List (Nat × Nat)) (ts : List Nat), fldsB P fs l ts = true → fs.mapM (fun f => (P.info? f.type).map fun i => (f.offset, i.size)) = some l
  | [], [], [], _ => by simp
  | f :: fs, (o', n') :: l, t :: ts, h => by
    simp only [fldsB, Bool.and_eq_true, beq_iff_eq, Bool.not_eq_true', beq_eq_false_iff_ne] at h
    obtain ⟨⟨⟨⟨h1, h2⟩, h3⟩, h4⟩, h5⟩ := h
    cases hi : P.info? f.type with
    | none => simp [hi] at h3
    | some g =>
      simp [hi] at h3
      simp [List.mapM_cons, hi, places_of fs l ts h5, h1, h3]
  | [], (_, _) :: _, _, h => by simp [fldsB] at h
  | [], [], _ :: _, h => by simp [fldsB] at h
  | _ :: _, [], _, h => by simp [fldsB] at h
  | _ :: _, (_, _) :: _, [], h => by simp [fldsB] at h

theorem op_build {t : TypeId} {parts : Array (Nat × Operand)} (hC : Cx P T) (ho : o.op = .build t parts) (hev : evOp0 T E o fr K = some r) (hF : RepF Lz Pr w fr a.tmps F) (hP : PrOK Pr w) (hd : DOK o a) (hn : Nx Lz K r o.dst Pr w a F next) : o.wp P a w next Q := by
  simp only [evOp0, ho, fillZ_zero, fillZ_zeroN] at hev
  replace hev := withT_some hev; obtain ⟨i, hi, hev⟩ := hev
  obtain ⟨tf⟩ := hC.facts hi
  have fin' : ∀ {cs : List D} {cells : Array Value}, P.built t (parts.toList.map fun x => (x.1, a.eval x.2)) = some cells → RepDs Pr cs cells.toList → K (dset o.dst (.val (.agg cs)) fr) = some r → o.wp P a w next Q := by
    intro cs cells h1 h2 h3
    refine wp_value (v := .agg cells) (w' := w) ?_ (finV hF hP hd hn (x := .agg cs) (by simp only [RepA]; exact ⟨_, rfl, h2⟩) h3)
    have hb := run_build (P := P) w t (parts.map fun (x : Nat × Operand) => (x.1, a.eval x.2)) cells (by simpa using h1)
    simp only [execOp, ho]
    simp [hb]
  have finN : ∀ {cs : List D} {cells : Array Value}, P.built t (parts.toList.map fun x => (x.1, a.eval x.2)) = some cells → RepDs Pr cs cells.toList → K (dset o.dst (mkBld cs) fr) = some r → o.wp P a w next Q := by
    intro cs cells h1 h2 h3
    cases hc : cs.any D.isNl
    · rw [mkBld, hc, cond_false] at h3
      exact fin' h1 h2 h3
    · rw [mkBld, hc, cond_true] at h3
      refine wp_value (v := .agg cells) (w' := w) ?_ (fin hd hn hF hP (Ext.refl _ _ _) sub_self (B := []) (by simp only [RepS]; exact ⟨⟨cells, rfl, h2⟩, trivial⟩) List.nodup_nil (by simp) (by simp) rfl (by simp) (by simp) (by simp) h3)
      have hb := run_build (P := P) w t (parts.map fun (x : Nat × Operand) => (x.1, a.eval x.2)) cells (by simpa using h1)
      simp only [execOp, ho]
      simp [hb]
  split at hev
  · rename_i ha harr
    split at hev
    · rename_i cs hfill
      obtain ⟨d, f, z, hd', hf, hs, hz, hzb, desc⟩ := tf
      cases d <;> simp only [descB, ha, harr, Bool.and_eq_true, Option.isNone_none] at desc <;> try (simp at desc; done)
      case struct fs =>
        have hpl := places_of (P := P) _ _ _ desc.2
        obtain ⟨cells', h1, h2⟩ := fill_sound (place := (i.flds.toArray[·]?)) hF (fun j hj => by simp) parts.toList _ cs z.cells hfill (zerosN_rep _ _ hzb)
        refine finN (cells := cells') ?_ h2 hev
        simp only [Program.built, hf, hd', hz, hpl]
        exact h1
      all_goals (split at desc <;> simp at desc)
    · cases hev
  · rename_i n ha harr
    split at hev
    · rename_i cs hfw
      replace hev := bif_some hev; obtain ⟨hn1, hev⟩ := hev
      have hn1 := Nat.eq_of_beq_eq_true hn1
      have hfill : fillD ((List.range n).map fun j => (j * 1, 1)) fr parts.toList (i.sh.map zeroD) = some cs := by
        have := fillW_eq ((List.range n).map fun j => (j * 1, 1)) fr (i.sh.map zeroD) parts.toList [] cs (fun k hk => by
          have hk : k < n := by simpa [hn1] using hk
          simp [hk]) hfw
        simpa using this
      obtain ⟨e, g, hu, hg, hgs, hm, _⟩ := tf.array harr
      obtain ⟨cells', h1, h2⟩ := fill_sound (place := fun i => some (i * g.size, g.size)) hF (fun j hj => by
        have : j < n := by
          rcases Nat.lt_or_ge j n with h | h
          · exact h
          · exact absurd (List.getElem?_eq_none (by simpa using h)) hj
        simp [this, hgs]) parts.toList _ cs tf.z.cells hfill (zerosD_rep _ _ tf.hzb)
      refine fin' (cells := cells') ?_ h2 hev
      simp only [Program.built, tf.hf, hu, tf.hz, hg]
      exact h1
    · cases hev
  · rename_i n m _ ha harr
    split at hev
    · rename_i cs hfill
      obtain ⟨e, g, hu, hg, hgs, hm, _⟩ := tf.array harr
      obtain ⟨cells', h1, h2⟩ := fill_sound (place := fun i => some (i * g.size, g.size)) hF (fun j hj => by
        have : j < n := by
          rcases Nat.lt_or_ge j n with h | h
          · exact h
          · exact absurd (List.getElem?_eq_none (by simpa using h)) hj
        simp [this, hgs]) parts.toList _ cs tf.z.cells hfill (zerosD_rep _ _ tf.hzb)
      refine fin' (cells := cells') ?_ h2 hev
      simp only [Program.built, tf.hf, hu, tf.hz, hg]
      exact h1
    · cases hev
  · cases hev

theorem rows_fill (hF : RepF Lz Pr w fr a.tmps F) {es : List Sh} : ∀ (parts : List (Nat × Operand)) (k : Nat) (l : List (RowE es)) (cells : Array Value), rowsOf es fr k parts = some l → (k + parts.length) * es.length ≤ cells.size →
    ∃ vss cells', RowsVals Pr es l vss ∧ Instr.fill (fun i => some (i * es.length, es.length)) cells (parts.map fun x => (x.1, a.eval x.2)) = some cells' ∧ cells'.toList = spl (k * es.length) vss.flatten cells.toList
  | [], k, l, cells, h, _ => by simp [rowsOf] at h; subst h; exact ⟨[], cells, trivial, rfl, by simp [spl]⟩
  | (j, x) :: rest, k, l, cells, h, hl => by
    simp only [rowsOf] at h
    replace h := bif_some h; obtain ⟨e1, h⟩ := h
    have e1 := Nat.eq_of_beq_eq_true e1
    subst e1
    split at h
    · rename_i row l' hrow hrest
      simp at h; subst h
      obtain ⟨ds, hds, hof⟩ := Option.bind_eq_some_iff.1 hrow
      obtain ⟨v, hv, hds⟩ := Option.bind_eq_some_iff.1 hds
      have hcl := (rdO_sound hF hv).cells hds
      have hrv := ofDs_vals es ds row _ hof hcl
      have hrl := RowVals.length es row _ hrv
      obtain ⟨c1, hc1, hc2⟩ := fill_cons (place := fun i => some (i * es.length, es.length)) (cells := cells) (i := k) (off := k * es.length) (size := es.length) (v := a.eval x) (rest := rest.map fun x => (x.1, a.eval x.2)) rfl (by simpa using hrl) (by simp only [List.length_cons, Nat.add_mul] at hl ⊢; omega)
      have hsz : c1.size = cells.size := by
        have := congrArg List.length hc1
        simp only [spl, List.length_append, List.length_take, List.length_drop, Array.length_toList, hrl] at this
        simp only [List.length_cons, Nat.add_mul] at hl
        have : (a.eval x).cells.size = es.length := by simpa using hrl
        omega
      obtain ⟨vss, c2, h1, h2, h3⟩ := rows_fill hF rest (k + 1) l' c1 hrest (by rw [hsz]; simp only [List.length_cons] at hl; rw [show k + 1 + rest.length = k + (rest.length + 1) by omega]; exact hl)
      refine ⟨(a.eval x).cells.toList :: vss, c2, ⟨hrv, h1⟩, by rw [List.map_cons, hc2, h2], ?_⟩
      have hfl := RowsVals.length l' vss h1
      have hll : l'.length = rest.length := by
        have : ∀ (ps : List (Nat × Operand)) (k : Nat) (m : List (RowE es)), rowsOf es fr k ps = some m → m.length = ps.length := by
          intro ps
          induction ps with
          | nil => intro k m hm; simp [rowsOf] at hm; subst hm; rfl
          | cons p ps ih =>
            intro k m hm
            obtain ⟨j, x⟩ := p
            simp only [rowsOf] at hm
            replace hm := bif_some hm; obtain ⟨_, hm⟩ := hm
            split at hm
            · rename_i r' l2 _ hr2
              simp at hm; subst hm
              simp [ih _ _ hr2]
            · cases hm
        exact this _ _ _ hrest
      rw [h3, hc1]
      have := spl_spl (k * es.length) (a.eval x).cells.toList vss.flatten cells.toList (by
        rw [hrl, hfl, hll]
        simp only [List.length_cons, Nat.add_mul, Nat.one_mul, Array.length_toList] at hl ⊢
        omega)
      rw [hrl] at this
      rw [Nat.succ_mul, this, List.flatten_cons]
    · cases h
end
end Go.Proofs.Ytgcjhcefpkbheaa.Lg
end
