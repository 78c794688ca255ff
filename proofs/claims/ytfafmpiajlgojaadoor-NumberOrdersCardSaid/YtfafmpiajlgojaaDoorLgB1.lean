/- Part of a proof of the seat's statements: no statement by itself. -/
import Derived.Test.YtfafmpiajlgojaaDoorLgA
namespace Go.Proofs.YtfafmpiajlgojaaDoor.Lg
open Go

/-- The cells that never turn again. -/
abbrev PM := Nat → Nat → Option Value

mutual
def RepC (Pr : PM) : (e : Sh) → CE e → Value → Prop
  | .int k, n, v => v = .int k n
  | .bool, b, v => v = .bool b
  | .str, s, v => v = .string ⟨s.toArray⟩
  | .sl es, l, v => ∃ a len cap, v = .slice a len cap ∧ len = l.length ∧ len ≤ cap ∧
      (l = [] ∨ ∃ b off, a = some ⟨b, off, none⟩ ∧ ∀ i x, l[i]? = some x → RepRow Pr es x b (off + i * es.length))
def RepRow (Pr : PM) : (es : List Sh) → RowE es → Nat → Nat → Prop
  | [], _, _, _ => True
  | e :: es, r, b, o => (∃ v, Pr b o = some v ∧ RepC Pr e r.1 v) ∧ RepRow Pr es r.2 b (o + 1)
end

def RepD (Pr : PM) : D → Value → Prop
  | .int k n, v => v = .int k n
  | .bool b, v => v = .bool b
  | .str s, v => v = .string ⟨s.toArray⟩
  | .sl es l, v => RepC Pr (.sl es) l v
def RepDs (Pr : PM) : List D → List Value → Prop
  | [], [] => True
  | d :: ds, v :: vs => RepD Pr d v ∧ RepDs Pr ds vs
  | _, _ => False
mutual
def RepA (Pr : PM) : AV → Value → Prop
  | .d x, v => RepD Pr x v
  | .agg cs, v => ∃ vs, v = .agg vs ∧ RepDs Pr cs vs.toList
  | .tup l, v => ∃ vs, v = .tuple vs ∧ RepAs Pr l vs.toList
  | .fn g caps, v => ∃ cs, v = .func (.func g) #[] cs ∧ RepAs Pr caps cs.toList
  | .pt cs, v => ∃ b o, v = .pointer (some ⟨b, o, none⟩) ∧ ∀ j x, cs[j]? = some x → ∃ u, Pr b (o + j) = some u ∧ RepD Pr x u
def RepAs (Pr : PM) : List AV → List Value → Prop
  | [], [] => True
  | a :: l, v :: vs => RepA Pr a v ∧ RepAs Pr l vs
  | _, _ => False
end

mutual
def RepS (Pr : PM) (w : World) : SV → Value → List Nat → Prop
  | .unk, _, B => B = []
  | .und, v, B => v = undef ∧ B = []
  | .val a, v, B => RepA Pr a v ∧ B = []
  | .app es l, v, B => (v = .slice none 0 0 ∧ l = [] ∧ B = []) ∨ ∃ b off cap c T, v = .slice (some ⟨b, off, none⟩) l.length cap ∧ B = [b] ∧ w.heap[b]? = some (.cells c T (0, 0)) ∧
      l.length ≤ cap ∧ off + cap * es.length ≤ c.size ∧ (∀ i x, l[i]? = some x → RepRow Pr es x b (off + i * es.length)) ∧ (∀ o, off + l.length * es.length ≤ o → Pr b o = none)
  | .box _ cs, v, B => ∃ b c T Bs, v = .pointer (some ⟨b, 0, none⟩) ∧ w.heap[b]? = some (.cells c T (0, 0)) ∧ (∀ o, Pr b o = none) ∧ B = b :: Bs.flatten ∧ RepSs Pr w cs c.toList Bs
  | .sit s pos, v, B => ∃ b, v = .pointer (some ⟨b, 0, none⟩) ∧ w.heap[b]? = some (.stringIter ⟨s.toArray⟩ pos) ∧ (∀ o, Pr b o = none) ∧ B = [b]
  | .at cs, v, B => (∃ b o, v = .pointer (some ⟨b, o, none⟩) ∧ ∀ j x, cs[j]? = some x → ∃ u, Pr b (o + j) = some u ∧ RepD Pr x u) ∧ B = []
  | .al _ _, _, B => B = []
  | .ref _ _, _, B => B = []
def RepSs (Pr : PM) (w : World) : List SV → List Value → List (List Nat) → Prop
  | [], [], [] => True
  | s :: ss, v :: vs, B :: Bs => RepS Pr w s v B ∧ RepSs Pr w ss vs Bs
  | _, _, _ => False
end

def PrLe (Pr Pr' : PM) : Prop := ∀ b o v, Pr b o = some v → Pr' b o = some v
def PrOK (Pr : PM) (w : World) : Prop := ∀ b o v, Pr b o = some v → w.cell? ⟨b, o, none⟩ = some v

theorem PrLe.refl (Pr : PM) : PrLe Pr Pr := fun _ _ _ h => h
theorem PrLe.trans {a b c : PM} (h : PrLe a b) (k : PrLe b c) : PrLe a c := fun x y z q => k _ _ _ (h _ _ _ q)

mutual
theorem RepC.mono {Pr Pr' : PM} (h : PrLe Pr Pr') : ∀ (e : Sh) (x : CE e) (v : Value), RepC Pr e x v → RepC Pr' e x v
  | .int _, _, _, q => by simpa [RepC] using q
  | .bool, _, _, q => by simpa [RepC] using q
  | .str, _, _, q => by simpa [RepC] using q
  | .sl es, l, v, q => by
    simp only [RepC] at q ⊢
    obtain ⟨a, len, cap, hv, hl, hc, q⟩ := q
    refine ⟨a, len, cap, hv, hl, hc, q.imp id ?_⟩
    rintro ⟨b, off, ha, q⟩
    exact ⟨b, off, ha, fun i x hi => RepRow.mono h es x b _ (q i x hi)⟩
theorem RepRow.mono {Pr Pr' : PM} (h : PrLe Pr Pr') : ∀ (es : List Sh) (r : RowE es) (b o : Nat), RepRow Pr es r b o → RepRow Pr' es r b o
  | [], _, _, _, _ => by simp [RepRow]
  | e :: es, r, b, o, q => by
    simp only [RepRow] at q ⊢
    obtain ⟨⟨v, hv, q⟩, k⟩ := q
    exact ⟨⟨v, h _ _ _ hv, RepC.mono h e r.1 v q⟩, RepRow.mono h es r.2 b (o + 1) k⟩
end

theorem RepD.mono {Pr Pr' : PM} (h : PrLe Pr Pr') : ∀ (x : D) (v : Value), RepD Pr x v → RepD Pr' x v
  | .int _ _, _, q => q
  | .bool _, _, q => q
  | .str _, _, q => q
  | .sl es l, v, q => RepC.mono h (.sl es) l v q
theorem RepDs.mono {Pr Pr' : PM} (h : PrLe Pr Pr') : ∀ (x : List D) (v : List Value), RepDs Pr x v → RepDs Pr' x v
  | [], [], q => q
  | _ :: _, _ :: _, ⟨a, b⟩ => ⟨RepD.mono h _ _ a, RepDs.mono h _ _ b⟩
  | [], _ :: _, q => q
  | _ :: _, [], q => q
mutual
theorem RepA.mono {Pr Pr' : PM} (h : PrLe Pr Pr') : ∀ (x : AV) (v : Value), RepA Pr x v → RepA Pr' x v
  | .d x, v, q => by simp only [RepA] at q ⊢; exact RepD.mono h x v q
  | .agg cs, v, q => by simp only [RepA] at q ⊢; obtain ⟨vs, hv, q⟩ := q; exact ⟨vs, hv, RepDs.mono h _ _ q⟩
  | .tup l, v, q => by simp only [RepA] at q ⊢; obtain ⟨vs, hv, q⟩ := q; exact ⟨vs, hv, RepAs.mono h _ _ q⟩
  | .fn g caps, v, q => by simp only [RepA] at q ⊢; obtain ⟨vs, hv, q⟩ := q; exact ⟨vs, hv, RepAs.mono h _ _ q⟩
  | .pt cs, v, q => by simp only [RepA] at q ⊢; obtain ⟨b, o, hv, q⟩ := q; exact ⟨b, o, hv, fun j x hj => let ⟨u, hu, r⟩ := q j x hj; ⟨u, h _ _ _ hu, RepD.mono h x u r⟩⟩
theorem RepAs.mono {Pr Pr' : PM} (h : PrLe Pr Pr') : ∀ (x : List AV) (v : List Value), RepAs Pr x v → RepAs Pr' x v
  | [], [], q => by simp [RepAs]
  | a :: l, v :: vs, q => by simp only [RepAs] at q ⊢; exact ⟨RepA.mono h a v q.1, RepAs.mono h l vs q.2⟩
  | [], _ :: _, q => by simp [RepAs] at q
  | _ :: _, [], q => by simp [RepAs] at q
end

/-- What a change of the world leaves of the blocks in B. -/
def Keeps (B : List Nat) (Pr : PM) (w : World) (Pr' : PM) (w' : World) : Prop :=
  ∀ b ∈ B, w'.heap[b]? = w.heap[b]? ∧ ∀ o, Pr' b o = Pr b o

mutual
theorem RepS.mono {Pr Pr' : PM} {w w' : World} (h : PrLe Pr Pr') : ∀ (x : SV) (v : Value) (B : List Nat), Keeps B Pr w Pr' w' → RepS Pr w x v B → RepS Pr' w' x v B
  | .unk, _, _, _, q => by simpa [RepS] using q
  | .und, _, _, _, q => by simpa [RepS] using q
  | .val a, v, _, _, q => by simp only [RepS] at q ⊢; exact ⟨RepA.mono h a v q.1, q.2⟩
  | .app es l, v, B, k, q => by
    simp only [RepS] at q ⊢
    refine q.imp id ?_
    rintro ⟨b, off, cap, c, T, hv, hB, hb, h1, h2, h3, h4⟩
    have kb := k b (by simp [hB])
    exact ⟨b, off, cap, c, T, hv, hB, kb.1.trans hb, h1, h2, fun i x hi => RepRow.mono h es x b _ (h3 i x hi), fun o ho => (kb.2 o).trans (h4 o ho)⟩
  | .box _ cs, v, B, k, q => by
    simp only [RepS] at q ⊢
    obtain ⟨b, c, T, Bs, hv, hb, h1, hB, h2⟩ := q
    have kb := k b (by simp [hB])
    exact ⟨b, c, T, Bs, hv, kb.1.trans hb, fun o => (kb.2 o).trans (h1 o), hB, RepSs.mono h cs c.toList Bs (fun x hx => k x (by simp [hB, hx])) h2⟩
  | .sit s pos, v, B, k, q => by
    simp only [RepS] at q ⊢
    obtain ⟨b, hv, hb, h1, hB⟩ := q
    have kb := k b (by simp [hB])
    exact ⟨b, hv, kb.1.trans hb, fun o => (kb.2 o).trans (h1 o), hB⟩
  | .at cs, v, B, _, q => by
    simp only [RepS] at q ⊢
    obtain ⟨⟨b, o, hv, q⟩, hB⟩ := q
    exact ⟨⟨b, o, hv, fun j x hj => let ⟨u, hu, r⟩ := q j x hj; ⟨u, h _ _ _ hu, RepD.mono h x u r⟩⟩, hB⟩
  | .al _ _, _, _, _, q => by simpa [RepS] using q
  | .ref _ _, _, _, _, q => by simpa [RepS] using q
theorem RepSs.mono {Pr Pr' : PM} {w w' : World} (h : PrLe Pr Pr') : ∀ (x : List SV) (v : List Value) (Bs : List (List Nat)), Keeps Bs.flatten Pr w Pr' w' → RepSs Pr w x v Bs → RepSs Pr' w' x v Bs
  | [], [], [], _, q => by simp [RepSs]
  | s :: ss, v :: vs, B :: Bs, k, q => by
    simp only [RepSs] at q ⊢
    exact ⟨RepS.mono h s v B (fun b hb => k b (by simp [hb])) q.1, RepSs.mono h ss vs Bs (fun b hb => k b (by simp at hb ⊢; exact .inr hb)) q.2⟩
  | [], _ :: _, _, _, q => by simp [RepSs] at q
  | _ :: _, [], _, _, q => by simp [RepSs] at q
  | [], [], _ :: _, _, q => by simp [RepSs] at q
  | _ :: _, _ :: _, [], _, q => by simp [RepSs] at q
end

/-- A world behind: of what was there only blocks in A may have turned. -/
structure Ext (A : Nat → Prop) (Pr : PM) (w : World) (Pr' : PM) (w' : World) : Prop where
  os : w'.os = w.os
  tape : w'.tape = w.tape
  output : w'.output = w.output
  size : w.heap.size ≤ w'.heap.size
  le : PrLe Pr Pr'
  block : ∀ b, b < w.heap.size → ¬ A b → w'.heap[b]? = w.heap[b]? ∧ ∀ o, Pr' b o = Pr b o

theorem Ext.refl (A : Nat → Prop) (Pr : PM) (w : World) : Ext A Pr w Pr w := ⟨rfl, rfl, rfl, Nat.le_refl _, PrLe.refl _, fun _ _ _ => ⟨rfl, fun _ => rfl⟩⟩
/-- A second step may write what the first one was let to, and what is new. -/
theorem Ext.trans {A A' : Nat → Prop} {Pr Pr' Pr'' : PM} {w w' w'' : World} (h : Ext A Pr w Pr' w') (k : Ext A' Pr' w' Pr'' w'') (hA : ∀ b, A' b → A b ∨ w.heap.size ≤ b) : Ext A Pr w Pr'' w'' :=
  ⟨k.os.trans h.os, k.tape.trans h.tape, k.output.trans h.output, Nat.le_trans h.size k.size, h.le.trans k.le, fun b hb hn => by
    have h1 := h.block b hb hn
    have h2 := k.block b (Nat.lt_of_lt_of_le hb h.size) (fun q => (hA b q).elim hn (fun q => by omega))
    exact ⟨h2.1.trans h1.1, fun o => (h2.2 o).trans (h1.2 o)⟩⟩
theorem Ext.weaken {A A' : Nat → Prop} {Pr Pr' : PM} {w w' : World} (h : Ext A Pr w Pr' w') (hA : ∀ b, A b → A' b) : Ext A' Pr w Pr' w' :=
  ⟨h.os, h.tape, h.output, h.size, h.le, fun b hb hn => h.block b hb (fun q => hn (hA b q))⟩
theorem Ext.keeps {A : Nat → Prop} {Pr Pr' : PM} {w w' : World} (h : Ext A Pr w Pr' w') {B : List Nat} (hB : ∀ b ∈ B, b < w.heap.size ∧ ¬ A b) : Keeps B Pr w Pr' w' :=
  fun b hb => h.block b (hB b hb).1 (hB b hb).2

mutual
/-- What a slot owns lies in the heap. -/
theorem RepS.lt {Pr : PM} {w : World} : ∀ (x : SV) (v : Value) (B : List Nat), RepS Pr w x v B → ∀ b ∈ B, b < w.heap.size
  | .unk, _, _, q => by simp only [RepS] at q; simp [q]
  | .und, _, _, q => by simp only [RepS] at q; simp [q.2]
  | .val a, v, _, q => by simp only [RepS] at q; simp [q.2]
  | .app es l, v, B, q => by
    simp only [RepS] at q
    rcases q with ⟨_, _, q⟩ | ⟨b, off, cap, c, T, hv, hB, hb, _⟩
    · simp [q]
    · intro x hx; simp [hB] at hx; subst hx; exact (Array.getElem?_eq_some_iff.1 hb).1
  | .box _ cs, v, B, q => by
    simp only [RepS] at q
    obtain ⟨b, c, T, Bs, hv, hb, h1, hB, h2⟩ := q
    intro x hx
    rw [hB] at hx
    rcases List.mem_cons.1 hx with rfl | hx
    · exact (Array.getElem?_eq_some_iff.1 hb).1
    · exact RepSs.lt cs c.toList Bs h2 x hx
  | .sit s pos, v, B, q => by
    simp only [RepS] at q
    obtain ⟨b, hv, hb, h1, hB⟩ := q
    intro x hx; simp [hB] at hx; subst hx; exact (Array.getElem?_eq_some_iff.1 hb).1
  | .at cs, v, B, q => by simp only [RepS] at q; simp [q.2]
  | .al _ _, _, _, q => by simp only [RepS] at q; simp [q]
  | .ref _ _, _, _, q => by simp only [RepS] at q; simp [q]
theorem RepSs.lt {Pr : PM} {w : World} : ∀ (x : List SV) (v : List Value) (Bs : List (List Nat)), RepSs Pr w x v Bs → ∀ b ∈ Bs.flatten, b < w.heap.size
  | [], [], [], _ => by simp
  | s :: ss, v :: vs, B :: Bs, q => by
    simp only [RepSs] at q
    intro b hb
    simp only [List.flatten_cons, List.mem_append] at hb
    rcases hb with hb | hb
    · exact RepS.lt s v B q.1 b hb
    · exact RepSs.lt ss vs Bs q.2 b hb
  | [], _ :: _, _, q => by simp [RepSs] at q
  | _ :: _, [], _, q => by simp [RepSs] at q
  | [], [], _ :: _, q => by simp [RepSs] at q
  | _ :: _, _ :: _, [], q => by simp [RepSs] at q
end

/-- A frame: each slot's value is what is told of it; what slots own is apart. -/
structure RepF (Pr : PM) (w : World) (fr : Fr) (ts : Array Value) (F : Nat → List Nat) : Prop where
  rep : ∀ t, RepS Pr w (look1 t fr) (ts.getD t undef) (F t)
  nodup : ∀ t, (F t).Nodup
  apart : ∀ t t', t ≠ t' → ∀ b ∈ F t, b ∉ F t'
  alias0 : ∀ t pre d rest, find t fr [] = some (pre, .al d none, rest) → bound d pre = false → ts.getD t undef = ts.getD d undef
  alias1 : ∀ t pre d o rest, find t fr [] = some (pre, .al d (some o), rest) → bound d pre = false → ∃ b c T, ts.getD d undef = .pointer (some ⟨b, 0, none⟩) ∧ b ∈ F d ∧ w.heap[b]? = some (.cells c T (0, 0)) ∧ c[o]? = some (ts.getD t undef)
  ref : ∀ t pre d o rest, find t fr [] = some (pre, .ref d o, rest) → remade d pre = false → ∃ b, ts.getD d undef = .pointer (some ⟨b, 0, none⟩) ∧ ts.getD t undef = .pointer (some ⟨b, o, none⟩)

theorem RepF.lt {Pr : PM} {w : World} {fr : Fr} {ts : Array Value} {F : Nat → List Nat} (h : RepF Pr w fr ts F) : ∀ t, ∀ b ∈ F t, b < w.heap.size :=
  fun t b hb => RepS.lt _ _ _ (h.rep t) b hb

theorem RepF.mono {Pr Pr' : PM} {w w' : World} {fr : Fr} {ts : Array Value} {F : Nat → List Nat} (h : RepF Pr w fr ts F) (hle : PrLe Pr Pr') (k : ∀ t, Keeps (F t) Pr w Pr' w') : RepF Pr' w' fr ts F :=
  ⟨fun t => RepS.mono hle _ _ _ (k t) (h.rep t), h.nodup, h.apart, h.alias0, fun t pre d o rest hf hb => by
    obtain ⟨b, c, T, h1, h2, h3, h4⟩ := h.alias1 t pre d o rest hf hb
    exact ⟨b, c, T, h1, h2, ((k d) b h2).1.trans h3, h4⟩, h.ref⟩
end Go.Proofs.YtfafmpiajlgojaaDoor.Lg
