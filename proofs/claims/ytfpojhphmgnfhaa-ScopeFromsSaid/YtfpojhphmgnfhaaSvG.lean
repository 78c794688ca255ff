/- Chapter 7, plain: names in order, by the document. -/
import Derived.Test.YtfpojhphmgnfhaaSvF
section
namespace Go.Proofs.Ytfpojhphmgnfhaa.Sp
open Go.Proofs.Ytfpojhphmgnfhaa.Lg Go
abbrev SL := List (RowE [.str])
theorem hasS_mem {l : SL} {s : B} : hasS l s = true ↔ ∃ r ∈ l, r.1 = s := by
  unfold hasS; rw [List.any_eq_true]
  constructor
  · rintro ⟨r, h1, h2⟩; exact ⟨r, h1, by simpa using h2⟩
  · rintro ⟨r, h1, h2⟩; exact ⟨r, h1, by simpa using h2⟩
theorem hasS_nil (s : B) : hasS [] s = false := rfl
theorem bool_ext {a b : Bool} (h : a = true ↔ b = true) : a = b := by cases a <;> cases b <;> simp_all
/-- What is in it tells a rising list. -/
theorem asc_ext : ∀ {l l' : SL}, asc l → asc l' → (∀ s, hasS l s = hasS l' s) → l = l'
  | [], [], _, _, _ => rfl
  | [], y :: l', _, _, h => by
    have := h y.1
    rw [hasS_nil] at this
    simp [hasS] at this
  | x :: l, [], _, _, h => by
    have := h x.1
    rw [hasS_nil] at this
    simp [hasS] at this
  | x :: l, y :: l', h1, h2, h => by
    have a1 := h1
    have a2 := h2
    unfold asc at a1 a2
    simp only [List.map_cons, List.pairwise_cons] at a1 a2
    have m1 : ∀ {q : B}, hasS l q = true → bytesLess x.1 q = true := fun {q} hq => by
      obtain ⟨r, hr, rfl⟩ := hasS_mem.1 hq
      exact a1.1 _ (List.mem_map_of_mem (f := fun r : RowE [.str] => (r.1 : B)) hr)
    have m2 : ∀ {q : B}, hasS l' q = true → bytesLess y.1 q = true := fun {q} hq => by
      obtain ⟨r, hr, rfl⟩ := hasS_mem.1 hq
      exact a2.1 _ (List.mem_map_of_mem (f := fun r : RowE [.str] => (r.1 : B)) hr)
    have e : (x.1 : B) = y.1 := by
      have hx := h x.1
      have hy := h y.1
      rw [hasS_cons, hasS_cons] at hx hy
      cases q : ((y.1 : B) == x.1)
      · rw [q] at hx
        have hl' : hasS l' x.1 = true := by simpa using hx.symm
        have q' : ((x.1 : B) == y.1) = false := by rw [beq_eq_false_iff_ne] at q ⊢; exact fun z => q z.symm
        rw [q'] at hy
        have hl : hasS l y.1 = true := by simpa using hy
        have := bl_trans _ _ _ (m1 hl) (m2 hl')
        rw [bl_irr] at this; cases this
      · exact (eq_of_beq q).symm
    have exy : x = y := Prod.ext e rfl
    subst exy
    rw [asc_ext a1.2 a2.2 fun s => ?_]
    have hs := h s
    rw [hasS_cons, hasS_cons] at hs
    cases q : ((x.1 : B) == s)
    · simpa [q] using hs
    · have es := eq_of_beq q
      have n1 : hasS l s = false := by
        cases z : hasS l s
        · rfl
        · have := m1 z; rw [es, bl_irr] at this; cases this
      have n2 : hasS l' s = false := by
        cases z : hasS l' s
        · rfl
        · have := m2 z; rw [es, bl_irr] at this; cases this
      rw [n1, n2]
theorem asc_cons {x : RowE [.str]} {l : SL} : asc (x :: l) ↔ (∀ s, hasS l s = true → bytesLess x.1 s = true) ∧ asc l := by
  unfold asc
  simp only [List.map_cons, List.pairwise_cons]
  refine and_congr ⟨fun h s hs => ?_, fun h q hq => ?_⟩ Iff.rfl
  · obtain ⟨r, hr, rfl⟩ := hasS_mem.1 hs
    exact h _ (List.mem_map_of_mem (f := fun r : RowE [.str] => (r.1 : B)) hr)
  · obtain ⟨r, hr, rfl⟩ := List.mem_map.1 hq
    exact h _ (hasS_mem.2 ⟨r, hr, rfl⟩)
/-- One more, ahead of the first greater one. -/
def insL (s : B) : SL → SL
  | [] => [(s, ())]
  | x :: l => bif bytesLess s x.1 then (s, ()) :: x :: l else x :: insL s l
def moreL (l : SL) (s : B) : SL := if hasS l s then l else insL s l
def unionL (a b : SL) : SL := b.foldl (fun a x => moreL a x.1) a
def meetL (a b : SL) : SL := a.filter fun x => hasS b x.1
theorem has_ins (s q : B) : ∀ l : SL, hasS (insL s l) q = (s == q || hasS l q)
  | [] => rfl
  | x :: l => by
    simp only [insL]
    cases bytesLess s x.1
    · rw [cond_false, hasS_cons, has_ins s q l, hasS_cons]
      cases (s == q) <;> cases ((x.1 : B) == q) <;> rfl
    · rw [cond_true, hasS_cons]
theorem asc_ins (s : B) : ∀ l : SL, asc l → hasS l s = false → asc (insL s l)
  | [], _, _ => by simp [insL, asc]
  | x :: l, h, hs => by
    rw [hasS_cons, Bool.or_eq_false_iff, beq_eq_false_iff_ne] at hs
    rw [asc_cons] at h
    simp only [insL]
    cases q : bytesLess s x.1
    · rw [cond_false, asc_cons]
      refine ⟨fun r hr => ?_, asc_ins s l h.2 hs.2⟩
      rw [has_ins, Bool.or_eq_true] at hr
      rcases hr with hr | hr
      · have := eq_of_beq hr
        subst this
        cases z : bytesLess x.1 s
        · exact absurd (bl_tri _ _ z q) hs.1
        · rfl
      · exact h.1 r hr
    · rw [cond_true, asc_cons]
      refine ⟨fun r hr => ?_, asc_cons.2 h⟩
      rw [hasS_cons, Bool.or_eq_true] at hr
      rcases hr with hr | hr
      · rw [← eq_of_beq hr]; exact q
      · exact bl_trans _ _ _ q (h.1 r hr)
theorem has_more (l : SL) (s q : B) : hasS (moreL l s) q = (s == q || hasS l q) := by
  unfold moreL
  split
  · rename_i h
    cases z : (s == q)
    · rfl
    · rw [← eq_of_beq z, h]; rfl
  · exact has_ins s q l
theorem asc_more {l : SL} (h : asc l) (s : B) : asc (moreL l s) := by
  unfold moreL
  split
  · exact h
  · rename_i hs; exact asc_ins s l h (by simpa using hs)
theorem has_union (q : B) : ∀ (b a : SL), hasS (unionL a b) q = (hasS a q || hasS b q)
  | [], a => by show hasS a q = _; rw [hasS_nil, Bool.or_false]
  | x :: b, a => by
    show hasS (unionL (moreL a x.1) b) q = _
    rw [has_union q b, has_more, hasS_cons]
    cases ((x.1 : B) == q) <;> cases hasS a q <;> simp
theorem asc_union : ∀ (b : SL) {a : SL}, asc a → asc (unionL a b)
  | [], a, h => h
  | x :: b, a, h => asc_union b (asc_more h x.1)
theorem has_meet (a b : SL) (q : B) : hasS (meetL a b) q = (hasS a q && hasS b q) := by
  apply bool_ext
  rw [Bool.and_eq_true, hasS_mem, hasS_mem]
  unfold meetL
  constructor
  · rintro ⟨r, hr, rfl⟩
    have := List.mem_filter.1 hr
    exact ⟨⟨r, this.1, rfl⟩, this.2⟩
  · rintro ⟨⟨r, hr, rfl⟩, h⟩
    exact ⟨r, List.mem_filter.2 ⟨hr, h⟩, rfl⟩
theorem asc_meet {a : SL} (h : asc a) (b : SL) : asc (meetL a b) := List.Pairwise.sublist ((List.filter_sublist).map _) h
/-! What is found in a set, by its names. -/
theorem has_keys7 (m : M7) (q : B) : hasS (keys7 m) q = mh7 m q := by
  induction m with
  | nil => rfl
  | cons x m ih =>
    show ((x.1 : B) == q || hasS (keys7 m) q) = _
    rw [ih]
    show _ = (bif ((q : B) == x.1) then true else mh7 m q)
    by_cases e : q = x.1
    · subst e; simp
    · rw [beq_eq_false_iff_ne.2 e, beq_eq_false_iff_ne.2 (fun z => e z.symm)]; rfl
theorem mg7_none {m : M7} {q : B} (h : mh7 m q = false) : mg7 m q = false := by
  rw [mh7_look] at h
  rw [mg7_look]
  cases e : look .str [.bool] m q with
  | none => rfl
  | some _ => rw [e] at h; cases h
theorem has_certs7 {m : M7} (h : Srt7 m) (q : B) : hasS (certs7 m) q = mg7 m q := by
  apply bool_ext
  rw [hasS_mem, mg7_look]
  unfold certs7
  constructor
  · rintro ⟨r, hr, rfl⟩
    obtain ⟨e, he, rfl⟩ := List.mem_map.1 hr
    have he := List.mem_filter.1 he
    have : look .str [.bool] m (keyR e).1 = some e.2 := (look_some (k := .str) (es := [.bool]) rfl h.nodup).2 he.1
    rw [this]
    exact he.2
  · intro hq
    cases e : look .str [.bool] m q with
    | none => rw [e] at hq; cases hq
    | some v =>
      rw [e] at hq
      have := (look_some (k := .str) (es := [.bool]) rfl h.nodup).1 e
      exact ⟨keyR (q, v), List.mem_map_of_mem (List.mem_filter.2 ⟨this, hq⟩), rfl⟩
theorem keys_eq {m : M7} (h : Srt7 m) {l : SL} (hl : asc l) (e : ∀ q, hasS l q = mh7 m q) : keys7 m = l := asc_ext (keys_asc h) hl fun q => by rw [has_keys7, e]
theorem certs_eq {m : M7} (h : Srt7 m) {l : SL} (hl : asc l) (e : ∀ q, hasS l q = mg7 m q) : certs7 m = l := asc_ext (certs_asc h) hl fun q => by rw [has_certs7 h, e]
theorem asc_nil : asc [] := List.Pairwise.nil
end Go.Proofs.Ytfpojhphmgnfhaa.Sp
end

section
namespace Go.Proofs.Ytfpojhphmgnfhaa.Sp
open Go.Proofs.Ytfpojhphmgnfhaa.Lg Go
theorem lk_put7 (p f) (q : B) (l m : M7) (hn : (l.map Prod.fst).Nodup) : look .str [.bool] (put7 p f l m) q = match look .str [.bool] l q with | some v => if p (q, v) then some (f (q, v), ()) else look .str [.bool] m q | none => look .str [.bool] m q := by
  have := look_putIf (k := .str) (es := [.bool]) (fs := [.bool]) rfl p (fun e => (f e, ())) q l m hn
  unfold put7
  rw [this]
  cases look .str [.bool] l q <;> rfl
theorem lk_mh {m : M7} {q : B} {v : RowE [.bool]} (h : look .str [.bool] m q = some v) : mh7 m q = true := by rw [mh7_look, h]; rfl
theorem lk_mg {m : M7} {q : B} {v : RowE [.bool]} (h : look .str [.bool] m q = some v) : mg7 m q = v.1 := by rw [mg7_look, h]; rfl
theorem lk_mh0 {m : M7} {q : B} (h : look .str [.bool] m q = none) : mh7 m q = false := by rw [mh7_look, h]; rfl
theorem lk_mg0 {m : M7} {q : B} (h : look .str [.bool] m q = none) : mg7 m q = false := by rw [mg7_look, h]; rfl
theorem lk_both (f) {a b : M7} (ha : Srt7 a) (hb : Srt7 b) (q : B) : look .str [.bool] (bothS f a b) q =
    if mh7 a q = true then some (f (mg7 a q) (mg7 b q) true (mh7 b q), ()) else if mh7 b q = true then some (f false (mg7 b q) false true, ()) else none := by
  unfold bothS
  rw [lk_put7 _ _ q b _ hb.nodup, lk_put7 _ _ q a _ ha.nodup]
  cases ea : look .str [.bool] a q with
  | none =>
    rw [lk_mh0 ea]
    cases eb : look .str [.bool] b q with
    | none => rw [lk_mh0 eb]; rfl
    | some v =>
      rw [lk_mh eb, lk_mg eb]
      simp only [Bool.not_false, if_true, bothB, lk_mg0 ea, Bool.false_eq_true, if_false]
      rw [lk_mh0 ea]; rfl
  | some u =>
    rw [lk_mh ea, lk_mg ea]
    cases eb : look .str [.bool] b q with
    | none => rw [lk_mh0 eb]; simp only [if_true, bothA, lk_mh0 eb]
    | some v =>
      simp only [Bool.not_true, Bool.false_eq_true, if_false, if_true, bothA]
      rw [lk_mh ea]; rfl
theorem mh_both (f) {a b : M7} (ha : Srt7 a) (hb : Srt7 b) (q : B) : mh7 (bothS f a b) q = (mh7 a q || mh7 b q) := by
  rw [mh7_look, lk_both f ha hb]
  cases mh7 a q <;> cases mh7 b q <;> rfl
theorem mg_both (f) {a b : M7} (ha : Srt7 a) (hb : Srt7 b) (q : B) : mg7 (bothS f a b) q = if mh7 a q = true then f (mg7 a q) (mg7 b q) true (mh7 b q) else if mh7 b q = true then f false (mg7 b q) false true else false := by
  rw [mg7_look, lk_both f ha hb]
  cases mh7 a q <;> cases mh7 b q <;> rfl
theorem lk_one0 (o : Op) {a : M7} (ha : Srt7 a) (q : B) : look .str [.bool] (put7 (fun _ => true) (oneA o) a []) q = (look .str [.bool] a q).map fun v => (oneA o (q, v), ()) := by
  rw [lk_put7 _ _ q a _ ha.nodup]
  cases look .str [.bool] a q <;> rfl
theorem mh_one (o : Op) {a : M7} (ha : Srt7 a) (q : B) : mh7 (oneS o a) q = (mh7 a q || (decide (o.1 = 8) && (o.2.2.2.2.2.1 : B) == q)) := by
  unfold oneS; dsimp only
  have h0 : mh7 (put7 (fun _ => true) (oneA o) a []) q = mh7 a q := by
    rw [mh7_look, lk_one0 o ha, mh7_look]; cases look .str [.bool] a q <;> rfl
  split
  · rename_i h8
    rw [decide_eq_true h8, Bool.true_and, mh7_look, lk_mput7]
    by_cases e : q = o.2.2.2.2.2.1
    · rw [if_pos e, ← e]; simp
    · rw [if_neg e, ← mh7_look, h0, beq_eq_false_iff_ne.2 (fun z => e z.symm), Bool.or_false]
  · rename_i h8
    rw [decide_eq_false h8, Bool.false_and, Bool.or_false, h0]
theorem mg_one (o : Op) {a : M7} (ha : Srt7 a) (q : B) : mg7 (oneS o a) q = (mg7 a q && !(decide (o.1 = 9) && o.2.2.2.2.2.2.1) && !(decide (o.1 = 8) && (o.2.2.2.2.2.1 : B) == q)) := by
  unfold oneS; dsimp only
  have h0 : mg7 (put7 (fun _ => true) (oneA o) a []) q = (mg7 a q && !(decide (o.1 = 9) && o.2.2.2.2.2.2.1)) := by
    rw [mg7_look, lk_one0 o ha, mg7_look]
    cases look .str [.bool] a q <;> rfl
  split
  · rename_i h8
    rw [decide_eq_true h8, Bool.true_and, mg7_look, lk_mput7]
    by_cases e : q = o.2.2.2.2.2.1
    · rw [if_pos e, ← e]; simp
    · rw [if_neg e, ← mg7_look, h0, beq_eq_false_iff_ne.2 (fun z => e z.symm), Bool.not_false, Bool.and_true]
  · rename_i h8
    rw [decide_eq_false h8, Bool.false_and, Bool.not_false, Bool.and_true, h0]
/-! Leaves. -/
theorem lk_leafV (q : B) : ∀ (l : SL) (m : M7), look .str [.bool] (leafV l m) q = if hasS l q = true then some (true, ()) else look .str [.bool] m q
  | [], m => by rw [hasS_nil, if_neg (by simp)]; rfl
  | v :: l, m => by
    show look .str [.bool] (leafV l (mput .str [.bool] m v.1 (true, ()))) q = _
    rw [lk_leafV q l, lk_mput7, hasS_cons]
    by_cases e : q = v.1
    · rw [if_pos e, ← e]; simp
    · rw [if_neg e, beq_eq_false_iff_ne.2 (fun z => e z.symm), Bool.false_or]
def anyV (l : List (RowE t9S)) (q : B) : Bool := l.any fun t => hasS (varsS t) q
theorem lk_leafT (q : B) : ∀ (l : List (RowE t9S)) (m : M7), look .str [.bool] (leafT l m) q = if anyV l q = true then some (true, ()) else look .str [.bool] m q
  | [], m => by rw [if_neg (by simp [anyV])]; rfl
  | t :: l, m => by
    show look .str [.bool] (leafT l (leafV (varsS t) m)) q = _
    rw [lk_leafT q l, lk_leafV]
    show _ = if (hasS (varsS t) q || anyV l q) = true then _ else _
    cases anyV l q <;> cases hasS (varsS t) q <;> rfl
def colF (rows : List (RowE [.sl [.int .i64, .str, .str, .str]])) : Nat → SL → B → Option Bool
  | _, [], _ => none
  | i, v :: vs, q => if v.1 = q then some (full rows i) else colF rows (i + 1) vs q
theorem colF_none (rows) (q : B) : ∀ (vs : SL) (i : Nat), colF rows i vs q = none ↔ hasS vs q = false
  | [], i => by simp [colF, hasS]
  | v :: vs, i => by
    rw [hasS_cons]
    simp only [colF]
    by_cases e : v.1 = q
    · rw [if_pos e]; simp [e]
    · rw [if_neg e, colF_none rows q vs (i + 1), beq_eq_false_iff_ne.2 e, Bool.false_or]
def dist7 (vs : SL) : Prop := (vs.map fun r => (r.1 : B)).Nodup
theorem dist_cons {v : RowE [.str]} {vs : SL} (h : dist7 (v :: vs)) : hasS vs v.1 = false ∧ dist7 vs := by
  unfold dist7 at h
  simp only [List.map_cons, List.nodup_cons] at h
  refine ⟨?_, h.2⟩
  cases e : hasS vs v.1
  · rfl
  · obtain ⟨r, hr, he⟩ := hasS_mem.1 e
    exact absurd (he ▸ List.mem_map_of_mem (f := fun r : RowE [.str] => (r.1 : B)) hr) h.1
theorem lk_leafC (rows) (q : B) : ∀ (vs : SL) (i : Nat) (m : M7), dist7 vs → look .str [.bool] (leafC rows i vs m) q = match colF rows i vs q with | some b => some (b, ()) | none => look .str [.bool] m q
  | [], i, m, _ => rfl
  | v :: vs, i, m, hd => by
    obtain ⟨h1, h2⟩ := dist_cons hd
    show look .str [.bool] (leafC rows (i + 1) vs (mput .str [.bool] m v.1 (full rows i, ()))) q = _
    rw [lk_leafC rows q vs (i + 1) _ h2]
    simp only [colF]
    by_cases e : v.1 = q
    · subst e
      rw [(colF_none rows v.1 vs (i + 1)).2 h1, if_pos rfl]
      simp only
      rw [lk_mput7, if_pos rfl]
    · rw [if_neg e]
      cases colF rows (i + 1) vs q with
      | some b => rfl
      | none => simp only; rw [lk_mput7, if_neg (fun z => e z.symm)]
/-- A leaf's names by the document. -/
def triL7 (l : List (RowE t9S)) (out : SL) : SL := l.foldl (fun out t => unionL out (varsS t)) out
def colL (rows : List (RowE [.sl [.int .i64, .str, .str, .str]])) (c : Bool) : Nat → SL → SL → SL
  | _, [], out => out
  | i, v :: vs, out => colL rows c (i + 1) vs (if !c || full rows i then moreL out v.1 else out)
def leafL (o : Op) (c : Bool) : SL := colL o.2.2.2.1 c 0 o.2.2.1 (triL7 o.2.1 [])
theorem has_triL (q : B) : ∀ (l : List (RowE t9S)) (out : SL), hasS (triL7 l out) q = (hasS out q || anyV l q)
  | [], out => by show hasS out q = (hasS out q || false); rw [Bool.or_false]
  | t :: l, out => by
    show hasS (triL7 l (unionL out (varsS t))) q = (hasS out q || (hasS (varsS t) q || anyV l q))
    rw [has_triL q l, has_union, Bool.or_assoc]
theorem asc_triL : ∀ (l : List (RowE t9S)) {out : SL}, asc out → asc (triL7 l out)
  | [], _, h => h
  | t :: l, _, h => asc_triL l (asc_union _ h)
theorem has_colL (rows) (c : Bool) (q : B) : ∀ (vs : SL) (i : Nat) (out : SL), dist7 vs → hasS (colL rows c i vs out) q = (hasS out q || match colF rows i vs q with | some b => !c || b | none => false)
  | [], i, out, _ => by show hasS out q = (hasS out q || false); rw [Bool.or_false]
  | v :: vs, i, out, hd => by
    obtain ⟨h1, h2⟩ := dist_cons hd
    show hasS (colL rows c (i + 1) vs (if (!c || full rows i) = true then moreL out v.1 else out)) q = _
    rw [has_colL rows c q vs (i + 1) _ h2]
    simp only [colF]
    by_cases e : v.1 = q
    · subst e
      rw [(colF_none rows v.1 vs (i + 1)).2 h1, if_pos rfl]
      simp only [Bool.or_false]
      cases hc : (!c || full rows i)
      · rw [if_neg (by simp), Bool.or_false]
      · rw [if_pos rfl, has_more]; simp
    · rw [if_neg e]
      have : hasS (if (!c || full rows i) = true then moreL out v.1 else out) q = hasS out q := by
        split
        · rw [has_more, beq_eq_false_iff_ne.2 e, Bool.false_or]
        · rfl
      rw [this]
theorem asc_colL (rows) (c : Bool) : ∀ (vs : SL) (i : Nat) {out : SL}, asc out → asc (colL rows c i vs out)
  | [], _, _, h => h
  | v :: vs, i, _, h => asc_colL rows c vs (i + 1) (by split; exact asc_more h _; exact h)
theorem asc_leafL (o : Op) (c : Bool) : asc (leafL o c) := asc_colL _ _ _ _ (asc_triL _ asc_nil)
theorem names_dist : ∀ (vs b : SL), namesS b vs = true → dist7 vs ∧ ∀ v ∈ vs, hasS b v.1 = false
  | [], b, _ => ⟨by simp [dist7], by simp⟩
  | v :: vs, b, h => by
    simp only [namesS, Bool.and_eq_true, Bool.not_eq_true'] at h
    obtain ⟨⟨_, h2⟩, h3⟩ := h
    obtain ⟨i1, i2⟩ := names_dist vs (b ++ [v]) h3
    have split : ∀ x ∈ vs, hasS b x.1 = false ∧ ¬ (v.1 : B) = x.1 := fun x hx => by
      have := i2 x hx
      unfold hasS at this ⊢
      rw [List.any_append, Bool.or_eq_false_iff] at this
      refine ⟨this.1, fun e => ?_⟩
      have := this.2
      simp [e] at this
    refine ⟨?_, fun x hx => ?_⟩
    · unfold dist7 at i1 ⊢
      simp only [List.map_cons, List.nodup_cons]
      refine ⟨fun hm => ?_, i1⟩
      obtain ⟨x, hx, he⟩ := List.mem_map.1 hm
      exact (split x hx).2 he.symm
    · rcases List.mem_cons.1 hx with rfl | hx
      · exact h2
      · exact (split x hx).1
/-- A right leaf has patterns or a table, not both. -/
theorem leaf_one {o : Op} (h : rightO o = true) (h0 : needsK o.1 = 0) : dist7 o.2.2.1 ∧ ((o.2.2.1 : SL) = [] ∨ (o.2.1 : List (RowE t9S)) = []) := by
  obtain ⟨(k : Int), (tr : List (RowE t9S)), (vs : SL), (rows : List (RowE [.sl [.int .i64, .str, .str, .str]])), f, (name : B), (sil : Bool), _⟩ := o
  show dist7 vs ∧ (vs = [] ∨ tr = [])
  have hk : k = 1 ∨ k = 2 := by
    by_cases q : k = 1 ∨ k = 2
    · exact q
    · exfalso
      have h0 : needsK k = 0 := h0
      unfold needsK at h0
      rw [if_neg q] at h0
      split at h0
      · omega
      · split at h0 <;> omega
  rcases hk with rfl | rfl
  · have h : (decide (vs.length = 0) && decide (rows.length = 0) && decide (List.length f = 0) && (decide (name = []) && !sil) && basicS tr) = true := h
    simp only [Bool.and_eq_true, decide_eq_true_eq] at h
    have := List.length_eq_zero_iff.1 h.1.1.1.1
    subst this
    exact ⟨by simp [dist7], .inl rfl⟩
  · have h : (decide (tr.length = 0) && decide (List.length f = 0) && (decide (name = []) && !sil) && tableS vs rows) = true := h
    simp only [Bool.and_eq_true, decide_eq_true_eq, tableS] at h
    exact ⟨(names_dist vs [] h.2.1.2).1, .inr (List.length_eq_zero_iff.1 h.1.1.1)⟩
theorem leaf_keys {o : Op} (h : rightO o = true) (h0 : needsK o.1 = 0) : keys7 (leafS o) = leafL o false ∧ certs7 (leafS o) = leafL o true := by
  obtain ⟨hd, hor⟩ := leaf_one h h0
  have hl : ∀ q, look .str [.bool] (leafS o) q = match colF o.2.2.2.1 0 o.2.2.1 q with | some b => some (b, ()) | none => if anyV o.2.1 q = true then some (true, ()) else none := fun q => by
    unfold leafS
    rw [lk_leafC _ q _ _ _ hd, lk_leafT]; rfl
  refine ⟨keys_eq (srt_leaf o) (asc_leafL o false) fun q => ?_, certs_eq (srt_leaf o) (asc_leafL o true) fun q => ?_⟩
  · unfold leafL
    rw [has_colL _ _ q _ _ _ hd, has_triL, hasS_nil, Bool.false_or, mh7_look, hl]
    cases colF o.2.2.2.1 0 o.2.2.1 q with
    | some b => simp
    | none => cases anyV o.2.1 q <;> rfl
  · unfold leafL
    rw [has_colL _ _ q _ _ _ hd, has_triL, hasS_nil, Bool.false_or, mg7_look, hl]
    rcases hor with e | e
    · rw [e]
      show (anyV o.2.1 q || false) = _
      show _ = ((if anyV o.2.1 q = true then some (true, ()) else none).getD (false, ())).1
      cases anyV o.2.1 q <;> rfl
    · rw [e]
      show (false || _) = _
      cases colF o.2.2.2.1 0 o.2.2.1 q with
      | some b => simp
      | none => rfl
theorem one_keys (o : Op) {a : M7} (ha : Srt7 a) : keys7 (oneS o a) = if o.1 = 8 then moreL (keys7 a) o.2.2.2.2.2.1 else keys7 a := by
  refine keys_eq (srt_one o a) (by split; exact asc_more (keys_asc ha) _; exact keys_asc ha) fun q => ?_
  rw [mh_one o ha]
  split
  · rename_i h8; rw [has_more, has_keys7, decide_eq_true h8, Bool.true_and, Bool.or_comm]
  · rename_i h8; rw [has_keys7, decide_eq_false h8, Bool.false_and, Bool.or_false]
theorem one_certs {o : Op} {a : M7} (ha : Srt7 a) (hs : o.2.2.2.2.2.2.1 = true → o.1 = 9) (hc : o.1 = 8 → mh7 a o.2.2.2.2.2.1 = false) : certs7 (oneS o a) = if o.2.2.2.2.2.2.1 = true then [] else certs7 a := by
  refine certs_eq (srt_one o a) (by split; exact asc_nil; exact certs_asc ha) fun q => ?_
  rw [mg_one o ha]
  split
  · rename_i s; rw [hasS_nil, s, decide_eq_true (hs s)]; simp
  · rename_i s
    have s : o.2.2.2.2.2.2.1 = false := by simpa using s
    rw [has_certs7 ha, s, Bool.and_false, Bool.not_false, Bool.and_true]
    by_cases h8 : o.1 = 8
    · cases e : ((o.2.2.2.2.2.1 : B) == q)
      · simp
      · rw [← eq_of_beq e, mg7_none (hc h8)]; rfl
    · rw [decide_eq_false h8]; simp
theorem two_keys (o : Op) {a b : M7} (ha : Srt7 a) (hb : Srt7 b) (h2 : needsK o.1 = 2) : keys7 (twoS o a b) = if o.1 = 6 then keys7 a else unionL (keys7 a) (keys7 b) := by
  have hu : asc (unionL (keys7 a) (keys7 b)) := asc_union _ (keys_asc ha)
  have hbo : ∀ f, keys7 (bothS f a b) = unionL (keys7 a) (keys7 b) := fun f => keys_eq (srt_both f a b) hu fun q => by rw [has_union, has_keys7, has_keys7, mh_both f ha hb]
  obtain ⟨(k : Int), o'⟩ := o
  have h2 : needsK k = 2 := h2
  have hk : k = 3 ∨ k = 4 ∨ k = 5 ∨ k = 6 := by
    unfold needsK at h2
    split at h2
    · omega
    · split at h2
      · omega
      · split at h2
        · assumption
        · omega
  rcases hk with rfl | rfl | rfl | rfl
  · exact hbo joinF7
  · exact hbo unionF7
  · exact hbo leftF7
  · rfl
theorem two_certs (o : Op) {a b : M7} (ha : Srt7 a) (hb : Srt7 b) (h2 : needsK o.1 = 2) : certs7 (twoS o a b) = if o.1 = 6 ∨ o.1 = 5 then certs7 a else if o.1 = 4 then meetL (certs7 a) (certs7 b) else unionL (certs7 a) (certs7 b) := by
  obtain ⟨(k : Int), o'⟩ := o
  have h2 : needsK k = 2 := h2
  have hk : k = 3 ∨ k = 4 ∨ k = 5 ∨ k = 6 := by
    unfold needsK at h2
    split at h2
    · omega
    · split at h2
      · omega
      · split at h2
        · assumption
        · omega
  have no : ∀ {m : M7} {q : B}, mh7 m q = false → mg7 m q = false := fun h => mg7_none h
  rcases hk with rfl | rfl | rfl | rfl
  · show certs7 (bothS joinF7 a b) = unionL (certs7 a) (certs7 b)
    refine certs_eq (srt_both _ a b) (asc_union _ (certs_asc ha)) fun q => ?_
    rw [has_union, has_certs7 ha, has_certs7 hb, mg_both _ ha hb]
    cases e1 : mh7 a q
    · rw [no e1]
      cases e2 : mh7 b q
      · rw [no e2]; rfl
      · simp [joinF7]
    · simp [joinF7]
  · show certs7 (bothS unionF7 a b) = meetL (certs7 a) (certs7 b)
    refine certs_eq (srt_both _ a b) (asc_meet (certs_asc ha) _) fun q => ?_
    rw [has_meet, has_certs7 ha, has_certs7 hb, mg_both _ ha hb]
    cases e1 : mh7 a q
    · rw [no e1]
      cases e2 : mh7 b q
      · simp
      · simp [unionF7]
    · simp [unionF7]
  · show certs7 (bothS leftF7 a b) = certs7 a
    refine certs_eq (srt_both _ a b) (certs_asc ha) fun q => ?_
    rw [has_certs7 ha, mg_both _ ha hb]
    cases e1 : mh7 a q
    · rw [no e1]
      cases e2 : mh7 b q
      · simp
      · simp [leftF7]
    · simp [leftF7]
  · rfl
end Go.Proofs.Ytfpojhphmgnfhaa.Sp
end

section
namespace Go.Proofs.Ytfpojhphmgnfhaa.Sp
open Go.Proofs.Ytfpojhphmgnfhaa.Lg Go
abbrev opA (c : List Op) (i : Nat) : Op := getR opS c (i : Int)
def okG (o : Op) (l : List Rs7) : Bool := rightO o && decide (needsK o.1 ≤ (l.length : Int))
def sv7 (o : Op) (l : List Rs7) : Bool := decide (o.1 = 9) && anyS (nd7 o l)
def nextL (i : Int) (o : Op) (l : List Rs7) : List Rs7 := l.take (l.length - (needsK o.1).toNat) ++ [newR i o l]
/-- Without a look at services. -/
def runG : Int → List Op → List Rs7 → List Rs7 → Int → Option (List Rs7 × List Rs7 × Int)
  | _, [], out, l, bad => some (out, l, bad)
  | i, o :: c, out, l, bad => if okG o l then runG (i + 1) c (out ++ [newR i o l]) (nextL i o l) (if clash7 o l then 6 else bad) else none
def svAny : Int → List Op → List Rs7 → Bool
  | _, [], _ => false
  | i, o :: c, l => sv7 o l || svAny (i + 1) c (nextL i o l)
theorem runR_G : ∀ (c : List Op) (i : Int) (out l : List Rs7) (bad : Int), runR i c out l bad = match runG i c out l bad with | none => none | some s => if svAny i c l then none else some s
  | [], i, out, l, bad => rfl
  | o :: c, i, out, l, bad => by
    have e : ok7 o l = (okG o l && !(sv7 o l)) := rfl
    simp only [runR, runG, svAny, e]
    cases okG o l
    · simp
    · simp only [Bool.true_and, if_true]
      by_cases h : sv7 o l = true
      · rw [if_neg (by rw [h]; simp)]
        simp only [h, Bool.true_or, if_true]
        cases runG (i + 1) c (out ++ [newR i o l]) (nextL i o l) (if clash7 o l then 6 else bad) <;> rfl
      · rw [if_pos (by simp [h])]
        have h : sv7 o l = false := by simpa using h
        simp only [h, Bool.false_or]
        exact runR_G c (i + 1) _ _ _
/-- What the results that are left are: each one's parts lie behind those of the one ahead. -/
inductive Chain (out : List Rs7) : List Rs7 → Nat → Prop where
  | nil : Chain out [] 0
  | snoc {l : List Rs7} {f i : Nat} {x : Rs7} (h : Chain out l f) (hf : f ≤ i) (hi : i < out.length) (hx : at7 out i = x) (hx2 : x.2.1 = (f : Int)) : Chain out (l ++ [x]) (i + 1)
theorem at7_app {out : List Rs7} {i : Nat} (r : List Rs7) (h : i < out.length) : at7 (out ++ r) i = at7 out i := by
  rw [at7_get h, at7_get (by rw [List.length_append]; omega)]
  rw [List.getElem_append_left h]
theorem at7_last (out : List Rs7) (r : Rs7) : at7 (out ++ [r]) out.length = r := by
  rw [at7_get (by simp)]; simp
theorem Chain.app {out l : List Rs7} {n : Nat} (h : Chain out l n) (r : List Rs7) : Chain (out ++ r) l n := by
  induction h with
  | nil => exact .nil
  | snoc h hf hi hx hx2 ih => exact .snoc ih hf (by rw [List.length_append]; omega) (by rw [at7_app r hi]; exact hx) hx2
theorem Chain.inv {out l : List Rs7} {n : Nat} (h : Chain out l n) (hl : 1 ≤ l.length) : ∃ (l' : List Rs7) (f : Nat), l = l' ++ [at7 out (n - 1)] ∧ 1 ≤ n ∧ n - 1 < out.length ∧ f ≤ n - 1 ∧ (at7 out (n - 1)).2.1 = (f : Int) ∧ Chain out l' f := by
  cases h with
  | nil => simp at hl
  | snoc h hf hi hx hx2 =>
    rename_i l' f i x
    subst hx
    exact ⟨l', f, rfl, by omega, hi, hf, hx2, h⟩
/-- What an operation's result is. -/
structure Step (c : List Op) (out : List Rs7) (i : Nat) : Prop where
  right : rightO (opA c i) = true
  zero : needsK (opA c i).1 = 0 → at7 out i = (leafS (opA c i), (i : Int), ((opA c i).1 == 9), ())
  one : needsK (opA c i).1 = 1 → 1 ≤ i ∧ at7 out i = (oneS (opA c i) (at7 out (i - 1)).1, (at7 out (i - 1)).2.1, ((opA c i).1 == 9) || svc7 (at7 out (i - 1)), ())
  two : needsK (opA c i).1 = 2 → ∃ f : Nat, 1 ≤ f ∧ f ≤ i - 1 ∧ 1 ≤ i ∧ (at7 out (i - 1)).2.1 = (f : Int) ∧ at7 out i = (twoS (opA c i) (at7 out (f - 1)).1 (at7 out (i - 1)).1, (at7 out (f - 1)).2.1, ((opA c i).1 == 9) || (svc7 (at7 out (f - 1)) || svc7 (at7 out (i - 1))), ())
  from_le : ∃ f : Nat, f ≤ i ∧ (at7 out i).2.1 = (f : Int)
theorem Step.app {c : List Op} {out : List Rs7} {i : Nat} (h : Step c out i) (hi : i < out.length) (r : List Rs7) : Step c (out ++ r) i := by
  have e : ∀ j, j ≤ i → at7 (out ++ r) j = at7 out j := fun j hj => at7_app r (by omega)
  refine ⟨h.right, fun z => ?_, fun z => ?_, fun z => ?_, ?_⟩
  · rw [e i (Nat.le_refl _)]; exact h.zero z
  · obtain ⟨h1, h2⟩ := h.one z
    rw [e i (Nat.le_refl _), e (i - 1) (by omega)]
    exact ⟨h1, h2⟩
  · obtain ⟨f, h1, h2, h3, h4, h5⟩ := h.two z
    refine ⟨f, h1, h2, h3, ?_, ?_⟩
    · rw [e (i - 1) (by omega)]; exact h4
    · rw [e i (Nat.le_refl _), e (i - 1) (by omega), e (f - 1) (by omega)]; exact h5
  · rw [e i (Nat.le_refl _)]; exact h.from_le
theorem at7_snoc (l : List Rs7) (x : Rs7) : at7 (l ++ [x]) ((l ++ [x]).length - 1) = x := by
  have : (l ++ [x]).length - 1 = l.length := by simp
  rw [this]; exact at7_last l x
/-- One operation more. -/
theorem step_new {c : List Op} {out l : List Rs7} {n : Nat} {o : Op} (hc : opA c n = o) (hlen : out.length = n) (hch : Chain out l n) (hok : okG o l = true) :
    Step c (out ++ [newR n o l]) n ∧ Chain (out ++ [newR n o l]) (nextL n o l) (n + 1) ∧ (o.1 = 9 → 1 ≤ n ∧ sv7 o l = svc7 (at7 (out ++ [newR n o l]) (n - 1))) ∧ (o.1 = 8 → 1 ≤ n ∧ clash7 o l = mh7 (at7 (out ++ [newR n o l]) (n - 1)).1 o.2.2.2.2.2.1) := by
  unfold okG at hok
  simp only [Bool.and_eq_true, decide_eq_true_eq] at hok
  obtain ⟨hr, hn⟩ := hok
  have h0 := right_needs hr
  have h2 := needsK_le o.1
  have hnew : at7 (out ++ [newR n o l]) n = newR n o l := by rw [← hlen]; exact at7_last out _
  have e : ∀ j, j < n → at7 (out ++ [newR n o l]) j = at7 out j := fun j hj => at7_app _ (by omega)
  have hsz : n < (out ++ [newR n o l]).length := by rw [List.length_append]; simp; omega
  have k9 : ∀ k : Int, k = 9 → needsK k = 1 := by intro k h; subst h; rfl
  have k8 : ∀ k : Int, k = 8 → needsK k = 1 := by intro k h; subst h; rfl
  rcases Nat.lt_or_ge l.length 1 with hl | hl
  · have hz : needsK o.1 = 0 := by omega
    have hv : newR n o l = (leafS o, (n : Int), (o.1 == 9), ()) := by
      unfold newR names7 from7 nd7
      rw [if_pos hz, if_pos hz, hz]
      have : List.drop (l.length - (0 : Int).toNat) l = [] := List.drop_of_length_le (by omega)
      rw [this]
      show (_, _, (o.1 == 9 || false), ()) = _
      rw [Bool.or_false]
    refine ⟨⟨by rw [hc]; exact hr, fun _ => by rw [hnew, hc]; exact hv, fun q => by rw [hc] at q; omega, fun q => by rw [hc] at q; omega, ⟨n, Nat.le_refl _, by rw [hnew, hv]⟩⟩, ?_, fun q => ?_, fun q => ?_⟩
    · unfold nextL
      rw [hz, show l.length - (0 : Int).toNat = l.length from rfl, List.take_length]
      exact .snoc (hch.app _) (Nat.le_refl _) hsz hnew (by rw [hv])
    · have := k9 _ q; omega
    · have := k8 _ q; omega
  · obtain ⟨l', f, rfl, hn1, hn2, hf, hfx, hch'⟩ := hch.inv hl
    generalize hx : at7 out (n - 1) = x at *
    have hll : (l' ++ [x]).length = l'.length + 1 := by simp
    have hlast : at7 (l' ++ [x]) ((l' ++ [x]).length - 1) = x := at7_snoc l' x
    have hn1' : at7 (out ++ [newR n o (l' ++ [x])]) (n - 1) = x := by rw [e (n - 1) (by omega), hx]
    have c9 : o.1 = 9 → 1 ≤ n ∧ sv7 o (l' ++ [x]) = svc7 (at7 (out ++ [newR n o (l' ++ [x])]) (n - 1)) := fun q => by
      have hk := k9 _ q
      refine ⟨hn1, ?_⟩
      unfold sv7
      rw [nd_one hk (by omega), hlast, hn1', decide_eq_true q, Bool.true_and]
      show (svc7 x || false) = _
      rw [Bool.or_false]
    have c8 : o.1 = 8 → 1 ≤ n ∧ clash7 o (l' ++ [x]) = mh7 (at7 (out ++ [newR n o (l' ++ [x])]) (n - 1)).1 o.2.2.2.2.2.1 := fun q => by
      have hk := k8 _ q
      refine ⟨hn1, ?_⟩
      unfold clash7
      rw [hk, decide_eq_true q, hlast, hn1']; rfl
    rcases (show needsK o.1 = 0 ∨ needsK o.1 = 1 ∨ needsK o.1 = 2 by omega) with hz | hz | hz
    · have hv : newR n o (l' ++ [x]) = (leafS o, (n : Int), (o.1 == 9), ()) := by
        unfold newR names7 from7 nd7
        rw [if_pos hz, if_pos hz, hz]
        have : List.drop ((l' ++ [x]).length - (0 : Int).toNat) (l' ++ [x]) = [] := List.drop_of_length_le (by simp)
        rw [this]
        show (_, _, (o.1 == 9 || false), ()) = _
        rw [Bool.or_false]
      refine ⟨⟨by rw [hc]; exact hr, fun _ => by rw [hnew, hc]; exact hv, fun q => by rw [hc] at q; omega, fun q => by rw [hc] at q; omega, ⟨n, Nat.le_refl _, by rw [hnew, hv]⟩⟩, ?_, c9, c8⟩
      unfold nextL
      rw [hz, show (l' ++ [x]).length - (0 : Int).toNat = (l' ++ [x]).length from rfl, List.take_length]
      exact .snoc (hch.app _) (Nat.le_refl _) hsz hnew (by rw [hv])
    · have hv : newR n o (l' ++ [x]) = (oneS o x.1, x.2.1, ((o.1 == 9) || svc7 x), ()) := by
        unfold newR names7 from7
        rw [if_neg (by omega), if_pos hz, if_neg (by omega), nd_one hz (by omega), hz, show (l' ++ [x]).length - (1 : Int).toNat = (l' ++ [x]).length - 1 from rfl, hlast]
        show (_, _, (_ || (svc7 x || false)), ()) = _
        rw [Bool.or_false]
      refine ⟨⟨by rw [hc]; exact hr, fun q => by rw [hc] at q; omega, fun _ => ⟨hn1, by rw [hnew, hn1', hc]; exact hv⟩, fun q => by rw [hc] at q; omega, ⟨f, by omega, by rw [hnew, hv]; exact hfx⟩⟩, ?_, c9, c8⟩
      unfold nextL
      rw [hz, show (l' ++ [x]).length - (1 : Int).toNat = l'.length by rw [hll]; rfl, List.take_left]
      exact .snoc (hch'.app _) (by omega) hsz hnew (by rw [hv]; exact hfx)
    · have hl2 : 1 ≤ l'.length := by omega
      obtain ⟨l2, f2, rfl, hm1, hm2, hf2, hfx2, hch2⟩ := hch'.inv hl2
      generalize hy : at7 out (f - 1) = y at *
      have hlast2 : at7 (l2 ++ [y] ++ [x]) ((l2 ++ [y] ++ [x]).length - 2) = y := by
        have : (l2 ++ [y] ++ [x]).length - 2 = l2.length := by simp
        rw [this, at7_app [x] (by simp)]; exact at7_last l2 y
      have hy' : at7 (out ++ [newR n o (l2 ++ [y] ++ [x])]) (f - 1) = y := by rw [e (f - 1) (by omega), hy]
      have hv : newR n o (l2 ++ [y] ++ [x]) = (twoS o y.1 x.1, y.2.1, ((o.1 == 9) || (svc7 y || svc7 x)), ()) := by
        unfold newR names7 from7
        rw [if_neg (by omega), if_neg (by omega), if_neg (by omega), nd_two hz (by omega), hz, show (l2 ++ [y] ++ [x]).length - (2 : Int).toNat = (l2 ++ [y] ++ [x]).length - 2 from rfl, hlast, hlast2]
        show (_, _, (_ || (svc7 y || (svc7 x || false))), ()) = _
        rw [Bool.or_false]
      refine ⟨⟨by rw [hc]; exact hr, fun q => by rw [hc] at q; omega, fun q => by rw [hc] at q; omega, fun _ => ⟨f, hm1, hf, hn1, by rw [hn1']; exact hfx, by rw [hnew, hn1', hy', hc]; exact hv⟩, ⟨f2, by omega, by rw [hnew, hv]; exact hfx2⟩⟩, ?_, c9, c8⟩
      unfold nextL
      have ht : List.take ((l2 ++ [y] ++ [x]).length - (2 : Int).toNat) (l2 ++ [y] ++ [x]) = l2 := by
        rw [show (l2 ++ [y] ++ [x]).length - (2 : Int).toNat = l2.length by simp]
        simp
      rw [hz, ht]
      exact .snoc (hch2.app _) (by omega) hsz hnew (by rw [hv]; exact hfx2)
/-- All operations. -/
theorem run_steps (c : List Op) : ∀ (c' pre : List Op) (out l : List Rs7) (bad : Int) (outF lF : List Rs7) (badF : Int), c = pre ++ c' → out.length = pre.length → Chain out l pre.length → (∀ i, i < pre.length → Step c out i) → runG (pre.length : Int) c' out l bad = some (outF, lF, badF) →
    (∀ i, i < c.length → Step c outF i) ∧ outF.length = c.length ∧ (∀ i, i < pre.length → at7 outF i = at7 out i) ∧
    (svAny (pre.length : Int) c' l = true ↔ ∃ i, pre.length ≤ i ∧ i < c.length ∧ (opA c i).1 = 9 ∧ svc7 (at7 outF (i - 1)) = true) ∧
    (badF = 0 ↔ bad = 0 ∧ ∀ i, pre.length ≤ i → i < c.length → (opA c i).1 = 8 → mh7 (at7 outF (i - 1)).1 (opA c i).2.2.2.2.2.1 = false)
  | [], pre, out, l, bad, outF, lF, badF, hc, hl, hch, hst, hr => by
    simp only [runG, Option.some.injEq, Prod.mk.injEq] at hr
    obtain ⟨rfl, rfl, rfl⟩ := hr
    have hcl : c.length = pre.length := by rw [hc]; simp
    refine ⟨fun i hi => hst i (by omega), by omega, fun _ _ => rfl, ⟨fun h => (by cases h), fun ⟨i, h1, h2, _⟩ => by omega⟩, ⟨fun h => ⟨h, fun i h1 h2 => by omega⟩, fun h => h.1⟩⟩
  | o :: c', pre, out, l, bad, outF, lF, badF, hc, hl, hch, hst, hr => by
    simp only [runG] at hr
    split at hr
    · rename_i hok
      have hcl : c.length = pre.length + (c'.length + 1) := by rw [hc]; simp
      have ho : opA c pre.length = o := by
        refine getR_of ?_
        rw [hc, List.getElem?_append_right (Nat.le_refl _)]; simp
      obtain ⟨s1, s2, s3, s4⟩ := step_new ho hl hch hok
      have hpl : (pre ++ [o]).length = pre.length + 1 := by simp
      have hr' : runG ((pre ++ [o]).length : Int) c' (out ++ [newR pre.length o l]) (nextL pre.length o l) (if clash7 o l then 6 else bad) = some (outF, lF, badF) := by
        rw [hpl]; exact hr
      obtain ⟨q1, q2, q3, q4, q5⟩ := run_steps c c' (pre ++ [o]) (out ++ [newR pre.length o l]) (nextL pre.length o l) _ outF lF badF (by rw [hc]; simp) (by simp [hl]) (by rw [hpl]; exact s2) (fun i hi => by
        rw [hpl] at hi
        rcases Nat.lt_or_ge i pre.length with h | h
        · exact (hst i h).app (by omega) _
        · have : i = pre.length := by omega
          subst this; exact s1) hr'
      have hat : ∀ i, i < pre.length → at7 outF i = at7 out i := fun i hi => by rw [q3 i (by rw [hpl]; omega)]; exact at7_app _ (by omega)
      have hpr : 1 ≤ pre.length → at7 outF (pre.length - 1) = at7 (out ++ [newR pre.length o l]) (pre.length - 1) := fun h => q3 _ (by rw [hpl]; omega)
      refine ⟨q1, q2, hat, ?_, ?_⟩
      · have e : svAny (pre.length : Int) (o :: c') l = (sv7 o l || svAny ((pre ++ [o]).length : Int) c' (nextL pre.length o l)) := by rw [hpl]; rfl
        rw [e, Bool.or_eq_true, q4]
        constructor
        · rintro (h | ⟨i, h1, h2, h3, h4⟩)
          · have h9 : o.1 = 9 := by
              unfold sv7 at h
              rw [Bool.and_eq_true] at h
              exact of_decide_eq_true h.1
            obtain ⟨p1, p2⟩ := s3 h9
            exact ⟨pre.length, Nat.le_refl _, by omega, by rw [ho]; exact h9, by rw [hpr p1, ← p2]; exact h⟩
          · rw [hpl] at h1; exact ⟨i, by omega, h2, h3, h4⟩
        · rintro ⟨i, h1, h2, h3, h4⟩
          rcases Nat.lt_or_ge pre.length i with h | h
          · exact .inr ⟨i, by rw [hpl]; omega, h2, h3, h4⟩
          · have : i = pre.length := by omega
            subst this
            rw [ho] at h3
            obtain ⟨p1, p2⟩ := s3 h3
            rw [hpr p1, ← p2] at h4
            exact .inl h4
      · rw [q5]
        constructor
        · rintro ⟨h1, h2⟩
          have hcl7 : clash7 o l = false := by
            cases z : clash7 o l
            · rfl
            · rw [z, if_pos rfl] at h1; cases h1
          rw [hcl7, if_neg (by simp)] at h1
          refine ⟨h1, fun i k1 k2 k3 => ?_⟩
          rcases Nat.lt_or_ge pre.length i with h | h
          · exact h2 i (by rw [hpl]; omega) k2 k3
          · have : i = pre.length := by omega
            subst this
            rw [ho] at k3 ⊢
            obtain ⟨p1, p2⟩ := s4 k3
            rw [hpr p1, ← p2]; exact hcl7
        · rintro ⟨h1, h2⟩
          have hcl7 : clash7 o l = false := by
            by_cases h8 : o.1 = 8
            · obtain ⟨p1, p2⟩ := s4 h8
              rw [p2, ← hpr p1]
              have := h2 pre.length (Nat.le_refl _) (by omega) (by rw [ho]; exact h8)
              rw [ho] at this; exact this
            · unfold clash7; rw [decide_eq_false h8]; simp
          rw [hcl7, if_neg (by simp)]
          exact ⟨h1, fun i k1 k2 k3 => h2 i (by rw [hpl] at k1; omega) k2 k3⟩
    · cases hr
/-! Where the parts begin, by the document. -/
def fromF (c : List Op) : Nat → Int → Int
  | 0, _ => 0
  | j + 1, k => if k + needsK (opA c (j + 1)).1 - 1 = 0 then ((j + 1 : Nat) : Int) else fromF c j (k + needsK (opA c (j + 1)).1 - 1)
theorem from_lem {c : List Op} {out : List Rs7} (h : ∀ i, i < c.length → Step c out i) : ∀ (n j : Nat), j < n → j < c.length → ∀ k : Int, (k = 1 → fromF c j k = (at7 out j).2.1) ∧ (2 ≤ k → 1 ≤ (at7 out j).2.1 → fromF c j k = fromF c ((at7 out j).2.1.toNat - 1) (k - 1))
  | 0, j, hj, _, _ => by omega
  | n + 1, j, hj, hc, k => by
    have hs := h j hc
    have hn := right_needs hs.right
    have hn2 := needsK_le (opA c j).1
    rcases (show needsK (opA c j).1 = 0 ∨ needsK (opA c j).1 = 1 ∨ needsK (opA c j).1 = 2 by omega) with hz | hz | hz
    · have hf : (at7 out j).2.1 = (j : Int) := by rw [hs.zero hz]
      rw [hf]
      cases j with
      | zero => exact ⟨fun _ => rfl, fun _ h => by simp at h⟩
      | succ j =>
        simp only [fromF]
        rw [hz]
        refine ⟨fun e => by rw [if_pos (by omega)], fun e _ => ?_⟩
        rw [if_neg (by omega)]
        have : (((j + 1 : Nat) : Int)).toNat - 1 = j := by omega
        rw [this]
        congr 1; omega
    · obtain ⟨h1, h2⟩ := hs.one hz
      have hf : (at7 out j).2.1 = (at7 out (j - 1)).2.1 := by rw [h2]
      obtain ⟨j, rfl⟩ : ∃ i, j = i + 1 := ⟨j - 1, by omega⟩
      rw [hf]
      simp only [Nat.add_sub_cancel]
      obtain ⟨i1, i2⟩ := from_lem h n j (by omega) (by omega) k
      simp only [fromF]
      rw [hz]
      have e : k + 1 - 1 = k := by omega
      rw [e]
      exact ⟨fun q => by rw [if_neg (by omega)]; exact i1 q, fun q q2 => by rw [if_neg (by omega)]; exact i2 q q2⟩
    · obtain ⟨f, h1, h2, h3, h4, h5⟩ := hs.two hz
      have hf : (at7 out j).2.1 = (at7 out (f - 1)).2.1 := by rw [h5]
      obtain ⟨j, rfl⟩ : ∃ i, j = i + 1 := ⟨j - 1, by omega⟩
      rw [hf]
      have b1 : f ≤ j := by omega
      simp only [Nat.add_sub_cancel] at h4
      obtain ⟨i1, i2⟩ := from_lem h n j (by omega) (by omega) (k + 1)
      obtain ⟨g1, g2⟩ := from_lem h n (f - 1) (by omega) (by omega) k
      simp only [fromF]
      rw [hz]
      have e : k + 2 - 1 = k + 1 := by omega
      rw [e]
      refine ⟨fun q => ?_, fun q q2 => ?_⟩
      · rw [if_neg (by omega), i2 (by omega) (by rw [h4]; show (1 : Int) ≤ (f : Int); omega), h4]
        have : (f : Int).toNat - 1 = f - 1 := by omega
        rw [this, Int.add_sub_cancel]; exact g1 q
      · rw [if_neg (by omega), i2 (by omega) (by rw [h4]; show (1 : Int) ≤ (f : Int); omega), h4]
        have : (f : Int).toNat - 1 = f - 1 := by omega
        rw [this, Int.add_sub_cancel]; exact g2 q q2
def fromP (c : List Op) (i : Int) : Int := fromF c i.toNat 1
theorem from_eq {c : List Op} {out : List Rs7} (h : ∀ i, i < c.length → Step c out i) {j : Nat} (hj : j < c.length) : fromP c j = (at7 out j).2.1 :=
  (from_lem h (j + 1) j (by omega) hj 1).1 rfl
/-- A result has a service among its parts. -/
theorem svc_eq {c : List Op} {out : List Rs7} (h : ∀ i, i < c.length → Step c out i) : ∀ (n j : Nat), j < n → j < c.length → (svc7 (at7 out j) = true ↔ ∃ k : Nat, (at7 out j).2.1 ≤ (k : Int) ∧ k ≤ j ∧ (opA c k).1 = 9)
  | 0, j, hj, _ => by omega
  | n + 1, j, hj, hc => by
    have hs := h j hc
    have hn := right_needs hs.right
    have hn2 := needsK_le (opA c j).1
    have h9 : ∀ x : Int, (x == 9) = true ↔ x = 9 := fun x => by simp
    rcases (show needsK (opA c j).1 = 0 ∨ needsK (opA c j).1 = 1 ∨ needsK (opA c j).1 = 2 by omega) with hz | hz | hz
    · rw [hs.zero hz]
      show ((opA c j).1 == 9) = true ↔ _
      rw [h9]
      exact ⟨fun e => ⟨j, Int.le_refl _, Nat.le_refl _, e⟩, fun ⟨k, k1, k2, k3⟩ => by
        have : k = j := by have k1 : (j : Int) ≤ (k : Int) := k1; omega
        rw [← this]; exact k3⟩
    · obtain ⟨h1, h2⟩ := hs.one hz
      rw [h2]
      show (((opA c j).1 == 9) || svc7 (at7 out (j - 1))) = true ↔ ∃ k : Nat, (at7 out (j - 1)).2.1 ≤ (k : Int) ∧ k ≤ j ∧ (opA c k).1 = 9
      rw [Bool.or_eq_true, h9, svc_eq h n (j - 1) (by omega) (by omega)]
      obtain ⟨f, hf, hfe⟩ := (h (j - 1) (by omega)).from_le
      constructor
      · rintro (e | ⟨k, k1, k2, k3⟩)
        · exact ⟨j, by rw [hfe]; show (f : Int) ≤ (j : Int); omega, Nat.le_refl _, e⟩
        · exact ⟨k, k1, by omega, k3⟩
      · rintro ⟨k, k1, k2, k3⟩
        rcases Nat.lt_or_ge k j with q | q
        · exact .inr ⟨k, k1, by omega, k3⟩
        · have : k = j := by omega
          rw [← this]; exact .inl k3
    · obtain ⟨f, h1, h2, h3, h4, h5⟩ := hs.two hz
      rw [h5]
      show (((opA c j).1 == 9) || (svc7 (at7 out (f - 1)) || svc7 (at7 out (j - 1)))) = true ↔ ∃ k : Nat, (at7 out (f - 1)).2.1 ≤ (k : Int) ∧ k ≤ j ∧ (opA c k).1 = 9
      rw [Bool.or_eq_true, Bool.or_eq_true, h9, svc_eq h n (j - 1) (by omega) (by omega), svc_eq h n (f - 1) (by omega) (by omega), h4]
      obtain ⟨f2, hf2, hfe2⟩ := (h (f - 1) (by omega)).from_le
      constructor
      · rintro (e | ⟨k, k1, k2, k3⟩ | ⟨k, k1, k2, k3⟩)
        · exact ⟨j, by rw [hfe2]; show (f2 : Int) ≤ (j : Int); omega, Nat.le_refl _, e⟩
        · exact ⟨k, k1, by omega, k3⟩
        · exact ⟨k, by rw [hfe2]; have k1 : (f : Int) ≤ (k : Int) := k1; show (f2 : Int) ≤ (k : Int); omega, by omega, k3⟩
      · rintro ⟨k, k1, k2, k3⟩
        rcases Nat.lt_or_ge k j with q | q
        · rcases Nat.lt_or_ge k f with q2 | q2
          · exact .inr (.inl ⟨k, k1, by omega, k3⟩)
          · exact .inr (.inr ⟨k, by show (f : Int) ≤ (k : Int); omega, by omega, k3⟩)
        · have : k = j := by omega
          rw [← this]; exact .inl k3
end Go.Proofs.Ytfpojhphmgnfhaa.Sp
end

section
namespace Go.Proofs.Ytfpojhphmgnfhaa.Sp
open Go.Proofs.Ytfpojhphmgnfhaa.Lg Go
/-- All results, services or not. -/
def outG (c : List Op) : List Rs7 := match runG 0 c [] [] 0 with | none => [] | some s => s.1
def namesT (c : List Op) (cert : Bool) (i : Nat) : SL := if cert then certs7 (at7 (outG c) i).1 else keys7 (at7 (outG c) i).1
structure OkN (c : List Op) : Prop where
  len : c.length ≤ 128
  sz : szC c
  steps : ∀ i, i < c.length → Step c (outG c) i
def OkC (c : List Op) : Prop := ∀ i, i < c.length → (opA c i).1 = 8 → mh7 (at7 (outG c) (i - 1)).1 (opA c i).2.2.2.2.2.1 = false
theorem step_srt {c : List Op} {out : List Rs7} (h : ∀ i, i < c.length → Step c out i) : ∀ (n j : Nat), j < n → j < c.length → Srt7 (at7 out j).1
  | 0, j, hj, _ => by omega
  | n + 1, j, hj, hc => by
    have hs := h j hc
    have hn := right_needs hs.right
    have hn2 := needsK_le (opA c j).1
    rcases (show needsK (opA c j).1 = 0 ∨ needsK (opA c j).1 = 1 ∨ needsK (opA c j).1 = 2 by omega) with hz | hz | hz
    · rw [hs.zero hz]; exact srt_leaf _
    · rw [(hs.one hz).2]; exact srt_one _ _
    · obtain ⟨f, h1, h2, h3, h4, h5⟩ := hs.two hz
      rw [h5]
      exact srt_two _ _ _ (step_srt h n (f - 1) (by omega) (by omega))
theorem step_len {c : List Op} {out : List Rs7} (h : ∀ i, i < c.length → Step c out i) : ∀ (n j : Nat), j < n → j < c.length → ∀ f : Nat, (at7 out j).2.1 = (f : Int) → f ≤ j ∧ ((at7 out j).1 : M7).length + 128 * f ≤ 128 * (j + 1)
  | 0, j, hj, _, _, _ => by omega
  | n + 1, j, hj, hc, f, hf => by
    have hs := h j hc
    have hn := right_needs hs.right
    have hn2 := needsK_le (opA c j).1
    rcases (show needsK (opA c j).1 = 0 ∨ needsK (opA c j).1 = 1 ∨ needsK (opA c j).1 = 2 by omega) with hz | hz | hz
    · rw [hs.zero hz] at hf ⊢
      have hf : (j : Int) = (f : Int) := hf
      have := right_leaf hs.right hz
      show f ≤ j ∧ (leafS (opA c j)).length + 128 * f ≤ 128 * (j + 1)
      omega
    · obtain ⟨h1, h2⟩ := hs.one hz
      rw [h2] at hf ⊢
      obtain ⟨i1, i2⟩ := step_len h n (j - 1) (by omega) (by omega) f hf
      have := one_len (opA c j) (at7 out (j - 1)).1
      show f ≤ j ∧ (oneS (opA c j) (at7 out (j - 1)).1).length + 128 * f ≤ 128 * (j + 1)
      omega
    · obtain ⟨g, h1, h2, h3, h4, h5⟩ := hs.two hz
      rw [h5] at hf ⊢
      obtain ⟨i1, i2⟩ := step_len h n (j - 1) (by omega) (by omega) g h4
      obtain ⟨k1, k2⟩ := step_len h n (g - 1) (by omega) (by omega) f hf
      have := two_len (opA c j) (at7 out (g - 1)).1 (at7 out (j - 1)).1
      show f ≤ j ∧ (twoS (opA c j) (at7 out (g - 1)).1 (at7 out (j - 1)).1).length + 128 * f ≤ 128 * (j + 1)
      omega
theorem OkN.srt {c : List Op} (h : OkN c) {j : Nat} (hj : j < c.length) : Srt7 (at7 (outG c) j).1 := step_srt h.steps (j + 1) j (by omega) hj
theorem OkN.names_len {c : List Op} (h : OkN c) {j : Nat} (hj : j < c.length) (b : Bool) : (namesT c b j).length ≤ 16384 := by
  obtain ⟨f, hf, hfe⟩ := (h.steps j hj).from_le
  have := step_len h.steps (j + 1) j (by omega) hj f hfe
  have hl := h.len
  have k1 := keys_len (at7 (outG c) j).1
  have k2 := certs_len (at7 (outG c) j).1
  unfold namesT
  split <;> omega
theorem OkN.op {c : List Op} (h : OkN c) {j : Nat} (hj : j < c.length) : szO (opA c j) := by
  unfold opA
  rw [getR_of (List.getElem?_eq_getElem hj)]
  exact h.sz.2 _ (List.getElem_mem hj)
/-! The names, by parts. -/
theorem names_zero {c : List Op} (h : OkN c) {j : Nat} (hj : j < c.length) (hz : needsK (opA c j).1 = 0) (b : Bool) : leafL (opA c j) b = namesT c b j := by
  have hs := h.steps j hj
  obtain ⟨k1, k2⟩ := leaf_keys hs.right hz
  unfold namesT
  rw [hs.zero hz]
  cases b
  · exact k1.symm
  · exact k2.symm
theorem sil_nine {o : Op} (h : rightO o = true) (hs : o.2.2.2.2.2.2.1 = true) : o.1 = 9 := by
  obtain ⟨(k : Int), tr, vs, rows, f, (name : B), (sil : Bool), _⟩ := o
  have hs : sil = true := hs
  subst hs
  show k = 9
  by_cases q : k = 9
  · exact q
  · exfalso
    unfold rightO at h
    dsimp only at h
    simp only [if_neg q, Bool.not_true, Bool.and_false] at h
    repeat' (split at h)
    all_goals simp at h
theorem names_one {c : List Op} (h : OkN c) {j : Nat} (hj : j < c.length) (hz : needsK (opA c j).1 = 1) (b : Bool) (hc : b = true → OkC c) :
    namesT c b j = if b = true ∧ (opA c j).2.2.2.2.2.2.1 = true then [] else if (opA c j).1 = 8 ∧ b = false then moreL (namesT c b (j - 1)) (opA c j).2.2.2.2.2.1 else namesT c b (j - 1) := by
  have hs := h.steps j hj
  obtain ⟨h1, h2⟩ := hs.one hz
  have ha := h.srt (j := j - 1) (by omega)
  unfold namesT
  rw [h2]
  cases b
  · show keys7 (oneS _ _) = _
    rw [one_keys _ ha]
    simp
  · show certs7 (oneS _ _) = _
    rw [one_certs ha (sil_nine hs.right) (fun e => hc rfl j hj e)]
    simp
theorem names_two {c : List Op} (h : OkN c) {j f : Nat} (hj : j < c.length) (hz : needsK (opA c j).1 = 2) (hf : (at7 (outG c) (j - 1)).2.1 = (f : Int)) (b : Bool) : 1 ≤ f ∧ f ≤ j - 1 ∧ 1 ≤ j ∧
    namesT c b j = if (opA c j).1 = 6 ∨ ((opA c j).1 = 5 ∧ b = true) then namesT c b (f - 1) else if (opA c j).1 = 4 ∧ b = true then meetL (namesT c b (f - 1)) (namesT c b (j - 1)) else unionL (namesT c b (f - 1)) (namesT c b (j - 1)) := by
  have hs := h.steps j hj
  obtain ⟨g, h1, h2, h3, h4, h5⟩ := hs.two hz
  have : g = f := by
    have h4 : (at7 (outG c) (j - 1)).2.1 = (g : Int) := h4
    rw [h4] at hf; exact Int.ofNat.inj hf
  subst this
  refine ⟨h1, h2, h3, ?_⟩
  have ha := h.srt (j := g - 1) (by omega)
  have hb := h.srt (j := j - 1) (by omega)
  unfold namesT
  rw [h5]
  cases b
  · show keys7 (twoS _ _ _) = _
    rw [two_keys _ ha hb hz]; simp
  · show certs7 (twoS _ _ _) = _
    rw [two_certs _ ha hb hz]; simp
/-! Shape. -/
def shpB : List Op → Int → Bool
  | [], n => decide (n = 1)
  | o :: c, n => rightO o && decide (needsK o.1 ≤ n) && shpB c (n - needsK o.1 + 1)
theorem sh_run : ∀ (c : List Op) (i : Int) (out l : List Rs7) (bad : Int), shpB c l.length = match runG i c out l bad with | none => false | some s => decide (s.2.1.length = 1)
  | [], i, out, l, bad => by
    show decide ((l.length : Int) = 1) = decide (l.length = 1)
    exact decide_eq_decide.2 (by omega)
  | o :: c, i, out, l, bad => by
    simp only [shpB, runG]
    by_cases h : okG o l = true
    · rw [if_pos h]
      unfold okG at h
      have hr := h
      rw [Bool.and_eq_true] at hr
      have hn := right_needs hr.1
      have hn2 := of_decide_eq_true hr.2
      rw [h, Bool.true_and, ← sh_run c (i + 1) (out ++ [newR i o l]) (nextL i o l) (if clash7 o l = true then 6 else bad)]
      congr 1
      unfold nextL
      rw [List.length_append, List.length_take, List.length_singleton]
      have : (needsK o.1).toNat ≤ l.length := by omega
      omega
    · rw [if_neg h]
      have h : okG o l = false := by simpa using h
      unfold okG at h
      rw [h, Bool.false_and]
/-! Services in services. -/
def innB (c : List Op) : Nat → Nat → Bool
  | _, 0 => false
  | k, m + 1 => decide ((opA c k).1 = 9) || innB c (k + 1) m
theorem inn_iff (c : List Op) : ∀ (m k : Nat), innB c k m = true ↔ ∃ j, k ≤ j ∧ j < k + m ∧ (opA c j).1 = 9
  | 0, k => by simp only [innB]; exact ⟨fun h => (by cases h), fun ⟨j, h1, h2, _⟩ => by omega⟩
  | m + 1, k => by
    simp only [innB]
    rw [Bool.or_eq_true, inn_iff c m (k + 1), decide_eq_true_eq]
    constructor
    · rintro (h | ⟨j, h1, h2, h3⟩)
      · exact ⟨k, Nat.le_refl _, by omega, h⟩
      · exact ⟨j, by omega, by omega, h3⟩
    · rintro ⟨j, h1, h2, h3⟩
      rcases Nat.lt_or_ge k j with q | q
      · exact .inr ⟨j, by omega, by omega, h3⟩
      · have : j = k := by omega
        subst this; exact .inl h3
def nstB (c : List Op) : Nat → Nat → Bool
  | _, 0 => false
  | i, m + 1 => (decide ((opA c i).1 = 9) && innB c (fromP c i).toNat (i - (fromP c i).toNat)) || nstB c (i + 1) m
theorem nst_iff (c : List Op) : ∀ (m i : Nat), nstB c i m = true ↔ ∃ j, i ≤ j ∧ j < i + m ∧ (opA c j).1 = 9 ∧ ∃ k, (fromP c j).toNat ≤ k ∧ k < (fromP c j).toNat + (j - (fromP c j).toNat) ∧ (opA c k).1 = 9
  | 0, i => by simp only [nstB]; exact ⟨fun h => (by cases h), fun ⟨j, h1, h2, _⟩ => by omega⟩
  | m + 1, i => by
    simp only [nstB]
    rw [Bool.or_eq_true, nst_iff c m (i + 1), Bool.and_eq_true, decide_eq_true_eq, inn_iff]
    constructor
    · rintro (⟨h, h'⟩ | ⟨j, h1, h2, h3⟩)
      · exact ⟨i, Nat.le_refl _, by omega, h, h'⟩
      · exact ⟨j, by omega, by omega, h3⟩
    · rintro ⟨j, h1, h2, h3, h4⟩
      rcases Nat.lt_or_ge i j with q | q
      · exact .inr ⟨j, by omega, by omega, h3, h4⟩
      · have : j = i := by omega
        subst this; exact .inl ⟨h3, h4⟩
theorem fromF_le (c : List Op) : ∀ (j : Nat) (k : Int), 0 ≤ fromF c j k ∧ fromF c j k ≤ (j : Int)
  | 0, k => by simp [fromF]
  | j + 1, k => by
    simp only [fromF]
    split
    · omega
    · have := fromF_le c j (k + needsK (opA c (j + 1)).1 - 1); omega
/-! Names that are there. -/
def clB (c : List Op) : Nat → Nat → Bool
  | _, 0 => false
  | i, m + 1 => (decide ((opA c i).1 = 8) && hasS (namesT c false (i - 1)) (opA c i).2.2.2.2.2.1) || clB c (i + 1) m
theorem cl_iff (c : List Op) : ∀ (m i : Nat), clB c i m = true ↔ ∃ j, i ≤ j ∧ j < i + m ∧ (opA c j).1 = 8 ∧ mh7 (at7 (outG c) (j - 1)).1 (opA c j).2.2.2.2.2.1 = true
  | 0, i => by simp only [clB]; exact ⟨fun h => (by cases h), fun ⟨j, h1, h2, _⟩ => by omega⟩
  | m + 1, i => by
    simp only [clB]
    have e : hasS (namesT c false (i - 1)) (opA c i).2.2.2.2.2.1 = mh7 (at7 (outG c) (i - 1)).1 (opA c i).2.2.2.2.2.1 := has_keys7 _ _
    rw [Bool.or_eq_true, cl_iff c m (i + 1), Bool.and_eq_true, decide_eq_true_eq, e]
    constructor
    · rintro (⟨h, h'⟩ | ⟨j, h1, h2, h3⟩)
      · exact ⟨i, Nat.le_refl _, by omega, h, h'⟩
      · exact ⟨j, by omega, by omega, h3⟩
    · rintro ⟨j, h1, h2, h3, h4⟩
      rcases Nat.lt_or_ge i j with q | q
      · exact .inr ⟨j, by omega, by omega, h3, h4⟩
      · have : j = i := by omega
        subst this; exact .inl ⟨h3, h4⟩
/-- What the document says of a code. -/
def checkT (c : List Op) : Int := if 128 < c.length then 3 else if shpB c 0 && !(nstB c 0 c.length) then (if clB c 0 c.length then 6 else 0) else 2
theorem sh_ok {c : List Op} (hl : c.length ≤ 128) (hz : szC c) (h : shpB c 0 = true) : OkN c ∧ ∃ l bad, runG 0 c [] [] 0 = some (outG c, l, bad) ∧ l.length = 1 ∧ (outG c).length = c.length := by
  have e := sh_run c 0 [] [] 0
  have h : shpB c (([] : List Rs7).length : Int) = true := h
  rw [h] at e
  cases hr : runG 0 c [] [] 0 with
  | none => rw [hr] at e; cases e
  | some s =>
    obtain ⟨out, l, bad⟩ := s
    have ho : outG c = out := by unfold outG; rw [hr]
    obtain ⟨q1, q2, _⟩ := run_steps c c [] [] [] 0 out l bad rfl rfl .nil (fun i hi => by simp at hi) hr
    rw [hr] at e
    exact ⟨⟨hl, hz, by rw [ho]; exact q1⟩, l, bad, by rw [ho], of_decide_eq_true e.symm, by rw [ho]; exact q2⟩
theorem badG : ∀ (c : List Op) (i : Int) (out l : List Rs7) (bad : Int) (s : List Rs7 × List Rs7 × Int), runG i c out l bad = some s → bad = 0 ∨ bad = 6 → s.2.2 = 0 ∨ s.2.2 = 6
  | [], _, out, l, bad, s, h, hb => by simp only [runG, Option.some.injEq] at h; subst h; exact hb
  | o :: c, i, out, l, bad, s, h, hb => by
    simp only [runG] at h
    split at h
    · refine badG c _ _ _ _ s h ?_
      split
      · exact .inr rfl
      · exact hb
    · cases h
theorem check_eq {c : List Op} (hz : szC c) : (resS c).2 = checkT c := by
  unfold checkT resS
  split
  · rfl
  · rename_i hl
    rw [runR_G]
    cases hs : shpB c 0
    · have e := sh_run c 0 [] [] 0
      have hs : shpB c (([] : List Rs7).length : Int) = false := hs
      rw [hs] at e
      rw [Bool.false_and, if_neg (by simp)]
      cases hr : runG 0 c [] [] 0 with
      | none => rfl
      | some s =>
        obtain ⟨out, l, bad⟩ := s
        rw [hr] at e
        have : ¬ l.length = 1 := of_decide_eq_false e.symm
        simp only
        cases svAny 0 c []
        · simp only [Bool.false_eq_true, if_false, if_neg this]
        · simp only [if_true]
    · obtain ⟨hok, l, bad, hr, hl1, hlen⟩ := sh_ok (by omega) hz hs
      rw [hr]
      obtain ⟨q1, q2, q3, q4, q5⟩ := run_steps c c [] [] [] 0 (outG c) l bad rfl rfl .nil (fun i hi => by simp at hi) hr
      have hn : nstB c 0 c.length = svAny 0 c [] := by
        refine bool_ext ?_
        have q4 : svAny 0 c [] = true ↔ ∃ i, 0 ≤ i ∧ i < c.length ∧ (opA c i).1 = 9 ∧ svc7 (at7 (outG c) (i - 1)) = true := q4
        rw [q4, nst_iff]
        have key : ∀ j, j < c.length → (opA c j).1 = 9 → (svc7 (at7 (outG c) (j - 1)) = true ↔ ∃ k, (fromP c j).toNat ≤ k ∧ k < (fromP c j).toNat + (j - (fromP c j).toNat) ∧ (opA c k).1 = 9) := fun j hj h9 => by
          have hk : needsK (opA c j).1 = 1 := by rw [h9]; rfl
          obtain ⟨p1, p2⟩ := (q1 j hj).one hk
          obtain ⟨f, hf, hfe⟩ := (q1 (j - 1) (by omega)).from_le
          have hfp : fromP c j = (f : Int) := by
            rw [from_eq q1 hj, p2]; exact hfe
          rw [svc_eq q1 (j - 1 + 1) (j - 1) (by omega) (by omega), hfp, hfe]
          constructor
          · rintro ⟨k, k1, k2, k3⟩
            have k1 : (f : Int) ≤ (k : Int) := k1
            exact ⟨k, by omega, by omega, k3⟩
          · rintro ⟨k, k1, k2, k3⟩
            exact ⟨k, by show (f : Int) ≤ (k : Int); omega, by omega, k3⟩
        constructor
        · rintro ⟨j, h1, h2, h3, h4⟩
          exact ⟨j, h1, by omega, h3, (key j (by omega) h3).2 h4⟩
        · rintro ⟨j, h1, h2, h3, h4⟩
          exact ⟨j, h1, by omega, h3, (key j h2 h3).1 h4⟩
      rw [hn]
      simp only [if_pos hl1]
      cases svAny 0 c []
      · simp only [Bool.false_eq_true, if_false, Bool.not_false, Bool.true_and, if_true, if_pos hl1]
        have hb := badG c 0 [] [] 0 _ hr (.inl rfl)
        have hb : bad = 0 ∨ bad = 6 := hb
        have q5 : bad = 0 ↔ (0 : Int) = 0 ∧ ∀ i, 0 ≤ i → i < c.length → (opA c i).1 = 8 → mh7 (at7 (outG c) (i - 1)).1 (opA c i).2.2.2.2.2.1 = false := q5
        cases hcl : clB c 0 c.length
        · rw [if_neg (by simp)]
          refine q5.2 ⟨rfl, fun i _ h2 h3 => ?_⟩
          cases hm : mh7 (at7 (outG c) (i - 1)).1 (opA c i).2.2.2.2.2.1
          · rfl
          · rw [(cl_iff c c.length 0).2 ⟨i, by omega, by omega, h3, hm⟩] at hcl
            cases hcl
        · rw [if_pos rfl]
          obtain ⟨j, h1, h2, h3, h4⟩ := (cl_iff c c.length 0).1 hcl
          rcases hb with hb | hb
          · rw [(q5.1 hb).2 j h1 (by omega) h3] at h4; cases h4
          · exact hb
      · simp only [if_true, Bool.not_true, Bool.and_false, Bool.false_eq_true, if_false]
/-- Of a right code. -/
theorem res_ok {c : List Op} (hz : szC c) (h : (resS c).2 = 0) : OkN c ∧ OkC c ∧ (resS c).1 = outG c ∧ (outG c).length = c.length ∧ shpB c 0 = true ∧ nstB c 0 c.length = false := by
  have h' := h
  rw [check_eq hz] at h'
  unfold checkT at h'
  split at h'
  · cases h'
  · rename_i hl
    cases hs : shpB c 0
    · rw [hs] at h'; simp at h'
    · cases hn : nstB c 0 c.length
      · rw [hs, hn] at h'
        simp only [Bool.not_false, Bool.true_and, if_true] at h'
        cases hcl : clB c 0 c.length
        · obtain ⟨hok, l, bad, hr, hl1, hlen⟩ := sh_ok (by omega) hz hs
          refine ⟨hok, fun i hi h8 => ?_, ?_, hlen, rfl, rfl⟩
          · cases hm : mh7 (at7 (outG c) (i - 1)).1 (opA c i).2.2.2.2.2.1
            · rfl
            · rw [(cl_iff c c.length 0).2 ⟨i, by omega, by omega, h8, hm⟩] at hcl; cases hcl
          · unfold resS at h ⊢
            rw [if_neg hl, runR_G, hr] at h ⊢
            cases hsv : svAny 0 c []
            · simp only [hsv, Bool.false_eq_true, if_false, if_pos hl1]
            · rw [hsv] at h; simp only [if_true] at h; cases h
        · rw [hcl] at h'; cases h'
      · rw [hs, hn] at h'; simp at h'
end Go.Proofs.Ytfpojhphmgnfhaa.Sp
end

section
namespace Go.Proofs.Ytfpojhphmgnfhaa.Sp
open Go.Proofs.Ytfpojhphmgnfhaa.Lg Go
def shO : List Op → Int → Bool
  | [], _ => true
  | o :: c, n => rightO o && decide (needsK o.1 ≤ n) && shO c (n - needsK o.1 + 1)
def shE : List Op → Int → Int
  | [], n => n
  | o :: c, n => shE c (n - needsK o.1 + 1)
theorem shpB_eq : ∀ (c : List Op) (n : Int), shpB c n = (shO c n && decide (shE c n = 1))
  | [], n => rfl
  | o :: c, n => by simp only [shpB, shO, shE]; rw [shpB_eq c]; cases rightO o <;> cases decide (needsK o.1 ≤ n) <;> rfl
def frH (c : List Op) : Nat → Int → Bool
  | 0, _ => false
  | n + 1, k => decide (k + needsK (opA c n).1 - 1 = 0) || frH c n (k + needsK (opA c n).1 - 1)
def frA (c : List Op) : Nat → Int → Int
  | 0, _ => 0
  | n + 1, k => if k + needsK (opA c n).1 - 1 = 0 then (n : Int) else frA c n (k + needsK (opA c n).1 - 1)
theorem frH_no (c : List Op) : ∀ (n : Nat) (k : Int), frH c n k = false → frA c n k = 0
  | 0, k, _ => rfl
  | n + 1, k, h => by
    simp only [frH, Bool.or_eq_false_iff, decide_eq_false_iff_not] at h
    simp only [frA]
    rw [if_neg h.1, frH_no c n _ h.2]
theorem frA_F (c : List Op) : ∀ (j : Nat) (k : Int), frA c (j + 1) k = fromF c j k
  | 0, k => by simp [frA, fromF]
  | j + 1, k => by
    rw [frA, fromF, frA_F c j]
theorem frA_P (c : List Op) (i : Int) (h : -1 ≤ i) : frA c (i + 1).toNat 1 = fromP c i := by
  unfold fromP
  rcases (show i = -1 ∨ 0 ≤ i by omega) with rfl | h
  · rfl
  · obtain ⟨n, rfl⟩ := Int.eq_ofNat_of_zero_le h
    rw [show ((n : Int) + 1).toNat = n + 1 by omega, frA_F, Int.toNat_natCast]
/-- Names in order, as far as one is not in: what is laid, and whether it is. -/
def insQ (s : B) : SL → SL × Bool
  | [] => ([], false)
  | x :: l => if bytesLess s x.1 then ((s, ()) :: x :: l, true) else (x :: (insQ s l).1, (insQ s l).2)
theorem ins_Q (s : B) : ∀ l : SL, insL s l = if (insQ s l).2 then (insQ s l).1 else (insQ s l).1 ++ [(s, ())]
  | [] => rfl
  | x :: l => by
    simp only [insL, insQ]
    by_cases h : bytesLess s x.1 = true
    · simp only [h, if_true, cond_true]
    · have h : bytesLess s x.1 = false := by simpa using h
      simp only [h, Bool.false_eq_true, if_false, cond_false]
      rw [ins_Q s l]
      cases (insQ s l).2 <;> rfl
theorem insQ_len (s : B) : ∀ l : SL, (insQ s l).1.length ≤ l.length + 1 ∧ ((insQ s l).2 = false → (insQ s l).1.length = l.length)
  | [] => by simp [insQ]
  | x :: l => by
    have := insQ_len s l
    simp only [insQ]
    split
    · simp
    · simp only [List.length_cons]
      exact ⟨by omega, fun h => by rw [this.2 h]⟩
theorem insL_len (s : B) (l : SL) : (insL s l).length = l.length + 1 := by
  induction l with
  | nil => rfl
  | cons x l ih =>
    simp only [insL]
    cases bytesLess s x.1
    · simp [ih]
    · simp
theorem more_len (l : SL) (s : B) : (moreL l s).length ≤ l.length + 1 := by
  unfold moreL
  split
  · omega
  · rw [insL_len]; omega
theorem union_len : ∀ (b a : SL), (unionL a b).length ≤ a.length + b.length
  | [], a => by simp [unionL]
  | x :: b, a => by
    have h := union_len b (moreL a x.1)
    have h2 := more_len a x.1
    show (unionL (moreL a x.1) b).length ≤ _
    rw [List.length_cons]; omega
theorem union_cons (a : SL) (x : RowE [.str]) (b : SL) : unionL a (x :: b) = unionL (moreL a x.1) b := rfl
theorem tri_cons (out : SL) (t : RowE t9S) (l : List (RowE t9S)) : triL7 (t :: l) out = triL7 l (unionL out (varsS t)) := rfl
theorem tri_len : ∀ (l : List (RowE t9S)) (out : SL), (triL7 l out).length ≤ out.length + 3 * l.length
  | [], out => by simp [triL7]
  | t :: l, out => by
    rw [tri_cons]
    have h := tri_len l (unionL out (varsS t))
    have h2 := union_len (varsS t) out
    have h3 := varsS_len t
    rw [List.length_cons]; omega
/-- Does a row lack a column? -/
def lackR (rows : List (RowE [.sl [.int .i64, .str, .str, .str]])) (i : Nat) : Bool := rows.any fun r => decide ((getR [.int .i64, .str, .str, .str] r.1 (i : Int)).1 = 0)
theorem lack_full (rows : List (RowE [.sl [.int .i64, .str, .str, .str]])) (i : Nat) : lackR rows i = !(full rows i) := by
  unfold lackR full
  induction rows with
  | nil => rfl
  | cons r rows ih =>
    simp only [List.any_cons, List.all_cons, ih]
    cases decide ((getR [.int .i64, .str, .str, .str] r.1 (i : Int)).1 = 0) <;> simp
theorem right_small {o : Op} (h : rightO o = true) : (o.2.1 : List (RowE t9S)).length ≤ 32 ∧ (o.2.2.1 : SL).length ≤ 32 := by
  obtain ⟨(k : Int), (tr : List (RowE t9S)), (vs : SL), (rows : List (RowE [.sl [.int .i64, .str, .str, .str]])), f, (name : B), (sil : Bool), _⟩ := o
  show tr.length ≤ 32 ∧ vs.length ≤ 32
  by_cases k1 : k = 1
  · subst k1
    have h : (decide (vs.length = 0) && decide (rows.length = 0) && decide (List.length f = 0) && (decide (name = []) && !sil) && basicS tr) = true := h
    simp only [Bool.and_eq_true, decide_eq_true_eq, basicS] at h
    omega
  by_cases k2 : k = 2
  · subst k2
    have h : (decide (tr.length = 0) && decide (List.length f = 0) && (decide (name = []) && !sil) && tableS vs rows) = true := h
    simp only [Bool.and_eq_true, decide_eq_true_eq, tableS] at h
    omega
  have h0 : decide (tr.length = 0) = true := by
    cases e : decide (tr.length = 0)
    · exfalso
      unfold rightO at h
      dsimp only at h
      rw [e] at h
      simp only [Bool.false_and, if_neg k1, if_neg k2] at h
      repeat' (split at h)
      all_goals cases h
    · rfl
  have h1 : decide (vs.length = 0) = true := by
    cases e : decide (vs.length = 0)
    · exfalso
      unfold rightO at h
      dsimp only at h
      rw [e] at h
      simp only [Bool.false_and, Bool.and_false, if_neg k1, if_neg k2] at h
      repeat' (split at h)
      all_goals cases h
    · rfl
  have h0 := of_decide_eq_true h0
  have h1 := of_decide_eq_true h1
  omega
end Go.Proofs.Ytfpojhphmgnfhaa.Sp
end
