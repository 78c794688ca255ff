/- Chapter 7, plain: which operations are right. -/
import Derived.Test.YtfpojhphmgnfhaaSpQ2
import Derived.Test.YtfpojhphmgnfhaaSpU
import Derived.Test.YtfpojhphmgnfhaaSpV
import Derived.Test.YtfpojhphmgnfhaaLgF
namespace Go.Proofs.Ytfpojhphmgnfhaa.Sp
open Go.Proofs.Ytfpojhphmgnfhaa.Lg Go
abbrev t9S : List Sh := [.int .i64, .str, .str, .str, .int .i64, .str, .str, .str, .int .i64, .str, .str, .str]
abbrev opS : List Sh := [.int .i64, .sl t9S, .sl [.str], .sl [.sl [.int .i64, .str, .str, .str]], .sl ptS, .str, .bool]
abbrev tbS : List Sh := [.sl [.str], .sl [.sl [.int .i64, .str, .str, .str]]]
abbrev rsS : List Sh := [.mp .str false [.bool], .int .i64, .bool]
abbrev Op := RowE opS
def needsK (k : Int) : Int := if k = 1 ∨ k = 2 then 0 else if k = 7 ∨ k = 8 ∨ k = 9 then 1 else if k = 3 ∨ k = 4 ∨ k = 5 ∨ k = 6 then 2 else -1
def basicS (l : List (RowE t9S)) : Bool := l.all pat && decide (l.length ≤ 32)
/-- A term that may stand in a table. -/
def valT (t : TR) : Bool := rightT t && !(decide (t.1 = 3)) && !(decide (t.1 = 4))
def namesS : List (RowE [.str]) → List (RowE [.str]) → Bool
  | _, [] => true
  | b, v :: l => isName v.1 && !(hasS b v.1) && namesS (b ++ [v]) l
def rowS (n : Nat) (r : RowE [.sl [.int .i64, .str, .str, .str]]) : Bool := decide (r.1.length = n) && r.1.all fun t => valT t
def tableS (vs : List (RowE [.str])) (rows : List (RowE [.sl [.int .i64, .str, .str, .str]])) : Bool :=
  decide (vs.length ≤ 32) && decide (rows.length ≤ 64) && namesS [] vs && rows.all (rowS vs.length)
def rightO (o : Op) : Bool :=
  let k := o.1; let tr := o.2.1; let vs := o.2.2.1; let rows := o.2.2.2.1; let f := o.2.2.2.2.1; let name := o.2.2.2.2.2.1; let sil := o.2.2.2.2.2.2.1
  let noTri := decide (tr.length = 0); let noTab := decide (vs.length = 0) && decide (rows.length = 0); let noF := decide (f.length = 0); let plain := decide (name = []) && !sil
  if k = 1 then noTab && noF && plain && basicS tr
  else if k = 2 then noTri && noF && plain && tableS vs rows
  else if k = 3 ∨ k = 4 ∨ k = 6 then noTri && noTab && noF && plain
  else if k = 5 then noTri && noTab && (noF || decide (checkS f = 0)) && plain
  else if k = 7 then noTri && noTab && decide (checkS f = 0) && plain
  else if k = 8 then noTri && noTab && decide (checkS f = 0) && isName name && !sil
  else if k = 9 then noTri && noTab && noF && isIri name
  else false
def szT (t : TR) : Prop := t.2.1.length ≤ 140737488355328 ∧ t.2.2.1.length ≤ 140737488355328 ∧ t.2.2.2.1.length ≤ 140737488355328
def szV (vs : List (RowE [.str])) : Prop := vs.length ≤ 140737488355328 ∧ ∀ v ∈ vs, (v.1 : B).length ≤ 140737488355328
def szR (rows : List (RowE [.sl [.int .i64, .str, .str, .str]])) : Prop := rows.length ≤ 140737488355328 ∧ ∀ r ∈ rows, (r.1 : List TR).length ≤ 140737488355328 ∧ ∀ t ∈ (r.1 : List TR), szT t
def sz3L (l : List (RowE t9S)) : Prop := l.length ≤ 140737488355328 ∧ ∀ t ∈ l, sz3 140737488355328 t
def szO (o : Op) : Prop := sz3L o.2.1 ∧ szV o.2.2.1 ∧ szR o.2.2.2.1 ∧ ((o.2.2.2.2.1 : List Pt).length ≤ 140737488355328 ∧ allPt o.2.2.2.2.1) ∧ (o.2.2.2.2.2.1 : B).length ≤ 140737488355328
def szC (c : List Op) : Prop := c.length ≤ 140737488355328 ∧ ∀ o ∈ c, szO o
theorem small_len {es : List Sh} {l : List (RowE es)} (h : CE.small (.sl es) l) (hb : 0 < bytesL es) : l.length ≤ 140737488355328 := by
  simp only [CE.small] at h
  have h1 : l.length ≤ l.length * bytesL es := Nat.le_mul_of_pos_right _ hb
  have : reachBytes ≤ 140737488355328 := by decide
  omega
theorem small_txt {s : B} (h : CE.small .str s) : s.length ≤ 140737488355328 := by
  simp only [CE.small] at h
  have : reachBytes ≤ 140737488355328 := by decide
  omega
theorem small_T {t : TR} (h : RowE.small [.int .i64, .str, .str, .str] t) : szT t := by
  simp only [RowE.small] at h
  exact ⟨small_txt h.2.1, small_txt h.2.2.1, small_txt h.2.2.2.1⟩
theorem small_3 {t : RowE t9S} (h : RowE.small t9S t) : sz3 140737488355328 t := by
  simp only [RowE.small] at h
  obtain ⟨_, a1, a2, a3, _, b1, b2, b3, _, c1, c2, c3, _⟩ := h
  exact ⟨⟨small_txt a1, small_txt a2, small_txt a3⟩, ⟨small_txt b1, small_txt b2, small_txt b3⟩, small_txt c1, small_txt c2, small_txt c3⟩
theorem small_P {p : Pt} (h : RowE.small ptS p) : szPt p := by
  simp only [RowE.small] at h
  exact ⟨small_txt h.2.2.1, small_txt h.2.2.2.1, small_txt h.2.2.2.2.1, small_txt h.2.2.2.2.2.1⟩
theorem small_O {o : Op} (h : RowE.small opS o) : szO o := by
  simp only [RowE.small] at h
  obtain ⟨_, h1, h2, h3, h4, h5, _⟩ := h
  refine ⟨⟨small_len h1 (by decide), fun t ht => ?_⟩, ⟨small_len h2 (by decide), fun v hv => ?_⟩, ⟨small_len h3 (by decide), fun r hr => ?_⟩, ⟨small_len h4 (by decide), fun p hp => ?_⟩, small_txt h5⟩
  · simp only [CE.small] at h1; exact small_3 (h1.2 t ht)
  · simp only [CE.small] at h2
    have := h2.2 v hv
    simp only [RowE.small] at this
    exact small_txt this.1
  · simp only [CE.small] at h3
    have := h3.2 r hr
    simp only [RowE.small] at this
    have q := this.1
    refine ⟨small_len q (by decide), fun t ht => ?_⟩
    simp only [CE.small] at q
    exact small_T (q.2 t ht)
  · simp only [CE.small] at h4; exact small_P (h4.2 p hp)
theorem small_C {c : List Op} (h : CE.small (.sl opS) c) : szC c := by
  refine ⟨small_len h (by decide), fun o ho => ?_⟩
  simp only [CE.small] at h
  exact small_O (h.2 o ho)
end Go.Proofs.Ytfpojhphmgnfhaa.Sp
