/- Chapter 7, plain: sets of names. -/
import Derived.Test.YtfpojhphmgnfhaaSvA
namespace Go.Proofs.Ytfpojhphmgnfhaa.Sp
open Go.Proofs.Ytfpojhphmgnfhaa.Lg Go
abbrev M7 := List (List UInt8 × RowE [.bool])
def mg7 (m : M7) (k : B) : Bool := (mget .str [.bool] m k).1
def mh7 (m : M7) (k : B) : Bool := mhas .str [.bool] m k
abbrev Srt7 (m : M7) : Prop := Srt .str [.bool] m
def put7 (p : B × RowE [.bool] → Bool) (f : B × RowE [.bool] → Bool) (l m : M7) : M7 := putIf (k := .str) (es := [.bool]) (fs := [.bool]) p (fun e => (f e, ())) l m
def bothA (f : Bool → Bool → Bool → Bool → Bool) (b : M7) (e : B × RowE [.bool]) : Bool := f e.2.1 (mg7 b e.1) true (mh7 b e.1)
def bothB (f : Bool → Bool → Bool → Bool → Bool) (a : M7) (e : B × RowE [.bool]) : Bool := f (mg7 a e.1) e.2.1 false true
def bothS (f : Bool → Bool → Bool → Bool → Bool) (a b : M7) : M7 := put7 (fun e => !(mh7 a e.1)) (bothB f a) b (put7 (fun _ => true) (bothA f b) a [])
def joinF7 (x y _ _ : Bool) : Bool := x || y
def unionF7 (x y _ _ : Bool) : Bool := x && y
def leftF7 (x _ inA _ : Bool) : Bool := inA && x
def oneA (o : Op) (e : B × RowE [.bool]) : Bool := e.2.1 && !(decide (o.1 = 9) && o.2.2.2.2.2.2.1)
def oneS (o : Op) (a : M7) : M7 := let m := put7 (fun _ => true) (oneA o) a []
  if o.1 = 8 then mput .str [.bool] m o.2.2.2.2.2.1 (false, ()) else m
def twoS (o : Op) (a b : M7) : M7 := if o.1 = 3 then bothS joinF7 a b else if o.1 = 4 then bothS unionF7 a b else if o.1 = 5 then bothS leftF7 a b else a
/-- A leaf: of its patterns each variable, of its table each column. -/
def leafV (l : List (RowE [.str])) (m : M7) : M7 := l.foldl (fun m v => mput .str [.bool] m v.1 (true, ())) m
def leafT (l : List (RowE t9S)) (m : M7) : M7 := l.foldl (fun m t => leafV (varsS t) m) m
def full (rows : List (RowE [.sl [.int .i64, .str, .str, .str]])) (i : Nat) : Bool := rows.all fun r => !(decide ((getR [.int .i64, .str, .str, .str] r.1 (i : Int)).1 = 0))
def leafC (rows : List (RowE [.sl [.int .i64, .str, .str, .str]])) : Nat → List (RowE [.str]) → M7 → M7
  | _, [], m => m
  | i, v :: vs, m => leafC rows (i + 1) vs (mput .str [.bool] m v.1 (full rows i, ()))
def leafS (o : Op) : M7 := leafC o.2.2.2.1 0 o.2.2.1 (leafT o.2.1 [])
theorem srt_put7 (p f) : ∀ (l m : M7), Srt7 m → Srt7 (put7 p f l m) := fun l m h => srt_putIf (k := .str) (es := [.bool]) (fs := [.bool]) rfl p _ l m h
theorem srt_mput7 {m : M7} (h : Srt7 m) (k : B) (v : RowE [.bool]) : Srt7 (mput .str [.bool] m k v) := srt_mput rfl h k v
theorem srt_both (f) (a b : M7) : Srt7 (bothS f a b) := srt_put7 _ _ _ _ (srt_put7 _ _ _ _ srt_nil)
theorem srt_one (o) (a : M7) : Srt7 (oneS o a) := by
  unfold oneS
  dsimp only
  split
  · exact srt_mput7 (srt_put7 _ _ _ _ srt_nil) _ _
  · exact srt_put7 _ _ _ _ srt_nil
theorem srt_two (o) (a b : M7) (h : Srt7 a) : Srt7 (twoS o a b) := by
  unfold twoS
  split
  · exact srt_both _ _ _
  · split
    · exact srt_both _ _ _
    · split
      · exact srt_both _ _ _
      · exact h
theorem srt_leafV : ∀ (l : List (RowE [.str])) (m : M7), Srt7 m → Srt7 (leafV l m)
  | [], m, h => h
  | v :: l, m, h => srt_leafV l _ (srt_mput7 h _ _)
theorem srt_leafT : ∀ (l : List (RowE t9S)) (m : M7), Srt7 m → Srt7 (leafT l m)
  | [], m, h => h
  | v :: l, m, h => srt_leafT l _ (srt_leafV _ _ h)
theorem srt_leafC (rows) : ∀ (l : List (RowE [.str])) (i : Nat) (m : M7), Srt7 m → Srt7 (leafC rows i l m)
  | [], i, m, h => h
  | v :: l, i, m, h => srt_leafC rows l _ _ (srt_mput7 h _ _)
theorem srt_leaf (o : Op) : Srt7 (leafS o) := srt_leafC _ _ _ _ (srt_leafT _ _ srt_nil)
/-- One of the entries that are left is put first. -/
theorem put7_step (p f) {l m : M7} (hn : (l.map Prod.fst).Nodup) (hm : Srt7 m) {i : Nat} {x : B × RowE [.bool]} (hx : l[i]? = some x) : put7 p f (l.eraseIdx i) (if p x then mput .str [.bool] m x.1 (f x, ()) else m) = put7 p f l m :=
  putIf_erase (k := .str) (es := [.bool]) (fs := [.bool]) rfl p _ hn hm hx
theorem lk_mput7 (m : M7) (k : B) (v : RowE [.bool]) (q : B) [Decidable (q = k)] : look .str [.bool] (mput .str [.bool] m k v) q = if q = k then some v else look .str [.bool] m q := by
  have := look_mput (k := .str) (es := [.bool]) rfl m k v q
  rw [this]
  by_cases e : q = k
  · rw [if_pos e, if_pos e]
  · rw [if_neg e, if_neg e]
theorem mg7_look (m : M7) (k : B) : mg7 m k = ((look .str [.bool] m k).getD (false, ())).1 := by unfold mg7; rw [mget_look]; rfl
theorem mh7_look (m : M7) (k : B) : mh7 m k = (look .str [.bool] m k).isSome := mhas_look (k := .str) (es := [.bool]) m k
theorem mg7_mput (m : M7) (k : B) (c : Bool) : mg7 (mput .str [.bool] m k (c, ())) k = c := by rw [mg7_look, lk_mput7, if_pos rfl]; rfl
theorem mh7_mput (m : M7) (k : B) (c : RowE [.bool]) : mh7 (mput .str [.bool] m k c) k = true := by rw [mh7_look, lk_mput7, if_pos rfl]; rfl
theorem ext7 {m m' : M7} (h : Srt7 m) (h' : Srt7 m') (e : ∀ q, look .str [.bool] m q = look .str [.bool] m' q) : m = m' := srt_ext (k := .str) (es := [.bool]) rfl h h' e
theorem mput_self {m : M7} (h : Srt7 m) {k : B} (hk : mh7 m k = true) : mput .str [.bool] m k (mg7 m k, ()) = m := by
  refine ext7 (srt_mput7 h _ _) h fun q => ?_
  rw [lk_mput7]
  by_cases e : q = k
  · subst e
    rw [if_pos rfl]
    rw [mh7_look] at hk
    cases hl : look .str [.bool] m q with
    | none => rw [hl] at hk; cases hk
    | some v => rw [mg7_look, hl]; rfl
  · rw [if_neg e]
theorem mput_twice {m : M7} (h : Srt7 m) (k : B) (x y : RowE [.bool]) : mput .str [.bool] (mput .str [.bool] m k x) k y = mput .str [.bool] m k y := by
  refine ext7 (srt_mput7 (srt_mput7 h _ _) _ _) (srt_mput7 h _ _) fun q => ?_
  rw [lk_mput7, lk_mput7, lk_mput7]
  by_cases e : q = k
  · rw [if_pos e, if_pos e]
  · rw [if_neg e, if_neg e, if_neg e]
end Go.Proofs.Ytfpojhphmgnfhaa.Sp
