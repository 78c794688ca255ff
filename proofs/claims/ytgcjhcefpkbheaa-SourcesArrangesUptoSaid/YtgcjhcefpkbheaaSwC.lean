/- Chapter 20, plain: points, checks, arrangements. -/
import Derived.Test.YtgcjhcefpkbheaaSwB
namespace Go.Proofs.Ytgcjhcefpkbheaa.Sp
open Go.Proofs.Ytgcjhcefpkbheaa.Lg Go
def inR (l : List T3) (i : Nt) : Bool := decide (0 ≤ (i.1 : Int)) && decide ((i.1 : Int) < l.length)
def okGr (l : List T3) (g : Gr) : Bool := (g.1 : List Nt).all (inR l)
def checkP (l : List T3) (gs : List Gr) : Int := bif l.all pat && gs.all (okGr l) then 0 else 2
abbrev An := RowE [.sl [.bool]]
def trueAt : List (RowE [.bool]) → Int → List Nt
  | [], _ => []
  | x :: r, i => (bif (x.1 : Bool) then [((i, ()) : Nt)] else []) ++ trueAt r (i + 1)
def lenIs (n : Int) (x : An) : Bool := decide (((x.1 : List (RowE [.bool])).length : Int) = n)
def rowP (x : An) : Pt := (trueAt x.1 0, ())
def pointsP (ans : List An) (n : Int) : List Pt × Int := if n < 0 ∨ n > 8 then ([], 1) else bif ans.all (lenIs n) then (ans.map rowP, 0) else ([], 2)
abbrev opqS : List Sh := [.int .i64, .sl [.int .i64, .str, .str, .str, .int .i64, .str, .str, .str, .int .i64, .str, .str, .str], .sl [.str], .sl [.sl [.int .i64, .str, .str, .str]], .sl [.int .i64, .int .i64, .str, .str, .str, .str, .int .i64], .str, .bool]
abbrev qyS : List Sh := [.bool, .bool, .sl [.str], .sl [.int .i64, .str, .str], .bool, .sl [.str], .sl [.str, .bool], .int .i64, .int .i64, .sl opqS]
def probeP (p : T3) : RowE qyS := bif pat p then (true, false, [], [], false, [], [], -1, 0, [((1, [p], [], [], [], [], false, ()) : RowE opqS)], ()) else RowE.dflt qyS
def ordP (n : Nat) (rev : Bool) : List Nt := (List.range n).map fun (k : Nat) => (((bif rev then (n : Int) - 1 - (k : Int) else (k : Int)), ()) : Nt)
abbrev TM := List (CE (.int .i64) × RowE [.bool])
def tkn (t : TM) (i : Int) : Bool := (mget (.int .i64) [.bool] t i).1
/-- The next one: the first that touches one ahead; else the first. -/
def pickA (l : List T3) (gs : List Gr) (out : List Gr) (t : TM) : Int → List Nt → Int
  | nx, [] => nx
  | nx, i :: r => bif tkn t i.1 then pickA l gs out t nx r else bif out.any (fun g => touchP l g (getR grS gs i.1)) then (i.1 : Int) else pickA l gs out t (if nx < 0 then (i.1 : Int) else nx) r
def arrA (l : List T3) (gs : List Gr) (ord : List Nt) : Nat → TM → List Gr → List Gr
  | 0, _, out => out
  | k + 1, t, out => arrA l gs ord k (mput (.int .i64) [.bool] t (pickA l gs out t (-1) ord) (true, ())) (out ++ [getR grS gs (pickA l gs out t (-1) ord)])
def arrangeP (l : List T3) (gs : List Gr) (rev : Bool) : List Gr := arrA l gs (ordP gs.length rev) gs.length [] []
theorem ord_step {o : List Nt} {n m : Nat} {rev : Bool} (ho : o.length = n) (hm : m < n) {v : Nt} (hv : v = (((bif rev then (n : Int) - 1 - (m : Int) else (m : Int)), ()) : Nt)) : (o.set m v).take (m + 1) ++ (ordP n rev).drop (m + 1) = o.take m ++ (ordP n rev).drop m := by
  have hl : (ordP n rev).length = n := by simp [ordP]
  rw [List.drop_eq_getElem_cons (i := m) (by omega)]
  have e : (ordP n rev)[m]'(by omega) = v := by rw [hv]; simp [ordP]
  rw [e, List.take_add_one, List.getElem?_set_self (by omega), List.take_set_of_le (by omega)]
  simp
/-- A list without doubles that lies in another one is no longer. -/
theorem nodup_sub {α : Type} [DecidableEq α] : ∀ (a b : List α), a.Nodup → (∀ x ∈ a, x ∈ b) → a.length ≤ b.length
  | [], _, _, _ => by simp
  | x :: a, b, hn, h => by
    simp only [List.nodup_cons] at hn
    have hx := h x List.mem_cons_self
    have := nodup_sub a (b.erase x) hn.2 fun y hy => (List.mem_erase_of_ne (fun e => hn.1 (by rw [← e]; exact hy))).2 (h y (List.mem_cons_of_mem _ hy))
    rw [List.length_erase_of_mem hx] at this
    have := List.length_pos_of_mem hx
    simp only [List.length_cons]; omega
theorem ord_nodup (n : Nat) (rev : Bool) : ((ordP n rev).map Prod.fst).Nodup := by
  unfold ordP
  rw [List.map_map, List.Nodup, List.pairwise_map]
  refine List.nodup_range.imp fun {a b} h e => h ?_
  cases rev
  · have e : (a : Int) = (b : Int) := e
    omega
  · have e : (n : Int) - 1 - (a : Int) = (n : Int) - 1 - (b : Int) := e
    omega
theorem ord_mem {n : Nat} {rev : Bool} {i : Nt} (h : i ∈ ordP n rev) : 0 ≤ (i.1 : Int) ∧ (i.1 : Int) < n := by
  unfold ordP at h
  obtain ⟨k, hk, rfl⟩ := List.mem_map.1 h
  have := List.mem_range.1 hk
  cases rev
  · show (0 : Int) ≤ (k : Int) ∧ (k : Int) < n
    omega
  · show (0 : Int) ≤ (n : Int) - 1 - (k : Int) ∧ (n : Int) - 1 - (k : Int) < n
    omega
theorem ord_len (n : Nat) (rev : Bool) : (ordP n rev).length = n := by simp [ordP]
theorem tkn_mem {t : TM} {i : Int} (h : tkn t i = true) : i ∈ t.map Prod.fst := by
  unfold tkn at h
  rw [mget_look] at h
  cases q : look (.int .i64) [.bool] t i with
  | none => rw [q] at h; cases h
  | some v =>
    by_cases c : i ∈ t.map Prod.fst
    · exact c
    · rw [(look_none rfl).2 c] at q; cases q
/-- What is picked is one of them that is not taken. -/
theorem pick_mem (l : List T3) (gs out : List Gr) (t : TM) : ∀ (r : List Nt) (nx : Int), pickA l gs out t nx r = nx ∨ ∃ i ∈ r, pickA l gs out t nx r = i.1 ∧ tkn t i.1 = false
  | [], nx => .inl rfl
  | i :: r, nx => by
    rw [pickA]
    cases hk : tkn t i.1
    · rw [cond_false]
      cases ha : out.any (fun g => touchP l g (getR grS gs i.1))
      · rw [cond_false]
        rcases pick_mem l gs out t r (if nx < 0 then (i.1 : Int) else nx) with h | ⟨j, hj, h⟩
        · rw [h]
          split
          · exact .inr ⟨i, List.mem_cons_self, rfl, hk⟩
          · exact .inl rfl
        · exact .inr ⟨j, List.mem_cons_of_mem _ hj, h⟩
      · rw [cond_true]; exact .inr ⟨i, List.mem_cons_self, rfl, hk⟩
    · rw [cond_true]
      rcases pick_mem l gs out t r nx with h | ⟨j, hj, h⟩
      · exact .inl h
      · exact .inr ⟨j, List.mem_cons_of_mem _ hj, h⟩
theorem pick_some (l : List T3) (gs out : List Gr) (t : TM) : ∀ (r : List Nt) (nx : Int), (∀ i ∈ r, 0 ≤ (i.1 : Int)) → ((∃ i ∈ r, tkn t i.1 = false) ∨ 0 ≤ nx) → 0 ≤ pickA l gs out t nx r
  | [], nx, _, h => by
    rcases h with ⟨i, hi, _⟩ | h
    · cases hi
    · exact h
  | i :: r, nx, h0, h => by
    have hi := h0 i List.mem_cons_self
    have h0' := fun j hj => h0 j (List.mem_cons_of_mem _ hj)
    rw [pickA]
    cases hk : tkn t i.1
    · rw [cond_false]
      cases ha : out.any (fun g => touchP l g (getR grS gs i.1))
      · rw [cond_false]
        refine pick_some l gs out t r _ h0' (.inr ?_)
        split <;> omega
      · rw [cond_true]; exact hi
    · rw [cond_true]
      refine pick_some l gs out t r nx h0' ?_
      rcases h with ⟨j, hj, hj2⟩ | h
      · rcases List.mem_cons.1 hj with rfl | hj
        · rw [hk] at hj2; cases hj2
        · exact .inl ⟨j, hj, hj2⟩
      · exact .inr h
/-- Among n there is one that is not taken, if fewer are. -/
theorem untaken {t : TM} {n : Nat} {rev : Bool} (h : t.length < n) : ∃ i ∈ ordP n rev, tkn t i.1 = false := by
  by_cases c : ∃ i ∈ ordP n rev, tkn t i.1 = false
  · exact c
  · exfalso
    have all : ∀ x ∈ (ordP n rev).map Prod.fst, x ∈ t.map Prod.fst := by
      intro x hx
      obtain ⟨i, hi, rfl⟩ := List.mem_map.1 hx
      refine tkn_mem ?_
      cases q : tkn t i.1
      · exact absurd ⟨i, hi, q⟩ c
      · rfl
    have := nodup_sub (α := Int) _ _ (ord_nodup n rev) all
    rw [List.length_map, List.length_map, ord_len] at this
    omega
theorem pick_in (l : List T3) (gs out : List Gr) {t : TM} {n : Nat} {rev : Bool} (h : t.length < n) : (∃ i ∈ ordP n rev, pickA l gs out t (-1) (ordP n rev) = i.1 ∧ tkn t i.1 = false) ∧ 0 ≤ pickA l gs out t (-1) (ordP n rev) ∧ pickA l gs out t (-1) (ordP n rev) < n := by
  have h1 := pick_some l gs out t (ordP n rev) (-1) (fun i hi => (ord_mem hi).1) (.inl (untaken h))
  rcases pick_mem l gs out t (ordP n rev) (-1) with q | ⟨i, hi, q, k⟩
  · omega
  · exact ⟨⟨i, hi, q, k⟩, h1, by rw [q]; exact (ord_mem hi).2⟩
theorem mput_lenT (t : TM) (i : Int) (v : RowE [.bool]) : (mput (.int .i64) [.bool] t i v).length ≤ t.length + 1 := by
  unfold mput
  cases mhas (.int .i64) [.bool] t i
  · rw [cond_false, (mins_perm i v t).length_eq]; simp
  · rw [cond_true]
    have := congrArg List.length (mset_keys i v t)
    simp only [List.length_map] at this
    omega
theorem getR_mem {es : List Sh} {l : List (RowE es)} {i : Int} (h0 : 0 ≤ i) (h1 : i < l.length) : getR es l i ∈ l := by
  unfold getR
  rw [List.getElem?_eq_getElem (by omega)]
  exact List.getElem_mem _
theorem checkP_eq (l : List T3) (gs : List Gr) : checkP l gs = if checkP l gs = 0 then 0 else 2 := by
  unfold checkP
  cases (l.all pat && gs.all (okGr l)) <;> rfl
end Go.Proofs.Ytgcjhcefpkbheaa.Sp
