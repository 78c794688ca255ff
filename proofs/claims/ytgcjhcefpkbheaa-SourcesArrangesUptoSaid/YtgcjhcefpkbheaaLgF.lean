/- Part of a proof of the seat's statements: no statement by itself. -/
import Derived.Test.YtgcjhcefpkbheaaLgE2
namespace Go.Proofs.Ytgcjhcefpkbheaa.Lg
open Go

/-! ### Trees that lead somewhere -/
theorem Tr.run_out {α R : Type} {K : α → Option R} {x : α} : ∀ {t : Tr α}, t.Out x → t.run K = K x
  | .none, h => h.elim
  | .leaf a, h => by cases h; rfl
  | .br b s t, h => by
    rcases h with ⟨hb, h⟩ | ⟨hb, h⟩
    · subst hb; show s.run K = K x; exact Tr.run_out h
    · subst hb; show t.run K = K x; exact Tr.run_out h
  | .chk p t, h => by
    simp only [Tr.run, Lg.chk]; rw [if_pos h.1]; exact Tr.run_out h.2
  | .brP p s t, h => by
    simp only [Tr.run, Lg.brP]
    rcases h with ⟨hb, h⟩ | ⟨hb, h⟩
    · rw [if_pos hb]; exact Tr.run_out h
    · rw [if_neg hb]; exact Tr.run_out h
theorem Out_brP {α : Type} {p : Prop} {s t : Tr α} {x : α} (h : (Tr.brP p s t).Out x) : (p ∧ s.Out x) ∨ (¬ p ∧ t.Out x) := h
theorem Out_pos {α : Type} {p : Prop} {s t : Tr α} {x : α} (hp : p) (h : (Tr.brP p s t).Out x) : s.Out x := h.elim (fun h => h.2) (fun h => absurd hp h.1)
theorem Out_neg {α : Type} {p : Prop} {s t : Tr α} {x : α} (hp : ¬ p) (h : (Tr.brP p s t).Out x) : t.Out x := h.elim (fun h => absurd h.1 hp) (fun h => h.2)
theorem Out_tt {α : Type} {s t : Tr α} {x : α} (h : (Tr.br true s t).Out x) : s.Out x := h.elim (fun h => h.2) (fun h => by cases h.1)
theorem Out_ff {α : Type} {s t : Tr α} {x : α} (h : (Tr.br false s t).Out x) : t.Out x := h.elim (fun h => by cases h.1) (fun h => h.2)
theorem brT {R : Type} (x y : Option R) : Lg.br true x y = x := rfl
theorem brF {R : Type} (x y : Option R) : Lg.br false x y = y := rfl
def Leads {R : Type} (o : Option R) (Q : R → Prop) : Prop := ∃ x, o = some x ∧ Q x
section
variable {R : Type} {x y : Option R} {Q : R → Prop}
theorem Leads.br {b : Bool} (h : b = true → Leads x Q) (k : b = false → Leads y Q) : Leads (Lg.br b x y) Q := by
  cases b
  · exact k rfl
  · exact h rfl
theorem Leads.brD {p : Prop} [Decidable p] (h : p → Leads x Q) (k : ¬ p → Leads y Q) : Leads (Lg.br (decide p) x y) Q :=
  Leads.br (fun q => h (of_decide_eq_true q)) (fun q => k (of_decide_eq_false q))
theorem Leads.brE {α : Type} [BEq α] [LawfulBEq α] {a b : α} (h : a = b → Leads x Q) (k : ¬ a = b → Leads y Q) : Leads (Lg.br (a == b) x y) Q :=
  Leads.br (fun q => h (eq_of_beq q)) (fun q => k (ne_of_beq_false q))
theorem Leads.brN {α : Type} [BEq α] [LawfulBEq α] {a b : α} (h : a = b → Leads y Q) (k : ¬ a = b → Leads x Q) : Leads (Lg.br (a != b) x y) Q :=
  Leads.br (fun q => k (by simpa using q)) (fun q => h (by simpa using q))
theorem Leads.brM {α : Type} [BEq α] [LawfulBEq α] {a b : α} (h : a = b → Leads y Q) (k : ¬ a = b → Leads x Q) : Leads (Lg.br (!(a == b)) x y) Q :=
  Leads.br (fun q => k (by simpa using q)) (fun q => h (by simpa using q))
theorem Leads.brG {b : Bool} (h : b = true → Leads y Q) (k : b = false → Leads x Q) : Leads (Lg.br (!b) x y) Q :=
  Leads.br (fun q => k (by simpa using q)) (fun q => h (by simpa using q))
theorem Leads.brP {p : Prop} (h : p → Leads x Q) (k : ¬ p → Leads y Q) : Leads (Lg.brP p x y) Q := by
  unfold Lg.brP
  by_cases hp : p
  · rw [if_pos hp]; exact h hp
  · rw [if_neg hp]; exact k hp
theorem Leads.chk {p : Prop} (h : p) (k : p → Leads x Q) : Leads (Lg.chk p x) Q := by
  unfold Lg.chk; rw [if_pos h]; exact k h
theorem Leads.one {a : R} (h : Q a) : Leads (some a) Q := ⟨a, rfl, h⟩
theorem Leads.eq {o : Option R} {a : R} (h : Leads o fun z => z = a) : o = some a := by
  obtain ⟨z, h1, h2⟩ := h
  rw [h1, h2]
theorem Leads.of_eq {o o' : Option R} (e : o = o') (h : Leads o' Q) : Leads o Q := e ▸ h
end

section
variable {T : Tab} {E : CallS} {LT : Nat → Option LoopS} {c : Code} {ls : LoopS}
/-- A loop's rounds: each one ends as told, or comes nearer to the end. -/
def Goes (ks : List SK) (G : St ks → Tr (Ex × List SV)) (ok : St ks → Prop) (μ : St ks → Nat) (r : St ks) (x : Ex × List SV) : Rnd → Prop
  | .out e us => x = (e, us)
  | .again vs => ∃ r', vs = St.svs ks r' ∧ ok r' ∧ μ r' < μ r ∧ (G r').Out x
theorem loop_by {ks : List SK} {G : St ks → Tr (Ex × List SV)} (ok : St ks → Prop) (μ : St ks → Nat)
    (h : ∀ r x, ok r → (G r).Out x → Leads (evRound T E LT c ls (St.svs ks r)) (Goes ks G ok μ r x)) :
    ∀ r x, ok r → (G r).Out x → Ends T E LT c ls (St.svs ks r) x := by
  have key : ∀ (n : Nat) r x, μ r ≤ n → ok r → (G r).Out x → Ends T E LT c ls (St.svs ks r) x := by
    intro n
    induction n with
    | zero =>
      intro r x hn ho hx
      obtain ⟨rnd, h1, h2⟩ := h r x ho hx
      cases rnd with
      | out e us => obtain rfl : x = (e, us) := h2; exact Ends.out h1
      | again vs => obtain ⟨r', _, _, hlt, _⟩ := h2; omega
    | succ n ih =>
      intro r x hn ho hx
      obtain ⟨rnd, h1, h2⟩ := h r x ho hx
      cases rnd with
      | out e us => obtain rfl : x = (e, us) := h2; exact Ends.out h1
      | again vs =>
        obtain ⟨r', rfl, ho', hlt, hx'⟩ := h2
        exact Ends.again h1 (ih r' x (by omega) ho' hx')
  exact fun r x => key (μ r) r x (Nat.le_refl _)
/-- A loop that tells less when the function returns out of it. -/
def mkR (live outs rets : List Nat) (ks : List SK) (f : St ks → Tr (Ex × List SV)) : LoopS := { live := live, outs := outs, rets := rets, f := fun vs => match St.of ks vs with | some r => f r | none => .none }
theorem loopOKR {live outs rets : List Nat} {ks : List SK} {f : St ks → Tr (Ex × List SV)} (hk : LT (key c) = some (mkR live outs rets ks f)) (h : ∀ (r : St ks) (x : Ex × List SV), (f r).Out x → Ends T E LT c (mkR live outs rets ks f) (St.svs ks r) x) : LoopOK T E LT c := by
  intro ls hls
  rw [hk] at hls
  simp at hls; subst hls
  refine ⟨fun vs x hx => ?_, fun fm h => by simp [mkR] at h⟩
  simp only [mkR] at hx
  split at hx
  · rename_i r hr
    rw [St.of_eq ks vs r hr]
    exact h r x hx
  · exact hx.elim
theorem loop_ok {live outs rets : List Nat} {ks : List SK} {G : St ks → Tr (Ex × List SV)} (ok : St ks → Prop) (μ : St ks → Nat) (hk : LT (key c) = some (mkR live outs rets ks fun r => .chk (ok r) (G r)))
    (h : ∀ r x, ok r → (G r).Out x → Leads (evRound T E LT c (mkR live outs rets ks fun r => .chk (ok r) (G r)) (St.svs ks r)) (Goes ks G ok μ r x)) : LoopOK T E LT c :=
  loopOKR hk fun r x hx => loop_by ok μ h r x hx.1 hx.2
end

/-! ### Lists by their ends -/
theorem drop_cases {α : Type} (l : List α) (n : Nat) : (l.length ≤ n ∧ l.drop n = []) ∨ ∃ x, n < l.length ∧ l.drop n = x :: l.drop (n + 1) ∧ l[n]? = some x := by
  by_cases h : n < l.length
  · exact .inr ⟨l[n], h, List.drop_eq_getElem_cons h, by simp [h]⟩
  · exact .inl ⟨by omega, List.drop_of_length_le (by omega)⟩
theorem byteAt_of {s : List UInt8} {n : Nat} {b : UInt8} (h : s[n]? = some b) : byteAt s (n : Int) = (b.toNat : Nat) := by simp [byteAt, h]
theorem getR_of {es : List Sh} {l : List (RowE es)} {n : Nat} {x : RowE es} (h : l[n]? = some x) : getR es l (n : Int) = x := by simp [getR, h]
end Go.Proofs.Ytgcjhcefpkbheaa.Lg
namespace Go.Proofs.Ytgcjhcefpkbheaa.Lg
open Go
section
variable {ks : List SK} {G : St ks → Tr (Ex × List SV)} {ok : St ks → Prop} {μ : St ks → Nat} {r : St ks} {x : Ex × List SV}
theorem Goes.again {vs : List SV} (r' : St ks) (h : vs = St.svs ks r') (h1 : ok r') (h2 : μ r' < μ r) (h3 : (G r').Out x) : Goes ks G ok μ r x (.again vs) := ⟨r', h, h1, h2, h3⟩
theorem Goes.out {e : Ex} {us : List SV} (h : x = (e, us)) : Goes ks G ok μ r x (.out e us) := h
end
theorem toNat_add1 (m : Nat) : ((m : Int) + 1).toNat = m + 1 := by omega
theorem toNat_add2 (m : Nat) : ((m : Int) + 2).toNat = m + 2 := by omega
theorem cast_add1 (m : Nat) : ((m : Int) + 1) = ((m + 1 : Nat) : Int) := by omega
end Go.Proofs.Ytgcjhcefpkbheaa.Lg
namespace Go.Proofs.Ytgcjhcefpkbheaa.Lg
open Go
/-- A loop that is gone through round by round, at most so many. -/
def mkU (n : Nat) : LoopS := { live := [], outs := [], f := fun _ => .none, unr := n }
theorem loopU {T : Tab} {E : CallS} {LT : Nat → Option LoopS} {c : Code} {n : Nat} (hk : LT (key c) = some (mkU n)) : LoopOK T E LT c := by
  intro ls hls
  rw [hk] at hls
  simp at hls; subst hls
  exact ⟨fun vs x hx => hx.elim, fun fm h => by simp [mkU] at h⟩
end Go.Proofs.Ytgcjhcefpkbheaa.Lg
namespace Go.Proofs.Ytgcjhcefpkbheaa.Lg
open Go
theorem loopsN {T : Tab} {E : CallS} {LT : Nat → Option LoopS} {c : Code} {bs : List Code} (h : loops c = bs) (k : ∀ b ∈ bs, LoopOK T E LT b) : LoopsOK T E LT c := loopsOK_of c fun b hb => k b (h ▸ hb)
theorem loops3 {T : Tab} {E : CallS} {LT : Nat → Option LoopS} {c b b' b2 : Code} (h : loops c = [b, b', b2]) (k : LoopOK T E LT b) (k' : LoopOK T E LT b') (k2 : LoopOK T E LT b2) : LoopsOK T E LT c :=
  loopsN h fun x hx => by simp at hx; rcases hx with rfl | rfl | rfl <;> assumption
theorem loops4 {T : Tab} {E : CallS} {LT : Nat → Option LoopS} {c b b' b2 b3 : Code} (h : loops c = [b, b', b2, b3]) (k : LoopOK T E LT b) (k' : LoopOK T E LT b') (k2 : LoopOK T E LT b2) (k3 : LoopOK T E LT b3) : LoopsOK T E LT c :=
  loopsN h fun x hx => by simp at hx; rcases hx with rfl | rfl | rfl | rfl <;> assumption
theorem loops5 {T : Tab} {E : CallS} {LT : Nat → Option LoopS} {c b b' b2 b3 b4 : Code} (h : loops c = [b, b', b2, b3, b4]) (k : LoopOK T E LT b) (k' : LoopOK T E LT b') (k2 : LoopOK T E LT b2) (k3 : LoopOK T E LT b3) (k4 : LoopOK T E LT b4) : LoopsOK T E LT c :=
  loopsN h fun x hx => by simp at hx; rcases hx with rfl | rfl | rfl | rfl | rfl <;> assumption
end Go.Proofs.Ytgcjhcefpkbheaa.Lg
namespace Go.Proofs.Ytgcjhcefpkbheaa.Lg
open Go
/-! A function that is handed a function. -/
def mkF (pos g : Nat) (S : List AV → Tr SV) : List AV → Tr SV := fun vs => match vs[pos]? with | some (.fn g' []) => bif Nat.beq g' g then S (vs.eraseIdx pos) else .none | _ => .none
theorem insert_erase {α : Type} : ∀ (l : List α) (n : Nat) (x : α), l[n]? = some x → (l.eraseIdx n).insertIdx n x = l
  | [], n, x, h => by simp at h
  | y :: l, 0, x, h => by simp at h; subst h; rfl
  | y :: l, n + 1, x, h => by
    have := insert_erase l n x (by simpa using h)
    simp [List.eraseIdx, List.insertIdx_succ_cons, this]
theorem mkF_out {pos g : Nat} {S : List AV → Tr SV} {vs : List AV} {sv : SV} (h : (mkF pos g S vs).Out sv) : ∃ us, vs = us.insertIdx pos (.fn g []) ∧ (S us).Out sv := by
  unfold mkF at h
  split at h
  · rename_i g' hv
    cases hb : Nat.beq g' g
    · rw [hb, cond_false] at h; exact h.elim
    · rw [hb, cond_true] at h
      have := Nat.eq_of_beq_eq_true hb
      subst this
      exact ⟨vs.eraseIdx pos, (insert_erase vs pos _ hv).symm, h⟩
  · exact h.elim
def orS (S S' : List AV → Tr SV) : List AV → Tr SV := fun vs => match S vs with | .none => S' vs | t => t
theorem orS_out {S S' : List AV → Tr SV} {vs : List AV} {sv : SV} (h : (orS S S' vs).Out sv) : (S vs).Out sv ∨ (S' vs).Out sv := by
  unfold orS at h
  split at h
  · exact .inr h
  · exact .inl h
theorem sat_or {P : Program} {g : Nat} {S S' : List AV → Tr SV} (h : Sat P g S) (k : Sat P g S') : Sat P g (orS S S') :=
  ⟨h.fn, fun vs sv ho => (orS_out ho).elim (h.calls vs sv) (k.calls vs sv)⟩
theorem sat_mkF {P : Program} {T : Tab} {E : CallS} {LT : Nat → Option LoopS} {g pos gf : Nat} {fn : Func} {c : Code} {ps : List (Bool × List Sh)} {f : Rs ps → Tr SV} (hC : Cx P T) (hE : SatE P E) (hm : P.follows .mixedOrders = true)
    (hf : P.funcs[g]? = some fn) (hname : (fn.name == "runtime.NumGoroutine") = false) (hb : fn.body = some c) (hwr : (wr c).all (fun d => Nat.blt d fn.ntmps) = true)
    (hev : ∀ rs sv, (f rs).Out sv → evF T E LT fn ((Rs.avs ps rs).insertIdx pos (.fn gf [])) = some sv) (hl : LoopsOK T E LT c) : Sat P g (mkF pos gf (mkS ps f)) :=
  sat_of hC hE hm hf hname hb hwr (fun vs sv h => by obtain ⟨us, hu, h1⟩ := mkF_out h; obtain ⟨rs, hv, h'⟩ := mkS_out h1; subst hu; subst hv; exact hev rs sv h') hl
end Go.Proofs.Ytgcjhcefpkbheaa.Lg
namespace Go.Proofs.Ytgcjhcefpkbheaa.Lg
open Go
/-! Functions that are handed variables, or slices of their own. -/
def mkO (own : List Bool) (ks : List SK) (f : St ks → Tr (SV × List SV)) : OSpec := ⟨own, fun vs => match St.of ks vs with | some r => f r | none => .none⟩
theorem mkO_out {own : List Bool} {ks : List SK} {f : St ks → Tr (SV × List SV)} {vs : List SV} {x : SV × List SV} (h : ((mkO own ks f).f vs).Out x) : ∃ r, vs = St.svs ks r ∧ (f r).Out x := by
  simp only [mkO] at h
  split at h
  · rename_i r hr; exact ⟨r, St.of_eq ks vs r hr, h⟩
  · exact h.elim
theorem sat_mkO {P : Program} {T : Tab} {E : CallS} {LT : Nat → Option LoopS} {g : Nat} {fn : Func} {c : Code} {own : List Bool} {ks : List SK} {f : St ks → Tr (SV × List SV)} (hC : Cx P T) (hE : SatE P E) (hm : P.follows .mixedOrders = true)
    (hf : P.funcs[g]? = some fn) (hname : (fn.name == "runtime.NumGoroutine") = false) (hb : fn.body = some c) (hwr : (wr c).all (fun d => Nat.blt d fn.ntmps) = true)
    (hev : ∀ r x, (f r).Out x → evFO T E LT fn (St.svs ks r) = some x) (hl : LoopsOK T E LT c) : SatO P g (mkO own ks f) :=
  sat_ofO hC hE hm hf hname hb hwr (fun args sv outs h => by obtain ⟨r, hr, h'⟩ := mkO_out h; subst hr; exact hev r (sv, outs) h') hl
end Go.Proofs.Ytgcjhcefpkbheaa.Lg
namespace Go.Proofs.Ytgcjhcefpkbheaa.Lg
open Go
/-! Loops over maps. -/
theorem Leads.any {R : Type} {n : Nat} {f : Nat → Option R} {z : R} (h0 : 0 < n) (h : ∀ i, i < n → Leads (f i) fun x => x = z) : Leads (anyN n f) fun x => x = z :=
  ⟨z, anyN_mk h0 fun i hi => (h i hi).eq, rfl⟩
theorem Leads.is {R : Type} {o : Option R} {z : R} (h : o = some z) : Leads o fun x => x = z := ⟨z, h, rfl⟩
/-- A loop over a map, by what it comes to from each state. -/
def mkM (live outs rets : List Nat) (ks : List SK) (f : St ks → Tr MR) : LoopS := { live := live, outs := outs, rets := rets, f := fun _ => .none, fm := some fun vs => match St.of ks vs with | some r => f r | none => .none }
section
variable {T : Tab} {E : CallS} {LT : Nat → Option LoopS} {c : Code}
theorem loop_okM {live outs rets : List Nat} {ks : List SK} {G : St ks → MR} (ok : St ks → Prop) (μ : St ks → Nat) (hk : LT (key c) = some (mkM live outs rets ks fun r => .chk (ok r) (.leaf (G r))))
    (h : ∀ (R : Type) (K : Ex → List SV → Option R) (A : List SV → Option R) (z : R) (r : St ks), ok r → (∀ r', ok r' → μ r' + 1 = μ r → (G r').run (fun x => K x.1 x.2) = some z → A (St.svs ks r') = some z) →
      (G r).run (fun x => K x.1 x.2) = some z → evRoundK T E LT c (mkM live outs rets ks fun r => .chk (ok r) (.leaf (G r))) (St.svs ks r) K A = some z) : LoopOK T E LT c := by
  intro ls hls
  rw [hk] at hls
  simp at hls; subst hls
  refine ⟨fun vs x hx => hx.elim, fun fm hfm R vs K z hz => ?_⟩
  simp only [mkM, Option.some.injEq] at hfm; subst hfm
  unfold runM at hz
  obtain ⟨p, hp, hz⟩ := Tr.run_some hz
  dsimp only at hp
  split at hp
  · rename_i r hr
    rw [St.of_eq ks vs r hr]
    obtain ⟨ho, rfl⟩ := hp
    have key : ∀ (n : Nat) (r : St ks), μ r ≤ n → ok r → (G r).run (fun x => K x.1 x.2) = some z → iterK T E LT c (mkM live outs rets ks fun r => .chk (ok r) (.leaf (G r))) (μ r + 1) (St.svs ks r) K = some z := by
      intro n
      induction n with
      | zero => intro r hn ho hz; exact h R K _ z r ho (fun r' _ hm _ => by omega) hz
      | succ n ih => intro r hn ho hz; exact h R K _ z r ho (fun r' ho' hm hz' => by rw [← hm]; exact ih r' (by omega) ho' hz') hz
    exact ⟨_, key _ r (Nat.le_refl _) ho hz⟩
  · exact hp.elim
end
end Go.Proofs.Ytgcjhcefpkbheaa.Lg
