/- Part of a proof of the seat's statements: no statement by itself. -/
import Derived.Test.YtfafmpiajlgojaaDoorLgC3
namespace Go.Proofs.YtfafmpiajlgojaaDoor.Lg
open Go
section
variable {R : Type} {T : Tab} {E : CallE}

theorem br_bind {A : Type} (b : Bool) (x y : Option A) (K : A → Option R) : (br b x y).bind K = br b (x.bind K) (y.bind K) := by cases b <;> rfl
theorem chk_bind {A : Type} (p : Prop) (x : Option A) (K : A → Option R) : (chk p x).bind K = chk p (x.bind K) := by unfold chk; split <;> rfl
theorem bif_bind {A : Type} (b : Bool) (x y : Option A) (K : A → Option R) : (bif b then x else y).bind K = bif b then x.bind K else y.bind K := by cases b <;> rfl
theorem withT_bind {A : Type} (t : Nat) (k : TI → Option A) (K : A → Option R) : (withT t T k).bind K = withT t T fun i => (k i).bind K := by unfold withT; split <;> rfl
theorem brP_bind {A : Type} (p : Prop) (x y : Option A) (K : A → Option R) : (brP p x y).bind K = brP p (x.bind K) (y.bind K) := by unfold brP; split <;> rfl
theorem Tr.run_bind {α A : Type} {k : α → Option A} {K : A → Option R} : ∀ t : Tr α, (t.run k).bind K = t.run fun x => (k x).bind K
  | .none => rfl
  | .leaf a => rfl
  | .br b x y => by simp only [Tr.run, br_bind, Tr.run_bind x, Tr.run_bind y]
  | .chk p x => by simp only [Tr.run, chk_bind, Tr.run_bind x]
  | .brP p x y => by simp only [Tr.run, brP_bind, Tr.run_bind x, Tr.run_bind y]
theorem binI_bind {A : Type} (op : BinOp) (k : IntKind) (a b : Int) (g : AV → Option A) (K : A → Option R) : (binI op k a b g).bind K = binI op k a b fun v => (g v).bind K := by
  cases op <;> simp only [binI, chk_bind] <;> rfl
theorem binS_bind {A : Type} (op : BinOp) (a b : List UInt8) (g : AV → Option A) (K : A → Option R) : (binS op a b g).bind K = binS op a b fun v => (g v).bind K := by
  cases op <;> simp only [binS, chk_bind] <;> rfl
theorem ite_bind' {A : Type} (p : Prop) [Decidable p] (x y : Option A) (K : A → Option R) : (if p then x else y).bind K = if p then x.bind K else y.bind K := by split <;> rfl
theorem binV_bind {A : Type} (xt : Nat) (op : BinOp) (x y : AV) (g : AV → Option A) (K : A → Option R) : (binV T xt op x y g).bind K = binV T xt op x y fun v => (g v).bind K := by
  unfold binV
  split
  · rw [ite_bind', binI_bind]; rfl
  · rw [binS_bind]
  · rw [withT_bind]
    congr 1; funext i
    split <;> rfl
  · rw [withT_bind]
    congr 1; funext i
    rw [bif_bind]
    congr 1
    split <;> rfl
  · rfl
theorem evSlice_bind {A : Type} (x : AV) (lo hi : Option AV) (g : AV → Option A) (K : A → Option R) : (evSlice x lo hi g).bind K = evSlice x lo hi fun v => (g v).bind K := by
  unfold evSlice
  split <;> first | rfl | rw [chk_bind]


theorem evOp_bind (o : Oper) (fr : Fr) (hp : pureOp o.op = true) (K : Fr → Option R) : (evOp T E o fr some).bind K = evOp T E o fr K := by
  cases ho : o.op with
  | move x =>
    simp only [evOp, ho]
    repeat' (first | rfl | (rw [withT_bind]; congr 1; funext i) | rw [bif_bind] | rw [br_bind] | rw [chk_bind] | rw [binV_bind] | rw [evSlice_bind] | rw [Tr.run_bind] | split)
    all_goals simp_all [withT_bind]
  | assign x =>
    simp only [evOp, ho]
    repeat' (first | rfl | (rw [withT_bind]; congr 1; funext i) | rw [bif_bind] | rw [br_bind] | rw [chk_bind] | rw [binV_bind] | rw [evSlice_bind] | rw [Tr.run_bind] | split)
    all_goals simp_all [withT_bind]
  | pick c a b =>
    simp only [evOp, ho]
    repeat' (first | rfl | (rw [withT_bind]; congr 1; funext i) | rw [bif_bind] | rw [br_bind] | rw [chk_bind] | rw [binV_bind] | rw [evSlice_bind] | rw [Tr.run_bind] | split)
    all_goals simp_all [withT_bind]
  | alloc t =>
    simp only [evOp, ho]
    repeat' (first | rfl | (rw [withT_bind]; congr 1; funext i) | rw [bif_bind] | rw [br_bind] | rw [chk_bind] | rw [binV_bind] | rw [evSlice_bind] | rw [Tr.run_bind] | split)
    all_goals simp_all [withT_bind]
  | box t x =>
    simp only [evOp, ho]
    repeat' (first | rfl | (rw [withT_bind]; congr 1; funext i) | rw [bif_bind] | rw [br_bind] | rw [chk_bind] | rw [binV_bind] | rw [evSlice_bind] | rw [Tr.run_bind] | split)
    all_goals simp_all [withT_bind]
  | build t ps =>
    simp only [evOp, ho]
    repeat' (first | rfl | (rw [withT_bind]; congr 1; funext i) | rw [bif_bind] | rw [br_bind] | rw [chk_bind] | rw [binV_bind] | rw [evSlice_bind] | rw [Tr.run_bind] | split)
    all_goals simp_all [withT_bind]
  | buildSlice t n ps =>
    simp only [evOp, ho]
    repeat' (first | rfl | (rw [withT_bind]; congr 1; funext i) | rw [bif_bind] | rw [br_bind] | rw [chk_bind] | rw [binV_bind] | rw [evSlice_bind] | rw [Tr.run_bind] | split)
    all_goals simp_all [withT_bind]
  | load t a =>
    simp only [evOp, ho]
    repeat' (first | rfl | (rw [withT_bind]; congr 1; funext i) | rw [bif_bind] | rw [br_bind] | rw [chk_bind] | rw [binV_bind] | rw [evSlice_bind] | rw [Tr.run_bind] | split)
    all_goals simp_all [withT_bind]
  | store t a x =>
    simp only [evOp, ho]
    rw [bif_bind]
    congr 1
    rw [withT_bind]; congr 1; funext i
    repeat' (first | rfl | rw [bif_bind] | split)
    all_goals simp_all [bif_bind]
  | nilCheck x =>
    simp only [evOp, ho]
    repeat' (first | rfl | (rw [withT_bind]; congr 1; funext i) | rw [bif_bind] | rw [br_bind] | rw [chk_bind] | rw [binV_bind] | rw [evSlice_bind] | rw [Tr.run_bind] | split)
    all_goals simp_all [withT_bind]
  | binOp u t x y z =>
    simp only [evOp, ho]
    repeat' (first | rfl | (rw [withT_bind]; congr 1; funext i) | rw [bif_bind] | rw [br_bind] | rw [chk_bind] | rw [binV_bind] | rw [evSlice_bind] | rw [Tr.run_bind] | split)
    all_goals simp_all [withT_bind]
  | unOp u t x =>
    simp only [evOp, ho]
    repeat' (first | rfl | (rw [withT_bind]; congr 1; funext i) | rw [bif_bind] | rw [br_bind] | rw [chk_bind] | rw [binV_bind] | rw [evSlice_bind] | rw [Tr.run_bind] | split)
    all_goals simp_all [withT_bind]
  | convert u t x =>
    simp only [evOp, ho]
    repeat' (first | rfl | (rw [withT_bind]; congr 1; funext i) | rw [bif_bind] | rw [br_bind] | rw [chk_bind] | rw [binV_bind] | rw [evSlice_bind] | rw [Tr.run_bind] | split)
    all_goals simp_all [withT_bind]
  | slice t x lo hi mx => cases mx with
    | none =>
      simp only [evOp, ho]
      rw [withT_bind]; congr 1; funext i
      split
      · rw [bif_bind, evSlice_bind]; rfl
      · rfl
    | some m => simp [evOp, ho]
  | fieldAddr t x f =>
    simp only [evOp, ho]
    repeat' (first | rfl | (rw [withT_bind]; congr 1; funext i) | rw [bif_bind] | rw [br_bind] | rw [chk_bind] | rw [binV_bind] | rw [evSlice_bind] | rw [Tr.run_bind] | split)
    all_goals simp_all [withT_bind]
  | field t x f =>
    simp only [evOp, ho]
    repeat' (first | rfl | (rw [withT_bind]; congr 1; funext i) | rw [bif_bind] | rw [br_bind] | rw [chk_bind] | rw [binV_bind] | rw [evSlice_bind] | rw [Tr.run_bind] | split)
    all_goals simp_all [withT_bind]
  | indexAddr t x y =>
    simp only [evOp, ho]
    repeat' (first | rfl | (rw [withT_bind]; congr 1; funext i) | rw [bif_bind] | rw [br_bind] | rw [chk_bind] | rw [binV_bind] | rw [evSlice_bind] | rw [Tr.run_bind] | split)
    all_goals simp_all [withT_bind]
  | index t x y =>
    simp only [evOp, ho]
    repeat' (first | rfl | (rw [withT_bind]; congr 1; funext i) | rw [bif_bind] | rw [br_bind] | rw [chk_bind] | rw [binV_bind] | rw [evSlice_bind] | rw [Tr.run_bind] | split)
    all_goals simp_all [withT_bind]
  | extract x i =>
    simp only [evOp, ho]
    repeat' (first | rfl | (rw [withT_bind]; congr 1; funext i) | rw [bif_bind] | rw [br_bind] | rw [chk_bind] | rw [binV_bind] | rw [evSlice_bind] | rw [Tr.run_bind] | split)
    all_goals simp_all [withT_bind]
  | call c =>
    simp only [evOp, ho]
    simp only [ho, pureOp] at hp
    split
    · repeat' (first | rfl | (rw [withT_bind]; congr 1; funext i) | rw [bif_bind] | split)
      all_goals simp_all [withT_bind]
    · rename_i hc
      simp [hc] at hp
    · rename_i hc
      simp [hc] at hp
    · rename_i hc
      simp [hc] at hp
    · split
      · rw [Tr.run_bind]; rfl
      · rfl
    · split
      · rw [Tr.run_bind]; rfl
      · rfl
    · rfl
  | _ => simp [ho, pureOp] at hp

theorem evD_bind {ops : List Oper} (o : Oper) (fr : Fr) (hp : pureOp o.op = true) (K : Fr → Option R) : (evD T E ops o fr some).bind K = evD T E ops o fr K := by
  unfold evD
  split
  · split <;> rfl
  · rw [bif_bind, evOp_bind o fr hp K]; rfl
  · exact evOp_bind o fr hp K

theorem store_key {ops : List Oper} (o : Oper) (fr : Fr) {t : TypeId} {s : Nat} {x : Operand} (ho : o.op = .store t (.tmp s) x) (hp : plainStore fr s (rt ops s) x = true) (K : Fr → Option Fr)
    (hK : ∀ sv, K (dset (dstO ops o) sv fr) = some (dset (dstO ops o) sv fr)) : evOp T E o fr K = evOp T E o fr some := by
  simp only [evOp, ho]
  cases hd : o.dst with
  | some d => simp
  | none =>
    have e : dstO ops o = some (rt ops s) := by simp [dstO, hd, ho]
    rw [e] at hK
    simp only [dset] at hK
    simp only [plainStore, Bool.and_eq_true] at hp
    obtain ⟨h1, h2⟩ := hp
    split at h1
    · rename_i d off hr
      have hde : d = rt ops s := Nat.eq_of_beq_eq_true h1
      rw [← hde] at hK
      simp only [Option.isSome_none, cond_false, hr]
      congr 1; funext i
      split
      · simp at h2
      · rename_i y _
        have hg : grow fr y = none := by simpa using h2
        simp only [hg]
        split
        · cases Nat.blt _ _ <;> simp only [cond_true, cond_false, hK]
        · rfl
      · split
        · cases Nat.beq _ _
          · rfl
          · simp only [cond_true]
            cases Nat.ble _ _
            · rfl
            · simp only [cond_true, hK]
        · rfl
    · cases h1
/-- What is there of the frame stays. -/
theorem evD_shape {ops : List Oper} (o : Oper) (fr fr' : Fr) (hp : pureOp o.op = true) (h : evD T E ops o fr some = some fr') : ∃ sv, fr' = dset (dstO ops o) sv fr := by
  classical
  have key : ∀ (K : Fr → Option Fr), (∀ sv, K (dset (dstO ops o) sv fr) = some (dset (dstO ops o) sv fr)) → evD T E ops o fr K = evD T E ops o fr some := by
    intro K hK
    unfold evD
    split
    · have e : dstO ops o = o.dst := by rename_i ho; simp only [dstO, ho]; split <;> simp_all
      rw [e] at hK
      simp only [hK]
    · rename_i ho
      cases hp2 : plainStore fr _ _ _
      · rfl
      · simp only [cond_true]; exact store_key (ops := ops) o fr ho hp2 K hK
    · rename_i hna hns
      have e : dstO ops o = o.dst := by
        simp only [dstO]
        cases hd : o.dst with
        | some d => rfl
        | none => rfl
      rw [e] at hK
      cases ho : o.op with
      | store t a x =>
        cases a with
        | tmp s => exact absurd ho (hns t s x)
        | _ => exfalso; simp [ho, pureOp] at hp
      | assign x =>
        cases x with
        | tmp s => exact absurd ho (hna s)
        | const c =>
          simp only [evOp, ho, hK]
          repeat' split
          all_goals simp_all
        | _ => simp only [evOp, ho, hK]
      | call c =>
        simp only [evOp, ho]
        simp only [ho, pureOp] at hp
        split
        · simp only [hK]
        · rename_i hc; simp [hc] at hp
        · rename_i hc; simp [hc] at hp
        · rename_i hc; simp [hc] at hp
        · simp only [hK]
        · simp only [hK]
        · rfl
      | slice t x lo hi mx => cases mx <;> simp only [evOp, ho, hK]
      | _ => first | (exfalso; simp [ho, pureOp] at hp; done) | (simp only [evOp, ho, hK])
  let G : Fr → Option Fr := fun f => if ∃ sv, f = dset (dstO ops o) sv fr then some f else none
  have hG : ∀ sv, G (dset (dstO ops o) sv fr) = some (dset (dstO ops o) sv fr) := fun sv => if_pos ⟨sv, rfl⟩
  have h2 := evD_bind (T := T) (E := E) (ops := ops) o fr hp G
  rw [key G hG, h] at h2
  simp only [Option.bind_some] at h2
  by_cases e : ∃ sv, fr' = dset (dstO ops o) sv fr
  · exact e
  · have : G fr' = none := if_neg e
    rw [this] at h2; cases h2

/-- From a region's operations in the order of the text: what each tells. -/
def dsts (ops l : List Oper) : List Nat := l.filterMap (dstO ops)
def selC (W : List Nat) (fr0 : Fr) (cur : Nat → SV) (l : List Nat) : Fr :=
  let ps := l.map fun t => (t, cur t)
  (ps.filter fun x => x.2.isAl) ++ (ps.filter fun x => !x.2.isAl) ++ (ps.flatMap fun x => rootOf x.2).filterMap fun d => bif W.any (fun y => Nat.beq y d) then none else some (d, lookL d fr0)
theorem selF_eq (W : List Nat) (fr0 env : Fr) (l : List Nat) : selF W fr0 env l = selC W fr0 (curOf fr0 env) l := rfl
def OpRun (T : Tab) (E : CallE) (ops : List Oper) (W V : List Nat) (fr0 : Fr) (fin cur : Nat → SV) (o : Oper) : Prop :=
  (o.guard = none ∨ ∃ j want d, o.guard = some (j, want) ∧ dstAt ops j = some d ∧ cur d = .val (.d (.bool want))) ∧
    ∃ fr', evD T E ops o (selC W fr0 cur (looked ops o)) some = some fr' ∧ ∀ d, (dstO ops o) = some d → fin d = san W V d fr'
def OpSkip (ops : List Oper) (fin cur : Nat → SV) (o : Oper) : Prop :=
  ∃ j want d, o.guard = some (j, want) ∧ dstAt ops j = some d ∧ (cur d = .und ∨ cur d = .val (.d (.bool (!want)))) ∧ ∀ d, (dstO ops o) = some d → fin d = .und
def OpFact (T : Tab) (E : CallE) (ops : List Oper) (W V : List Nat) (fr0 : Fr) (fin cur : Nat → SV) (o : Oper) : Prop :=
  OpRun T E ops W V fr0 fin cur o ∨ OpSkip ops fin cur o

theorem lookE_cons (t d : Nat) (sv : SV) (env : Fr) : lookE t ((d, sv) :: env) = if t = d then some sv else lookE t env := by
  simp only [lookE]
  by_cases e : d = t
  · subst e; simp
  · rw [beq_false e, cond_false, if_neg (Ne.symm e)]
theorem curOf_cons (fr0 env : Fr) (t d : Nat) (sv : SV) : curOf fr0 ((d, sv) :: env) t = if t = d then sv else curOf fr0 env t := by
  unfold curOf
  rw [lookE_cons]
  by_cases e : t = d <;> simp [e]
theorem curOf_shadow (fr0 env : Fr) (d : Nat) (sv : SV) (h : curOf fr0 env d = sv) : curOf fr0 ((d, sv) :: env) = curOf fr0 env := by
  funext t
  rw [curOf_cons]
  by_cases e : t = d
  · rw [if_pos e, e, h]
  · rw [if_neg e]
theorem dsts_append (ops l m : List Oper) : dsts ops (l ++ m) = dsts ops l ++ dsts ops m := by simp [dsts]

theorem evDraw_fact {ops : List Oper} {W V : List Nat} {fr0 : Fr} {K : Fr → Option R} {r : R} : ∀ (rest : List Oper) (env : Fr), (∀ o ∈ rest, pureOp o.op = true) → evDraw T E ops W V fr0 rest env K = some r →
    ∃ (H : Nat → Nat → SV) (envF : Fr), K envF = some r ∧ H 0 = curOf fr0 env ∧ curOf fr0 envF = H rest.length ∧
      ∀ i o, rest[i]? = some o → (∀ t, dstO ops o ≠ some t → H (i + 1) t = H i t) ∧ OpFact T E ops W V fr0 (H (i + 1)) (H i) o
  | [], env, _, hev => ⟨fun _ => curOf fr0 env, env, by simpa [evDraw] using hev, rfl, rfl, by simp⟩
  | o :: rest, env, hp, hev => by
    have hpo : pureOp o.op = true := hp o List.mem_cons_self
    -- what follows from what is told behind the operation
    have fol : ∀ env1 env', curOf fr0 env1 = curOf fr0 env → env' = (match (dstO ops o) with | some d => (d, curOf fr0 env' d) :: env1 | none => env1) → evDraw T E ops W V fr0 rest env' K = some r →
        OpFact T E ops W V fr0 (curOf fr0 env') (curOf fr0 env) o →
        ∃ (H : Nat → Nat → SV) (envF : Fr), K envF = some r ∧ H 0 = curOf fr0 env ∧ curOf fr0 envF = H (o :: rest).length ∧
          ∀ i o', (o :: rest)[i]? = some o' → (∀ t, dstO ops o' ≠ some t → H (i + 1) t = H i t) ∧ OpFact T E ops W V fr0 (H (i + 1)) (H i) o' := by
      intro env1 env' h1 h2 h3 h4
      have hsame : ∀ t, (dstO ops o) ≠ some t → curOf fr0 env' t = curOf fr0 env t := by
        intro t ht
        rw [h2]
        split
        · rename_i d hd
          rw [curOf_cons, if_neg (fun e => ht (by rw [hd, e])), h1]
        · rw [h1]
      obtain ⟨H, envF, q1, q2, q3, q4⟩ := evDraw_fact rest env' (fun o ho => hp o (List.mem_cons_of_mem _ ho)) h3
      refine ⟨fun i => match i with | 0 => curOf fr0 env | i + 1 => H i, envF, q1, rfl, q3, fun i o' hi => ?_⟩
      cases i with
      | zero =>
        simp at hi; subst hi
        simp only [q2]
        exact ⟨hsame, h4⟩
      | succ i => exact q4 i o' (by simpa using hi)
    have run : ∀ env1, curOf fr0 env1 = curOf fr0 env → (o.guard = none ∨ ∃ j want d, o.guard = some (j, want) ∧ dstAt ops j = some d ∧ curOf fr0 env d = .val (.d (.bool want))) →
        evD T E ops o (selF W fr0 env1 (looked ops o)) (fun fr' => evDraw T E ops W V fr0 rest (match (dstO ops o) with | some d => (d, san W V d fr') :: env1 | none => env1) K) = some r → _ := fun env1 h1 hg h => by
      rw [← evD_bind o _ hpo] at h
      cases hfr : evD T E ops o (selF W fr0 env1 (looked ops o)) some with
      | none => rw [hfr] at h; simp at h
      | some fr' =>
        rw [hfr] at h
        simp only [Option.bind_some] at h
        refine fol env1 _ h1 ?_ h (.inl ⟨hg, fr', by rw [← h1, ← selF_eq]; exact hfr, fun d hd => ?_⟩)
        · cases hd : (dstO ops o) with
          | none => rfl
          | some d => simp only; rw [curOf_cons, if_pos rfl]
        · simp only [hd]
          rw [curOf_cons, if_pos rfl]
    have skip : ∀ env1, curOf fr0 env1 = curOf fr0 env → (∃ j want d, o.guard = some (j, want) ∧ dstAt ops j = some d ∧ (curOf fr0 env d = .und ∨ curOf fr0 env d = .val (.d (.bool (!want))))) →
        evDraw T E ops W V fr0 rest (dset (dstO ops o) .und env1) K = some r → _ := fun env1 h1 hg h => by
      refine fol env1 _ h1 ?_ h (.inr ?_)
      · cases hd : (dstO ops o) with
        | none => rfl
        | some d => simp only [dset]; rw [curOf_cons, if_pos rfl]
      · obtain ⟨j, want, d, g1, g2, g3⟩ := hg
        refine ⟨j, want, d, g1, g2, g3, fun d' hd => ?_⟩
        simp only [hd, dset]
        rw [curOf_cons, if_pos rfl]
    simp only [evDraw] at hev
    split at hev
    · rename_i hg
      exact run env rfl (.inl hg) hev
    · rename_i j want hg
      split at hev
      · rename_i d hd
        split at hev
        · rename_i hc
          exact skip env rfl ⟨j, want, d, hg, hd, .inl hc⟩ hev
        · rename_i b hc
          rcases br_some hev with ⟨hb, h⟩ | ⟨hb, h⟩
          · subst hb
            cases want
            · simp only [cond_false] at h
              exact skip _ (curOf_shadow _ _ _ _ hc) ⟨j, _, d, hg, hd, .inr hc⟩ h
            · simp only [cond_true] at h
              exact run _ (curOf_shadow _ _ _ _ hc) (.inr ⟨j, _, d, hg, hd, hc⟩) h
          · subst hb
            cases want
            · simp only [cond_false] at h
              exact run _ (curOf_shadow _ _ _ _ hc) (.inr ⟨j, _, d, hg, hd, hc⟩) h
            · simp only [cond_true] at h
              exact skip _ (curOf_shadow _ _ _ _ hc) ⟨j, _, d, hg, hd, .inr hc⟩ h
        · cases hev
      · cases hev
end
end Go.Proofs.YtfafmpiajlgojaaDoor.Lg
