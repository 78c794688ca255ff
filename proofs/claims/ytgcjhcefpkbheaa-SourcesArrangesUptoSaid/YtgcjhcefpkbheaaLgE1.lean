/- Part of a proof of the seat's statements: no statement by itself. -/
import Derived.Test.YtgcjhcefpkbheaaLgD1
import Derived.Lib.Bytealg
import Derived.Laws.Externs
namespace Go.Proofs.Ytgcjhcefpkbheaa.Lg
open Go
variable {Lz : PM}

/-! What is told of functions and of loops, by their values' shapes. -/
theorem ofD_eq : ∀ (e : Sh) (d : D) (x : CE e), ofD e d = some x → d = toD e x := by
  intro e d x h
  cases e <;> cases d <;> simp only [ofD] at h <;> try (cases h; done)
  · rename_i k k' n
    split at h
    · rename_i hk; subst hk; simp at h; subst h; rfl
    · cases h
  · simp at h; subst h; rfl
  · simp at h; subst h; rfl
  · rename_i es es' l
    split at h
    · rename_i hq hh; subst hq; simp at h; subst h; rfl
    · cases h
  · rename_i k b es k' b' es' m
    split at h
    · rename_i hq hh; cases hq; simp at h; subst h; rfl
    · cases h
theorem ofDs_eq : ∀ (es : List Sh) (ds : List D) (r : RowE es), ofDs es ds = some r → ds = rowD es r
  | [], [], r, h => rfl
  | e :: es, d :: ds, r, h => by
    simp only [ofDs] at h
    split at h
    · rename_i x r' h1 h2
      simp at h; subst h
      simp only [rowD]
      rw [ofD_eq e d x h1, ofDs_eq es ds r' h2]
    · cases h
  | [], _ :: _, _, h => by simp [ofDs] at h
  | _ :: _, [], _, h => by simp [ofDs] at h

theorem argOf_eq {b : Bool} {es : List Sh} {v : AV} {r : RowE es} (h : argOf b es v = some r) : v = argAV b es r := by
  cases b
  · match es, v, r, h with
    | [e], .d x, r, h =>
      simp only [argOf] at h
      split at h
      · rename_i y hy
        simp at h; subst h
        simp only [argAV]; rw [ofD_eq e x y hy]
      · cases h
    | [], _, _, h => simp [argOf] at h
    | _ :: _ :: _, .d _, _, h => simp [argOf] at h
    | [_], .agg _, _, h => simp [argOf] at h
    | [_], .tup _, _, h => simp [argOf] at h
    | [_], .fn _ _, _, h => simp [argOf] at h
    | [_], .pt _, _, h => simp [argOf] at h
    | _ :: _ :: _, .agg _, _, h => simp [argOf] at h
    | _ :: _ :: _, .tup _, _, h => simp [argOf] at h
    | _ :: _ :: _, .fn _ _, _, h => simp [argOf] at h
    | _ :: _ :: _, .pt _, _, h => simp [argOf] at h
  · cases v with
    | agg ds => simp only [argOf] at h; simp only [argAV]; rw [ofDs_eq es ds r h]
    | d x => simp [argOf] at h
    | tup l => simp [argOf] at h
    | fn g l => simp [argOf] at h
    | pt l => simp [argOf] at h
def rsOf : (ps : List (Bool × List Sh)) → List AV → Option (Rs ps)
  | [], [] => some ()
  | p :: ps, v :: vs => match argOf p.1 p.2 v, rsOf ps vs with
    | some r, some rs => some (r, rs)
    | _, _ => none
  | _, _ => none
theorem rsOf_eq : ∀ (ps : List (Bool × List Sh)) (vs : List AV) (rs : Rs ps), rsOf ps vs = some rs → vs = Rs.avs ps rs
  | [], [], _, _ => rfl
  | p :: ps, v :: vs, rs, h => by
    simp only [rsOf] at h
    split at h
    · rename_i r rs' h1 h2
      obtain rfl := Option.some.inj h
      show _ = argAV p.1 p.2 r :: Rs.avs ps rs'
      rw [← argOf_eq h1, ← rsOf_eq ps vs rs' h2]
    · cases h
  | [], _ :: _, _, h => by simp [rsOf] at h
  | _ :: _, [], _, h => by simp [rsOf] at h
/-- A function, by what it is for each arguments. -/
def mkS (ps : List (Bool × List Sh)) (f : Rs ps → Tr SV) : List AV → Tr SV := fun vs => match rsOf ps vs with | some rs => f rs | none => .none
theorem mkS_out {ps : List (Bool × List Sh)} {f : Rs ps → Tr SV} {vs : List AV} {sv : SV} (h : (mkS ps f vs).Out sv) : ∃ rs, vs = Rs.avs ps rs ∧ (f rs).Out sv := by
  unfold mkS at h
  split at h
  · rename_i rs hr; exact ⟨rs, rsOf_eq ps vs rs hr, h⟩
  · exact h.elim

/-! What is told of all functions. -/
inductive ESpec where
  | p (S : List AV → Tr SV) | o (sp : OSpec)
instance : Coe (List AV → Tr SV) ESpec := ⟨.p⟩
abbrev Es := List (Nat × ESpec)
def EnP : Es → CallE
  | [], _, _ => .none
  | (x, .p S) :: l, g, vs => bif Nat.beq x g then S vs else EnP l g vs
  | (x, .o _) :: l, g, vs => bif Nat.beq x g then .none else EnP l g vs
def EnO : Es → Nat → Option OSpec
  | [], _ => none
  | (x, .p _) :: l, g => bif Nat.beq x g then none else EnO l g
  | (x, .o sp) :: l, g => bif Nat.beq x g then some sp else EnO l g
def En (l : Es) : CallS := { p := EnP l, o := EnO l }
/-- What was asked is not asked again. -/
def Ep (l : Es) : CallS := { p := EnP l, o := EnO l, pr := true }
/-- Some slots' slices are owned whole. -/
def Eo (ow : List Nat) (pr : Bool) (l : Es) : CallS := { p := EnP l, o := EnO l, pr := pr, ow := ow }
theorem SatE.eo {P : Program} {ow : List Nat} {pr : Bool} {l : Es} (h : SatE P (En l)) : SatE P (Eo ow pr l) := h
/-- And some are told once for all. -/
def Ez (ow fz : List Nat) (pr : Bool) (l : Es) : CallS := { p := EnP l, o := EnO l, pr := pr, ow := ow, fz := fz }
theorem SatE.ez {P : Program} {ow fz : List Nat} {pr : Bool} {l : Es} (h : SatE P (En l)) : SatE P (Ez ow fz pr l) := h
theorem SatE.ep {P : Program} {l : Es} (h : SatE P (En l)) : SatE P (Ep l) := h
theorem SatE.nil {P : Program} : SatE P (En []) := ⟨fun _ => .inl fun _ => rfl, fun _ _ h => by cases h⟩
theorem SatE.cons {P : Program} {g : Nat} {S : List AV → Tr SV} {l : Es} (h : Sat P g S) (k : SatE P (En l)) : SatE P (En ((g, .p S) :: l)) := by
  refine ⟨fun g' => ?_, fun g' sp hg => ?_⟩
  · show (∀ vs, EnP _ g' vs = .none) ∨ Sat P g' (EnP _ g') ∨ SatX P g' (EnP _ g')
    by_cases e : g = g'
    · subst e
      have : EnP ((g, .p S) :: l) g = S := by funext vs; simp [EnP]
      rw [this]; exact .inr (.inl h)
    · have : EnP ((g, .p S) :: l) g' = EnP l g' := by funext vs; simp only [EnP]; rw [beq_false e, cond_false]
      rw [this]; exact k.1 g'
  · change EnO _ g' = some sp at hg
    simp only [EnO] at hg
    cases hb : Nat.beq g g'
    · rw [hb, cond_false] at hg; exact k.2 g' sp hg
    · rw [hb, cond_true] at hg; cases hg
theorem SatE.consX {P : Program} {g : Nat} {S : List AV → Tr SV} {l : Es} (h : SatX P g S) (k : SatE P (En l)) : SatE P (En ((g, .p S) :: l)) := by
  refine ⟨fun g' => ?_, fun g' sp hg => ?_⟩
  · show (∀ vs, EnP _ g' vs = .none) ∨ Sat P g' (EnP _ g') ∨ SatX P g' (EnP _ g')
    by_cases e : g = g'
    · subst e
      have : EnP ((g, .p S) :: l) g = S := by funext vs; simp [EnP]
      rw [this]; exact .inr (.inr h)
    · have : EnP ((g, .p S) :: l) g' = EnP l g' := by funext vs; simp only [EnP]; rw [beq_false e, cond_false]
      rw [this]; exact k.1 g'
  · change EnO _ g' = some sp at hg
    simp only [EnO] at hg
    cases hb : Nat.beq g g'
    · rw [hb, cond_false] at hg; exact k.2 g' sp hg
    · rw [hb, cond_true] at hg; cases hg
theorem SatE.consO {P : Program} {g : Nat} {sp : OSpec} {l : Es} (h : SatO P g sp) (k : SatE P (En l)) : SatE P (En ((g, .o sp) :: l)) := by
  refine ⟨fun g' => ?_, fun g' sp' hg => ?_⟩
  · show (∀ vs, EnP _ g' vs = .none) ∨ Sat P g' (EnP _ g') ∨ SatX P g' (EnP _ g')
    by_cases e : g = g'
    · subst e
      exact .inl fun vs => by simp [EnP]
    · have : EnP ((g, .o sp) :: l) g' = EnP l g' := by funext vs; simp only [EnP]; rw [beq_false e, cond_false]
      rw [this]; exact k.1 g'
  · change EnO _ g' = some sp' at hg
    simp only [EnO] at hg
    cases hb : Nat.beq g g'
    · rw [hb, cond_false] at hg; exact k.2 g' sp' hg
    · rw [hb, cond_true] at hg; cases hg
      rw [← Nat.eq_of_beq_eq_true hb]; exact h

/-! Loops' states. -/
inductive KC where | v (e : Sh) | a (es : List Sh)
@[reducible] def KC.T : KC → Type | .v e => CE e | .a es => List (RowE es)
@[reducible] def KCs : List KC → Type | [] => Unit | k :: ks => KC.T k × KCs ks
def KC.sv : (k : KC) → KC.T k → SV
  | .v e, x => .val (.d (toD e x))
  | .a es, l => .app es l
def KCs.svs : (ks : List KC) → KCs ks → List SV
  | [], _ => []
  | k :: ks, r => KC.sv k r.1 :: KCs.svs ks r.2
def KC.of : (k : KC) → SV → Option (KC.T k)
  | .v e, .val (.d x) => ofD e x
  | .a es, .app es' l => match Sh.eqs? es' es with | some ⟨h⟩ => some (h ▸ l) | none => none
  | _, _ => none
def KCs.of : (ks : List KC) → List SV → Option (KCs ks)
  | [], [] => some ()
  | k :: ks, v :: vs => match KC.of k v, KCs.of ks vs with | some x, some r => some (x, r) | _, _ => none
  | _, _ => none
@[reducible] def Caps : List (List Sh) → Type | [] => Unit | es :: l => RowE es × Caps l
def Caps.avs : (l : List (List Sh)) → Caps l → List AV
  | [], _ => []
  | es :: l, r => .pt (rowD es r.1) :: Caps.avs l r.2
def Caps.of : (l : List (List Sh)) → List AV → Option (Caps l)
  | [], [] => some ()
  | es :: l, .pt ds :: vs => match ofDs es ds, Caps.of l vs with | some x, some r => some (x, r) | _, _ => none
  | _, _ => none
theorem Caps.of_eq : ∀ (l : List (List Sh)) (vs : List AV) (r : Caps l), Caps.of l vs = some r → vs = Caps.avs l r
  | [], [], _, _ => rfl
  | es :: l, v :: vs, r, h => by
    cases v with
    | pt ds =>
      simp only [Caps.of] at h
      split at h
      · rename_i x r' h1 h2
        obtain rfl := Option.some.inj h
        simp only [Caps.avs]
        rw [← ofDs_eq es ds x h1, ← Caps.of_eq l vs r' h2]
      · cases h
    | _ => simp [Caps.of] at h
  | [], _ :: _, _, h => by simp [Caps.of] at h
  | _ :: _, [], _, h => by simp [Caps.of] at h
inductive SK where
  | v (agg : Bool) (es : List Sh) | a (es : List Sh) | sit | box (ks : List KC) | u | f (g : Nat) | own (es : List Sh) | mp (k : Sh) (b : Bool) (es : List Sh) | mit (k : Sh) (b : Bool) (es : List Sh) | vw (d n : Nat) | pt (es : List Sh) | fc (g : Nat) (ess : List (List Sh)) | ln (b : Bool) (es : List Sh) | lp (es : List Sh) | mpa (k : Sh) (es : List Sh)
@[reducible] def SK.T : SK → Type
  | .v _ es => RowE es
  | .a es => List (RowE es)
  | .sit => List UInt8 × Nat
  | .box ks => KCs ks
  | .u => Unit
  | .f _ => Unit
  | .own es => List (RowE es)
  | .mp k _ es => List (CE k × RowE es)
  | .mit k _ es => List (CE k × RowE es)
  | .vw _ _ => Nat × Nat
  | .pt es => RowE es
  | .fc _ ess => Caps ess
  | .ln _ es => RowE es
  | .lp es => RowE es
  | .mpa k es => List (CE k × RowE [.sl es])
def SK.sv : (k : SK) → SK.T k → SV
  | .v b es, r => .val (argAV b es r)
  | .a es, l => .app es l
  | .sit, x => .sit x.1 x.2
  | .box ks, r => .box true (KCs.svs ks r)
  | .u, _ => .und
  | .f g, _ => .val (.fn g [])
  | .own es, l => .own es l
  | .mp k b es, m => .mp k b es m
  | .mit k b es, m => .mit k b es m none
  | .vw d n, x => .ow d (.sub n x.1 x.2)
  | .pt es, r => .at (rowD es r)
  | .fc g ess, r => .val (.fn g (Caps.avs ess r))
  | .ln b es, r => .ln (argAV b es r)
  | .lp es, r => .ln (.pt (rowD es r))
  | .mpa k es, m => .mpa true k es none m
def SK.of : (k : SK) → SV → Option (SK.T k)
  | .v b es, .val y => argOf b es y
  | .a es, .app es' l => match Sh.eqs? es' es with | some ⟨h⟩ => some (h ▸ l) | none => none
  | .sit, .sit s p => some (s, p)
  | .box ks, .box true cs => KCs.of ks cs
  | .u, .und => some ()
  | .f g, .val (.fn g' []) => if g' = g then some () else none
  | .own es, .own es' l => match Sh.eqs? es' es with | some ⟨h⟩ => some (h ▸ l) | none => none
  | .mp k b es, .mp k' b' es' m => match Sh.eq? (.mp k' b' es') (.mp k b es) with | some ⟨h⟩ => some ((h ▸ (m : CE (.mp k' b' es')) : CE (.mp k b es))) | none => none
  | .mit k b es, .mit k' b' es' m none => match Sh.eq? (.mp k' b' es') (.mp k b es) with | some ⟨h⟩ => some ((h ▸ (m : CE (.mp k' b' es')) : CE (.mp k b es))) | none => none
  | .vw d n, .ow d' (.sub n' lo hi) => if d' = d ∧ n' = n then some (lo, hi) else none
  | .pt es, .at ds => ofDs es ds
  | .fc g ess, .val (.fn g' vs) => if g' = g then Caps.of ess vs else none
  | .ln b es, .ln y => argOf b es y
  | .lp es, .ln (.pt ds) => ofDs es ds
  | .mpa k es, .mpa true k' es' none m => match Sh.eq? (.mp k' false [.sl es']) (.mp k false [.sl es]) with | some ⟨h⟩ => some ((h ▸ (m : CE (.mp k' false [.sl es'])) : CE (.mp k false [.sl es]))) | none => none
  | _, _ => none
@[reducible] def St : List SK → Type | [] => Unit | k :: ks => SK.T k × St ks
def St.svs : (ks : List SK) → St ks → List SV
  | [], _ => []
  | k :: ks, r => SK.sv k r.1 :: St.svs ks r.2
def St.of : (ks : List SK) → List SV → Option (St ks)
  | [], [] => some ()
  | k :: ks, v :: vs => match SK.of k v, St.of ks vs with | some x, some r => some (x, r) | _, _ => none
  | _, _ => none
theorem KC.of_eq : ∀ (k : KC) (s : SV) (x : KC.T k), KC.of k s = some x → s = KC.sv k x := by
  intro k s x h
  cases k <;> cases s <;> simp only [KC.of] at h <;> try (cases h; done)
  · rename_i e v
    cases v <;> simp only [KC.of] at h <;> try (cases h; done)
    simp only [KC.sv]; rw [ofD_eq e _ x h]
  · split at h
    · rename_i hq hh; subst hq; simp at h; subst h; rfl
    · cases h
theorem KCs.of_eq : ∀ (ks : List KC) (vs : List SV) (r : KCs ks), KCs.of ks vs = some r → vs = KCs.svs ks r
  | [], [], _, _ => rfl
  | k :: ks, v :: vs, r, h => by
    simp only [KCs.of] at h
    split at h
    · rename_i x r' h1 h2
      obtain rfl := Option.some.inj h
      simp only [KCs.svs]
      rw [← KC.of_eq k v x h1, ← KCs.of_eq ks vs r' h2]
    · cases h
  | [], _ :: _, _, h => by simp [KCs.of] at h
  | _ :: _, [], _, h => by simp [KCs.of] at h
theorem SK.of_eq : ∀ (k : SK) (s : SV) (x : SK.T k), SK.of k s = some x → s = SK.sv k x := by
  intro k s x h
  cases k <;> cases s <;> simp only [SK.of] at h <;> try (cases h; done)
  · simp only [SK.sv]; rw [argOf_eq h]
  · split at h
    · rename_i hq hh; subst hq; simp at h; subst h; rfl
    · cases h
  · simp at h; subst h; rfl
  · rename_i ks nw cs
    cases nw <;> simp only [SK.of] at h
    · cases h
    · simp only [SK.sv]; rw [← KCs.of_eq ks cs x h]
  · rfl
  · rename_i g v
    match v, h with
    | .fn g' [], h =>
      simp only [SK.of] at h
      split at h
      · rename_i e; subst e; rfl
      · cases h
    | .fn _ (_ :: _), h => simp [SK.of] at h
    | .d _, h => simp [SK.of] at h
    | .agg _, h => simp [SK.of] at h
    | .tup _, h => simp [SK.of] at h
    | .pt _, h => simp [SK.of] at h
  · split at h
    · rename_i hq hh; subst hq; simp at h; subst h; rfl
    · cases h
  · split at h
    · rename_i hq hh; cases hq; simp at h; subst h; rfl
    · cases h
  · rename_i k b es k' b' es' m cur
    cases cur <;> simp only [SK.of] at h
    · split at h
      · rename_i hq hh; cases hq; simp at h; subst h; rfl
      · cases h
    · cases h
  · rename_i d n d' k
    cases k <;> simp only [SK.of] at h
    · split at h
      · rename_i e
        obtain ⟨rfl, rfl⟩ := e
        simp at h; subst h; rfl
      · cases h
    · cases h
  · rename_i es ds
    simp only [SK.sv]; rw [ofDs_eq es ds x h]
  · rename_i g ess v
    cases v with
    | fn g' vs =>
      simp only [SK.of] at h
      split at h
      · rename_i e; subst e; simp only [SK.sv]; rw [Caps.of_eq ess vs x h]
      · cases h
    | _ => simp [SK.of] at h
  · simp only [SK.sv]; rw [argOf_eq h]
  · rename_i es v
    cases v with
    | pt ds => simp only [SK.of] at h; simp only [SK.sv]; rw [ofDs_eq es ds x h]
    | _ => simp [SK.of] at h
  · rename_i k es nw k' es' h0 m
    cases nw <;> cases h0 <;> simp only [SK.of] at h <;> try (cases h; done)
    split at h
    · rename_i hq hh
      cases hq
      simp at h; subst h; rfl
    · cases h
theorem St.of_eq : ∀ (ks : List SK) (vs : List SV) (r : St ks), St.of ks vs = some r → vs = St.svs ks r
  | [], [], _, _ => rfl
  | k :: ks, v :: vs, r, h => by
    simp only [St.of] at h
    split at h
    · rename_i x r' h1 h2
      obtain rfl := Option.some.inj h
      simp only [St.svs]
      rw [← SK.of_eq k v x h1, ← St.of_eq ks vs r' h2]
    · cases h
  | [], _ :: _, _, h => by simp [St.of] at h
  | _ :: _, [], _, h => by simp [St.of] at h
/-- A loop, by what it comes to from each state. -/
def mkL (live outs : List Nat) (ks : List SK) (f : St ks → Tr (Ex × List SV)) : LoopS := { live := live, outs := outs, f := fun vs => match St.of ks vs with | some r => f r | none => .none }
abbrev Ls := List (Nat × LoopS)
def Ln : Ls → Nat → Option LoopS
  | [], _ => none
  | (k, ls) :: l, x => bif Nat.beq k x then some ls else Ln l x

section
variable {T : Tab} {E : CallS} {LT : Nat → Option LoopS} {c : Code} {ls : LoopS}
/-- What the rounds come to. -/
def Ends (T : Tab) (E : CallS) (LT : Nat → Option LoopS) (c : Code) (ls : LoopS) (vs : List SV) (x : Ex × List SV) : Prop := ∃ n, iter T E LT c ls n vs = some x
theorem Ends.out {vs : List SV} {e : Ex} {us : List SV} (h : evRound T E LT c ls vs = some (.out e us)) : Ends T E LT c ls vs (e, us) := ⟨1, by simp [iter, h]⟩
theorem Ends.again {vs vs' : List SV} {x : Ex × List SV} (h : evRound T E LT c ls vs = some (.again vs')) (k : Ends T E LT c ls vs' x) : Ends T E LT c ls vs x := by
  obtain ⟨n, hn⟩ := k
  exact ⟨n + 1, by simp [iter, h, hn]⟩
theorem loopOK {live outs : List Nat} {ks : List SK} {f : St ks → Tr (Ex × List SV)} (hk : LT (key c) = some (mkL live outs ks f)) (h : ∀ (r : St ks) (x : Ex × List SV), (f r).Out x → Ends T E LT c (mkL live outs ks f) (St.svs ks r) x) : LoopOK T E LT c := by
  intro ls hls
  rw [hk] at hls
  simp at hls; subst hls
  refine ⟨fun vs x hx => ?_, fun fm h => by simp [mkL] at h⟩
  simp only [mkL] at hx
  split at hx
  · rename_i r hr
    rw [St.of_eq ks vs r hr]
    exact h r x hx
  · exact hx.elim
end

/-! ### Natives -/
theorem satX_indexByte {P : Program} {g : Nat} {fn : Func} (hf : P.funcs[g]? = some fn) (hname : (fn.name == "runtime.NumGoroutine") = false)
    (hb : fn.body.isNone = true) (hn : Extern.findNext fn = none) (he : Extern.find fn = some Extern.BytealgIndexByte.indexByte) :
    SatX P g (mkS [(false, [.str]), (false, [.int .u8])] fun rs => .leaf (.val (.d (.int .i64 (Lib.indexByte rs.1.1 (rs.2.1.1 : Int).toNat.toUInt8))))) := by
  refine ⟨fun vs sv h => ?_⟩
  obtain ⟨rs, rfl, h⟩ := mkS_out h
  simp only [Tr.Out] at h
  subst h
  refine ⟨_, rfl, fun Pr w vals hr => ?_⟩
  match vals, hr with
  | [a, b], hr =>
    simp only [Rs.avs, argAV, RepAs, RepA, toD, RepD, and_true] at hr
    obtain ⟨rfl, rfl⟩ := hr
    exact ⟨_, by rw [run_callFunc_extern hf hname hb hn he, Lib.run_indexByteString]; rfl, by simp [RepA, RepD]⟩
  | [], hr => simp [Rs.avs, RepAs] at hr
  | [_], hr => simp [Rs.avs, RepAs] at hr
  | _ :: _ :: _ :: _, hr => simp [Rs.avs, RepAs] at hr
theorem satX_cmpString {P : Program} {g : Nat} {fn : Func} (hf : P.funcs[g]? = some fn) (hname : (fn.name == "runtime.NumGoroutine") = false)
    (hb : fn.body.isNone = true) (hn : Extern.findNext fn = none) (he : Extern.find fn = some Extern.BytealgCompare.compare) :
    SatX P g (mkS [(false, [.str]), (false, [.str])] fun rs => .leaf (.val (.d (.int .i64 (Lib.compareBytes rs.1.1 rs.2.1.1))))) := by
  refine ⟨fun vs sv h => ?_⟩
  obtain ⟨rs, rfl, h⟩ := mkS_out h
  simp only [Tr.Out] at h
  subst h
  refine ⟨_, rfl, fun Pr w vals hr => ?_⟩
  match vals, hr with
  | [a, b], hr =>
    simp only [Rs.avs, argAV, RepAs, RepA, toD, RepD, and_true] at hr
    obtain ⟨rfl, rfl⟩ := hr
    exact ⟨_, by rw [run_callFunc_extern hf hname hb hn he, Lib.run_compareString]; rfl, by simp [RepA, RepD]⟩
  | [], hr => simp [Rs.avs, RepAs] at hr
  | [_], hr => simp [Rs.avs, RepAs] at hr
  | _ :: _ :: _ :: _, hr => simp [Rs.avs, RepAs] at hr

/-- A function, proved by its evaluation at each arguments. -/
theorem sat_mk {P : Program} {T : Tab} {E : CallS} {LT : Nat → Option LoopS} {g : Nat} {fn : Func} {c : Code} {ps : List (Bool × List Sh)} {f : Rs ps → Tr SV} (hC : Cx P T) (hE : SatE P E) (hm : P.follows .mixedOrders = true)
    (hf : P.funcs[g]? = some fn) (hname : (fn.name == "runtime.NumGoroutine") = false) (hb : fn.body = some c) (hwr : (wr c).all (fun d => Nat.blt d fn.ntmps) = true)
    (hev : ∀ rs sv, (f rs).Out sv → evF T E LT fn (Rs.avs ps rs) = some sv) (hl : LoopsOK T E LT c) : Sat P g (mkS ps f) :=
  sat_of hC hE hm hf hname hb hwr (fun vs sv h => by obtain ⟨rs, hv, h'⟩ := mkS_out h; subst hv; exact hev rs sv h') hl
end Go.Proofs.Ytgcjhcefpkbheaa.Lg
