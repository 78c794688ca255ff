/- Part of a proof of the seat's statements: no statement by itself. -/
import Derived.Test.YtfafmpiajlgojaaDoorLgB10
namespace Go.Proofs.YtfafmpiajlgojaaDoor.Lg
open Go
section
variable {R : Type} {P : Program} {T : Tab} {E : CallE} {o : Oper} {fr : Fr} {K : Fr → Option R} {r : R} {Pr : PM} {w : World} {a : Act} {F : Nat → List Nat}
  {next : Act → World → Prop} {Q : Exit → Act → World → Prop}

theorem fitsV_str {i : TI} {s : List UInt8} (h : fitsV i (.d (.str s)) = true) : i.sh = [.str] := by
  simp only [fitsV] at h
  split at h <;> first | assumption | cases h
theorem fitsV_sl {i : TI} {es : List Sh} {l : List (RowE es)} (h : fitsV i (.d (.sl es l)) = true) : i.sh = [.sl es] ∧ i.es = es := by
  simp only [fitsV] at h
  split at h
  · rename_i es' hs
    simp only [Bool.and_eq_true] at h
    have h1 := shB_eq (show shB es es' = true from h.1)
    have h2 := shB_eq (show shB es i.es = true from h.2)
    subst h1
    exact ⟨hs, h2.symm⟩
  · cases h

theorem str_extract (s : List UInt8) (l h : Nat) : (⟨s.toArray⟩ : ByteArray).extract l h = ⟨((s.take h).drop l).toArray⟩ := by
  apply ByteArray.ext
  simp [ByteArray.data_extract, List.extract_eq_take_drop, List.drop_take]

theorem cut_rep {es : List Sh} {l : List (RowE es)} {p : Option Addr} {cap : Nat} {lo hi : Nat} (h1 : lo ≤ hi) (h2 : hi ≤ l.length) (hc : l.length ≤ cap)
    (hrow : l = [] ∨ ∃ b off, p = some ⟨b, off, none⟩ ∧ ∀ i x, l[i]? = some x → RepRow Pr es x b (off + i * es.length)) :
    RepA Pr (.d (.sl es ((l.take hi).drop lo))) (.slice (if cap = lo then p else p.map (·.add (lo * es.length))) (hi - lo) (cap - lo)) := by
  simp only [RepA, RepD, RepC]
  refine ⟨_, _, _, rfl, by simp; omega, by omega, ?_⟩
  by_cases he : lo = hi
  · left; subst he; simp
  · right
    have hne : l ≠ [] := by rintro rfl; simp at h2; omega
    replace hrow := hrow.resolve_left hne; obtain ⟨b, off, rfl, hrow⟩ := hrow
    refine ⟨b, off + lo * es.length, ?_, fun i x hi' => ?_⟩
    · rw [if_neg (by omega)]; simp [Addr.add_lit]
    · rw [List.getElem?_drop, List.getElem?_take] at hi'
      split at hi'
      · have := hrow _ _ hi'
        rw [Nat.add_mul] at this
        rw [Nat.add_assoc]; exact this
      · cases hi'

theorem rdOpt_sound {x : Option Operand} {v : Option AV} (hF : RepF Pr w fr a.tmps F) (h : rdOpt fr x = some v) : (x = none ∧ v = none) ∨ ∃ y u, x = some y ∧ v = some u ∧ RepA Pr u (a.eval y) := by
  cases x with
  | none => simp [rdOpt] at h; exact .inl ⟨rfl, h.symm⟩
  | some y =>
    simp only [rdOpt, Option.map_eq_some_iff] at h
    obtain ⟨u, h1, rfl⟩ := h
    exact .inr ⟨y, u, rfl, rfl, rdO_sound hF h1⟩

theorem op_slice {t : TypeId} {x : Operand} {lo hi : Option Operand} (hC : Cx P T) (ho : o.op = .slice t x lo hi none) (hev : evOp T E o fr K = some r) (hF : RepF Pr w fr a.tmps F) (hP : PrOK Pr w) (hd : DOK o a) (hn : Nx K r o.dst Pr w a F next) : o.wp P a w next Q := by
  simp only [evOp, ho] at hev
  replace hev := withT_some hev; obtain ⟨i, hi', hev⟩ := hev
  obtain ⟨tf⟩ := hC.facts hi'
  split at hev
  · rename_i v av bv ha hx hlo hhi
    replace hev := bif_some hev; obtain ⟨hfit, hev⟩ := hev
    have hxr := rdO_sound hF hx
    have hlor := rdOpt_sound hF hlo
    have hhir := rdOpt_sound hF hhi
    have done : ∀ {v : Value} {z : AV}, K (dset o.dst (.val z) fr) = some r → RepA Pr z v → (execOp a.eval o).run P w = .ok (.value v) w → o.wp P a w next Q :=
      fun h3 h2 h1 => wp_value h1 (finV hF hP hd hn h2 h3)
    cases v with
    | d y =>
      cases y with
      | str s =>
        have hu := tf.str ha (fitsV_str hfit)
        simp only [RepA, RepD] at hxr
        have run : ∀ (l h : Nat) (lv hv : Option Value), (Instr.sliceBounds false s.length s.length lv hv none).run P w = .ok (l, h, s.length) w → lo.map a.eval = lv → hi.map a.eval = hv →
            (execOp a.eval o).run P w = .ok (.value (.string ⟨((s.take h).drop l).toArray⟩)) w := by
          intro l h lv hv hr e1 e2
          subst e1; subst e2
          simp only [execOp, ho, hxr, Instr.sliceAt, Sem.run_bind, run_underlying hu, Result.andThen_ok, Instr.slice, Option.map_none, Option.isSome_none, Bool.false_eq_true, if_false, Sem.run_pure, str_size, hr, str_extract]
        rcases hlor with ⟨rfl, rfl⟩ | ⟨ly, lu, rfl, rfl, hl⟩ <;> rcases hhir with ⟨rfl, rfl⟩ | ⟨hy, hu', rfl, rfl, hh⟩
        · simp only [evSlice] at hev
          have h1 := run 0 s.length none none (by simp [Instr.sliceBounds]) rfl rfl
          rw [List.take_length, List.drop_zero] at h1
          exact done hev (by simp [RepA, RepD]) h1
        · cases hu' with
          | d z =>
            cases z with
            | int k b =>
              simp only [evSlice] at hev
              obtain ⟨⟨g0, g1⟩, hev⟩ := chk_some hev
              simp only [RepA, RepD] at hh
              have h1 := run 0 b.toNat none (some (.int k b)) (by simp [Instr.sliceBounds, Instr.sliceBound, asIntOf, g0, g1]) rfl (by simp [hh])
              rw [List.drop_zero] at h1
              exact done hev (by simp [RepA, RepD]) h1
            | _ => simp [evSlice] at hev
          | _ => simp [evSlice] at hev
        · cases lu with
          | d z =>
            cases z with
            | int k b =>
              simp only [evSlice] at hev
              obtain ⟨⟨g0, g1⟩, hev⟩ := chk_some hev
              simp only [RepA, RepD] at hl
              have h1 := run b.toNat s.length (some (.int k b)) none (by simp [Instr.sliceBounds, Instr.sliceBound, asIntOf, g0, g1]) (by simp [hl]) rfl
              rw [List.take_length] at h1
              exact done hev (by simp [RepA, RepD]) h1
            | _ => simp [evSlice] at hev
          | _ => simp [evSlice] at hev
        · cases lu with
          | d z =>
            cases z with
            | int k b =>
              cases hu' with
              | d z' =>
                cases z' with
                | int k' b' =>
                  simp only [evSlice] at hev
                  obtain ⟨⟨g0, g1, g2⟩, hev⟩ := chk_some hev
                  simp only [RepA, RepD] at hl hh
                  have e1 : ((b'.toNat : Nat) : Int) = b' := by omega
                  have h1 := run b.toNat b'.toNat (some (.int k b)) (some (.int k' b')) (by simp [Instr.sliceBounds, Instr.sliceBound, asIntOf, g0, g2, show (0 : Int) ≤ b' by omega, e1, g1]) (by simp [hl]) (by simp [hh])
                  exact done hev (by simp [RepA, RepD]) h1
                | _ => simp [evSlice] at hev
              | _ => simp [evSlice] at hev
            | _ => simp [evSlice] at hev
          | _ => simp [evSlice] at hev
      | sl es l =>
        obtain ⟨hsh, hes⟩ := fitsV_sl hfit
        obtain ⟨ef⟩ := tf.slice ha (.inr ⟨es, hsh⟩)
        simp only [RepA, RepD, RepC] at hxr
        obtain ⟨p, len, cap, hv, hlen, hc, hrow⟩ := hxr
        subst hlen
        have run : ∀ (l0 h : Nat) (lv hv' : Option Value), (Instr.sliceBounds true l.length cap lv hv' none).run P w = .ok (l0, h, cap) w → lo.map a.eval = lv → hi.map a.eval = hv' →
            (execOp a.eval o).run P w = .ok (.value (.slice (if cap = l0 then p else p.map (·.add (l0 * es.length))) (h - l0) (cap - l0))) w := by
          intro l0 h lv hv' hr e1 e2
          subst e1; subst e2
          have hsz := ef.run_size w
          rw [hes] at hsz
          simp only [execOp, ho, hv, Instr.sliceAt, Sem.run_bind, run_underlying ef.hd, Result.andThen_ok, Instr.slice, Option.map_none, hr, hsz, Sem.run_pure]
        rcases hlor with ⟨rfl, rfl⟩ | ⟨ly, lu, rfl, rfl, hl⟩ <;> rcases hhir with ⟨rfl, rfl⟩ | ⟨hy, hu', rfl, rfl, hh⟩
        · simp only [evSlice] at hev
          have h1 := run 0 l.length none none (by simp [Instr.sliceBounds]) rfl rfl
          have h2 := cut_rep (Pr := Pr) (p := p) (lo := 0) (hi := l.length) (by omega) (by omega) hc hrow
          rw [List.take_length, List.drop_zero] at h2
          exact done hev h2 h1
        · cases hu' with
          | d z =>
            cases z with
            | int k b =>
              simp only [evSlice] at hev
              obtain ⟨⟨g0, g1⟩, hev⟩ := chk_some hev
              simp only [RepA, RepD] at hh
              have h1 := run 0 b.toNat none (some (.int k b)) (by simp [Instr.sliceBounds, Instr.sliceBound, asIntOf, g0, show b ≤ (cap : Int) by omega]) rfl (by simp [hh])
              have h2 := cut_rep (Pr := Pr) (p := p) (lo := 0) (hi := b.toNat) (by omega) (by omega) hc hrow
              rw [List.drop_zero] at h2
              exact done hev h2 h1
            | _ => simp [evSlice] at hev
          | _ => simp [evSlice] at hev
        · cases lu with
          | d z =>
            cases z with
            | int k b =>
              simp only [evSlice] at hev
              obtain ⟨⟨g0, g1⟩, hev⟩ := chk_some hev
              simp only [RepA, RepD] at hl
              have h1 := run b.toNat l.length (some (.int k b)) none (by simp [Instr.sliceBounds, Instr.sliceBound, asIntOf, g0, g1]) (by simp [hl]) rfl
              have h2 := cut_rep (Pr := Pr) (p := p) (lo := b.toNat) (hi := l.length) (by omega) (by omega) hc hrow
              rw [List.take_length] at h2
              exact done hev h2 h1
            | _ => simp [evSlice] at hev
          | _ => simp [evSlice] at hev
        · cases lu with
          | d z =>
            cases z with
            | int k b =>
              cases hu' with
              | d z' =>
                cases z' with
                | int k' b' =>
                  simp only [evSlice] at hev
                  obtain ⟨⟨g0, g1, g2⟩, hev⟩ := chk_some hev
                  simp only [RepA, RepD] at hl hh
                  have e1 : ((b'.toNat : Nat) : Int) = b' := by omega
                  have h1 := run b.toNat b'.toNat (some (.int k b)) (some (.int k' b')) (by simp [Instr.sliceBounds, Instr.sliceBound, asIntOf, g0, show b' ≤ (cap : Int) by omega, show (0 : Int) ≤ b' by omega, e1, g1]) (by simp [hl]) (by simp [hh])
                  exact done hev (cut_rep (by omega) (by omega) hc hrow) h1
                | _ => simp [evSlice] at hev
              | _ => simp [evSlice] at hev
            | _ => simp [evSlice] at hev
          | _ => simp [evSlice] at hev
      | _ => simp [fitsV] at hfit
    | _ => simp [fitsV] at hfit
  · cases hev

theorem op_range {t : TypeId} {x : Operand} (hC : Cx P T) (ho : o.op = .range t x) (hev : evOp T E o fr K = some r) (hF : RepF Pr w fr a.tmps F) (hP : PrOK Pr w) (hd : DOK o a) (hn : Nx K r o.dst Pr w a F next) : o.wp P a w next Q := by
  simp only [evOp, ho] at hev
  replace hev := withT_some hev; obtain ⟨i, hi, hev⟩ := hev
  obtain ⟨tf⟩ := hC.facts hi
  split at hev
  · rename_i s ha hs hx
    have hxr := rdO_sound hF hx
    simp only [RepA, RepD] at hxr
    refine wp_value (v := .pointer (some ⟨w.heap.size, 0, none⟩)) (w' := { w with heap := w.heap.push (.stringIter ⟨s.toArray⟩ 0) }) (by simp [execOp, ho, hxr, Instr.range, run_underlying (tf.str ha hs)]) ?_
    refine finNew hF hP hd hn ?_ rfl (by simp) (by simp) hev
    simp only [RepS]
    exact ⟨w.heap.size, rfl, by simp, fun o => hP.new o, rfl⟩
  · cases hev

theorem op_next {x : Operand} (ho : o.op = .next x true) (hev : evOp T E o fr K = some r) (hF : RepF Pr w fr a.tmps F) (hP : PrOK Pr w) (hd : DOK o a) (hn : Nx K r o.dst Pr w a F next) : o.wp P a w next Q := by
  simp only [evOp, ho] at hev
  split at hev
  · rename_i s
    split at hev
    · rename_i pre l pos rest hf
      have hl := find_look s fr [] _ _ _ hf
      have hr := hF.rep s
      rw [hl] at hr
      simp only [RepS] at hr
      obtain ⟨b, hv, hb, hpr, hB⟩ := hr
      rcases brP_some hev with ⟨hlt, h⟩ | ⟨hlt, h⟩
      · clear hev
        generalize hw' : ({ w with heap := w.heap.setIfInBounds b (.stringIter ⟨l.toArray⟩ (pos + (Utf8.decode ⟨l.toArray⟩ pos).2)) } : World) = w'
        have hlt2 := (Array.getElem?_eq_some_iff.1 hb).1
        have hb' : w'.heap[b]? = some (.stringIter ⟨l.toArray⟩ (pos + (Utf8.decode ⟨l.toArray⟩ pos).2)) := by rw [← hw']; simp [hlt2]
        have hoth : ∀ k, k ≠ b → w'.heap[k]? = w.heap[k]? := fun k hk => by rw [← hw']; simp [Array.getElem?_setIfInBounds, Ne.symm hk]
        have hsize : w'.heap.size = w.heap.size := by rw [← hw']; simp
        have hbs : b ∈ F s := by rw [hB]; simp
        have hrun : (execOp a.eval o).run P w = .ok (.value (.tuple #[.bool true, .int .i64 pos, .int .i32 (Utf8.decode ⟨l.toArray⟩ pos).1])) w' := by
          rw [← hw']
          simp [execOp, ho, (show a.eval (.tmp s) = _ from hv), Instr.next, Go.getObj, Sem.run, hb, str_size, hlt, setObj, goInt]
        have hkeep : ∀ (B : List Nat), b ∉ B → Keeps B Pr w Pr w' := fun B hb b' hb' => ⟨hoth b' (fun e => hb (e ▸ hb')), fun _ => rfl⟩
        have h1 : RepF Pr w' ((s, .sit l (pos + (Utf8.decode ⟨l.toArray⟩ pos).2)) :: fr) a.tmps (fun t => if t = s then [b] else F t) := by
          refine hF.rebind (PrLe.refl _) (fun t ht => hkeep _ (fun q => hF.apart t s ht b q hbs)) (fun _ _ => rfl) ?_ (by simp) ?_ (by simp [SV.isUpd]) (by simp) (by simp) (by simp)
          · simp only [RepS]; exact ⟨b, hv, hb', hpr, rfl⟩
          · intro t ht b' hb' q; simp at hb'; subst hb'; exact hF.apart t s ht _ q hbs
        have hP' : PrOK Pr w' := by
          intro b' o' v hv'
          have := hP b' o' v hv'
          by_cases e : b' = b
          · subst e; rw [hpr] at hv'; cases hv'
          · simp only [World.cell?, hoth b' e] at this ⊢; exact this
        have hx' : Ext (fun b => ∃ t, b ∈ F t) Pr w Pr w' := by
          refine ⟨by rw [← hw'], by rw [← hw'], by rw [← hw'], by omega, PrLe.refl _, fun k hk hna => ⟨hoth k (fun e => ?_), fun _ => rfl⟩⟩
          subst e; exact hna ⟨s, hbs⟩
        refine wp_value hrun (fin hd hn h1 hP' hx' ?_ (B := []) ?_ List.nodup_nil (by simp) (by simp) rfl (by simp) (by simp) (by simp) h)
        · intro t b' hb'
          by_cases e : t = s
          · simp [e] at hb'; subst hb'; exact .inl ⟨s, hbs⟩
          · rw [if_neg e] at hb'; exact .inl ⟨t, hb'⟩
        · simp [RepS, RepA, RepAs, RepD]
      · clear hev
        refine wp_value (v := .tuple #[.bool false]) (w' := w) ?_ (finV hF hP hd hn ?_ h)
        · simp [execOp, ho, (show a.eval (.tmp s) = _ from hv), Instr.next, Go.getObj, Sem.run, hb, str_size, hlt]
        · simp [RepA, RepAs, RepD]
    · cases hev
  · cases hev
end
end Go.Proofs.YtfafmpiajlgojaaDoor.Lg
