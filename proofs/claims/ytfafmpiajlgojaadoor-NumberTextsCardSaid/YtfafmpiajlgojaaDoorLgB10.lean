/- Part of a proof of the seat's statements: no statement by itself. -/
import Derived.Test.YtfafmpiajlgojaaDoorLgB9
import Derived.Laws.Strings
namespace Go.Proofs.YtfafmpiajlgojaaDoor.Lg
open Go
section
variable {R : Type} {P : Program} {T : Tab} {E : CallE} {o : Oper} {fr : Fr} {K : Fr → Option R} {r : R} {Pr : PM} {w : World} {a : Act} {F : Nat → List Nat}
  {next : Act → World → Prop} {Q : Exit → Act → World → Prop}

theorem str_get (s : List UInt8) (n : Nat) : (⟨s.toArray⟩ : ByteArray)[n]? = s[n]? := by
  by_cases h : n < s.length
  · have h1 : n < (⟨s.toArray⟩ : ByteArray).size := h
    rw [getElem?_pos (⟨s.toArray⟩ : ByteArray) n h1, List.getElem?_eq_getElem h]; rfl
  · have h1 : ¬ n < (⟨s.toArray⟩ : ByteArray).size := h
    rw [getElem?_neg (⟨s.toArray⟩ : ByteArray) n h1, List.getElem?_eq_none (by omega)]
theorem str_size (s : List UInt8) : (⟨s.toArray⟩ : ByteArray).size = s.length := rfl

theorem intsOf_eq : ∀ (cs : List D) (k : IntKind) (l : List Int), intsOf cs = some (k, l) → cs = l.map (D.int k)
  | [], k, l, h => by simp [intsOf] at h
  | .int k' n :: cs, k, l, h => by
    simp only [intsOf] at h
    cases cs with
    | nil => simp at h; obtain ⟨rfl, rfl⟩ := h; rfl
    | cons c cs =>
      simp only at h
      cases e : intsOf (c :: cs) with
      | none => rw [e] at h; cases h
      | some p =>
        obtain ⟨k2, l2⟩ := p
        rw [e] at h
        simp only at h
        split at h
        · rename_i hk
          simp at h
          obtain ⟨rfl, rfl⟩ := h
          subst hk
          rw [intsOf_eq (c :: cs) _ _ e]; rfl
        · cases h
  | .bool _ :: _, _, _, h => by simp [intsOf] at h
  | .str _ :: _, _, _, h => by simp [intsOf] at h
  | .sl _ _ :: _, _, _, h => by simp [intsOf] at h
theorem strsOf_eq : ∀ (cs : List D) (l : List (List UInt8)), strsOf cs = some l → cs = l.map D.str
  | [], l, h => by simp [strsOf] at h; subst h; rfl
  | .str s :: cs, l, h => by
    simp only [strsOf] at h
    cases e : strsOf cs with
    | none => rw [e] at h; cases h
    | some l2 => rw [e] at h; simp at h; subst h; rw [strsOf_eq cs _ e]; rfl
  | .int .. :: _, _, h => by simp [strsOf] at h
  | .bool _ :: _, _, h => by simp [strsOf] at h
  | .sl _ _ :: _, _, h => by simp [strsOf] at h
theorem part_one (cs : List D) (n : Nat) (x : D) (h : cs[n]? = some x) : Lg.part false (n * 1) 1 cs = some (.d x) := by
  have hl : n < cs.length := (List.getElem?_eq_some_iff.1 h).1
  simp only [Lg.part, Nat.mul_one, cond_false]
  rw [List.drop_eq_getElem_cons hl]
  have := (List.getElem?_eq_some_iff.1 h).2
  simp [this]
theorem idxD_part {agg : Bool} {len n m : Nat} {cs : List D} {v : AV} (hn : n < len) (h : idxD agg len n m cs = some v) : Lg.part agg (n * m) m cs = some v := by
  unfold idxD at h
  split at h
  · split at h
    · rename_i k l hl
      cases hb : Nat.beq l.length len with
      | false => rw [hb, cond_false] at h; exact h
      | true =>
        rw [hb, cond_true] at h
        have := Nat.eq_of_beq_eq_true hb
        simp at h; subst h
        rw [intsOf_eq _ _ _ hl]
        exact part_one _ _ _ (by simp [show n < l.length by omega])
    · split at h
      · rename_i l hl
        cases hb : Nat.beq l.length len with
        | false => rw [hb, cond_false] at h; exact h
        | true =>
          rw [hb, cond_true] at h
          have := Nat.eq_of_beq_eq_true hb
          simp at h; subst h
          rw [strsOf_eq _ _ hl]
          exact part_one _ _ _ (by simp [show n < l.length by omega])
      · exact h
  · exact h

theorem op_index {t : TypeId} {x y : Operand} (hC : Cx P T) (ho : o.op = .index t x y) (hev : evOp T E o fr K = some r) (hF : RepF Pr w fr a.tmps F) (hP : PrOK Pr w) (hd : DOK o a) (hn : Nx K r o.dst Pr w a F next) : o.wp P a w next Q := by
  simp only [evOp, ho] at hev
  replace hev := withT_some hev; obtain ⟨i, hi, hev⟩ := hev
  obtain ⟨tf⟩ := hC.facts hi
  split at hev
  · rename_i s k n ha hs hx hy
    have hxr := rdO_sound hF hx
    have hyr := rdO_sound hF hy
    simp only [RepA, RepD] at hxr hyr
    obtain ⟨⟨h0, h1⟩, hev⟩ := chk_some hev
    have hlt : n.toNat < s.length := by omega
    refine wp_value (v := .int .u8 (byteAt s n)) (w' := w) ?_ (finV hF hP hd hn (x := .d (.int .u8 (byteAt s n))) (by simp [RepA, RepD]) hev)
    simp [execOp, ho, hxr, hyr, Instr.index, asIntOf, run_underlying (tf.str ha hs), h0, str_get, hlt, byteAt]
  · rename_i cs k n ha hx hy
    replace hev := withT_some hev; obtain ⟨j, hj, hev⟩ := hev
    obtain ⟨tj⟩ := hC.facts hj
    split at hev
    · rename_i len m ft harr hft
      replace hev := bif_some hev; obtain ⟨e1, hev⟩ := hev
      replace hev := bif_some hev; obtain ⟨e2, hev⟩ := hev
      obtain ⟨⟨h0, h1⟩, hev⟩ := chk_some hev
      have e1 := Nat.eq_of_beq_eq_true e1
      have e2 := Nat.eq_of_beq_eq_true e2
      subst e1; subst e2
      split at hev
      · rename_i v hv
        have hv := idxD_part (show n.toNat < len by omega) hv
        obtain ⟨e, g, hu, hg, hgs, hm, hfe⟩ := tf.array harr
        rw [hft] at hfe; simp at hfe
        have hxr := rdO_sound hF hx
        have hyr := rdO_sound hF hy
        simp only [RepA, RepD] at hxr hyr
        obtain ⟨vs, hvs, hds⟩ := hxr
        obtain ⟨u, hpu, hru⟩ := part_sound (w := w) tj hv hds
        refine wp_value (v := u) (w' := w) ?_ (finV hF hP hd hn hru hev)
        rw [hfe] at hpu
        simp [execOp, ho, hyr, Instr.index, asIntOf, run_underlying hu, hvs, h0, h1, Go.sizeOf, run_typeInfo w hg, hgs, hpu]
      · cases hev
    · cases hev
  · cases hev

theorem op_extract {x : Operand} {n : Nat} (ho : o.op = .extract x n) (hev : evOp T E o fr K = some r) (hF : RepF Pr w fr a.tmps F) (hP : PrOK Pr w) (hd : DOK o a) (hn : Nx K r o.dst Pr w a F next) : o.wp P a w next Q := by
  simp only [evOp, ho] at hev
  split at hev
  · rename_i vs hx
    split at hev
    · rename_i v hv
      have hr := rdO_sound hF hx
      simp only [RepA] at hr
      obtain ⟨us, hus, hr⟩ := hr
      have get : ∀ (l : List AV) (us : List Value), RepAs Pr l us → ∀ (n : Nat) (v : AV), l[n]? = some v → ∃ u, us[n]? = some u ∧ RepA Pr v u := by
        intro l
        induction l with
        | nil => intro us _ n v h; simp at h
        | cons x l ih =>
          intro us h n v hv
          cases us with
          | nil => simp [RepAs] at h
          | cons u us =>
            simp only [RepAs] at h
            cases n with
            | zero => simp at hv; subst hv; exact ⟨u, rfl, h.1⟩
            | succ n => exact ih us h.2 n v (by simpa using hv)
      obtain ⟨u, hu, hru⟩ := get vs us.toList hr n v hv
      have hu' : us[n]? = some u := by simpa using hu
      refine wp_value (v := u) (w' := w) ?_ (finV hF hP hd hn hru hev)
      simp [execOp, ho, hus, Instr.extract, hu']
    · cases hev
  · cases hev

theorem op_unOp {u : UnOp} {t : TypeId} {x : Operand} (ho : o.op = .unOp u t x) (hev : evOp T E o fr K = some r) (hF : RepF Pr w fr a.tmps F) (hP : PrOK Pr w) (hd : DOK o a) (hn : Nx K r o.dst Pr w a F next) : o.wp P a w next Q := by
  simp only [evOp, ho] at hev
  split at hev
  · rename_i b hx
    have hr := rdO_sound hF hx
    simp only [RepA, RepD] at hr
    exact wp_value (v := .bool (!b)) (w' := w) (by simp [execOp, ho, hr, Op.unary]) (finV hF hP hd hn (x := .d (.bool (!b))) (by simp [RepA, RepD]) hev)
  · rename_i k n hx
    have hr := rdO_sound hF hx
    simp only [RepA, RepD] at hr
    exact wp_value (v := .int k (k.wrap (-n))) (w' := w) (by simp [execOp, ho, hr, Op.unary, Op.intArith]) (finV hF hP hd hn (x := .d (.int k (k.wrap (-n)))) (by simp [RepA, RepD]) hev)
  · cases hev

theorem bytesLess_eq : ∀ (a b : List UInt8), Op.bytesLess a b = Lg.bytesLess a b
  | [], [] => rfl
  | [], _ :: _ => rfl
  | _ :: _, [] => rfl
  | x :: xs, y :: ys => by simp [Op.bytesLess, Lg.bytesLess, bytesLess_eq xs ys]

def vOf : D → Value
  | .int k n => .int k n
  | .bool b => .bool b
  | .str s => .string ⟨s.toArray⟩
  | .sl _ _ => undef

theorem run_equalIn_bool (d : Nat) {t : TypeId} (h : P.underlying t = some .bool) (b c : Bool) : (Op.equalIn (d + 1) t (.bool b) (.bool c)).run P w = .ok (b == c) w := by
  simp [Op.equalIn, run_underlying h]
theorem run_equal_bool {t : TypeId} (h : P.underlying t = some .bool) (b c : Bool) : (Op.equal t (.bool b) (.bool c)).run P w = .ok (b == c) w := run_equalIn_bool 9999 h b c

theorem op_binOp {u : BinOp} {t t' : TypeId} {x y : Operand} (hC : Cx P T) (ho : o.op = .binOp u t x y t') (hev : evOp T E o fr K = some r) (hF : RepF Pr w fr a.tmps F) (hP : PrOK Pr w) (hd : DOK o a) (hn : Nx K r o.dst Pr w a F next) : o.wp P a w next Q := by
  simp only [evOp, ho] at hev
  split at hev
  · rename_i va vb hx hy
    have hxr := rdO_sound hF hx
    have hyr := rdO_sound hF hy
    have done : ∀ {z : D}, K (dset o.dst (.val (.d z)) fr) = some r → RepD Pr z (vOf z) → (execOp a.eval o).run P w = .ok (.value (vOf z)) w → o.wp P a w next Q :=
      fun h3 h2 h1 => wp_value h1 (finV hF hP hd hn (x := .d _) (by simp only [RepA]; exact h2) h3)
    unfold binV at hev
    split at hev
    · rename_i k m k' n
      simp only [RepA, RepD] at hxr hyr
      split at hev
      · rename_i hk
        subst hk
        cases u <;> simp only [binI] at hev <;> try (cases hev; done)
        case quo => obtain ⟨h0, hev⟩ := chk_some hev; exact done hev (by simp [vOf, RepD]) (by simp [vOf, execOp, ho, hxr, hyr, eqGuard, binOp, Op.intDiv, h0])
        case rem => obtain ⟨h0, hev⟩ := chk_some hev; exact done hev (by simp [vOf, RepD]) (by simp [vOf, execOp, ho, hxr, hyr, eqGuard, binOp, Op.intDiv, h0])
        all_goals exact done hev (by simp [vOf, RepD]) (by simp [vOf, execOp, ho, hxr, hyr, eqGuard, binOp, Op.intArith, Op.intCmp])
      · cases hev
    · rename_i s s'
      simp only [RepA, RepD] at hxr hyr
      cases u <;> simp only [binS] at hev <;> try (cases hev; done)
      case add =>
        obtain ⟨h0, hev⟩ := chk_some hev
        refine done hev (by simp [vOf, RepD]) ?_
        have h0' : ¬ (((⟨s.toArray⟩ : ByteArray).size + (⟨s'.toArray⟩ : ByteArray).size : Nat) : Int) > IntKind.i64.max := by
          simp only [str_size, Lg.maxI, IntKind.max, IntKind.signed, IntKind.bits] at h0 ⊢
          simp; omega
        have happ : (⟨s.toArray⟩ : ByteArray) ++ ⟨s'.toArray⟩ = ⟨(s ++ s').toArray⟩ := by
          apply ByteArray.ext; simp
        simp only [vOf, execOp, ho, hxr, hyr, eqGuard, binOp, Op.stringOp, if_neg h0', happ]
        simp
      all_goals
        refine done hev (by simp [vOf, RepD]) ?_
        simp only [vOf, execOp, ho, hxr, hyr, eqGuard, binOp, Op.stringOp, ByteArray.toList_mk, bytesLess_eq]
        simp
    · rename_i b b'
      simp only [RepA, RepD] at hxr hyr
      replace hev := withT_some hev; obtain ⟨i, hi, hev⟩ := hev
      obtain ⟨tf⟩ := hC.facts hi
      split at hev
      · rename_i ha hs
        exact done hev (by simp [vOf, RepD]) (by simp [vOf, execOp, ho, hxr, hyr, eqGuard, binOp, run_equal_bool (tf.bool ha hs)])
      · rename_i ha hs
        exact done hev (by simp [vOf, RepD]) (by simp [vOf, execOp, ho, hxr, hyr, eqGuard, binOp, run_equal_bool (tf.bool ha hs)])
      · cases hev
    · rename_i cs ds
      simp only [RepA] at hxr hyr
      obtain ⟨xs, hxs, hxr⟩ := hxr
      obtain ⟨ys, hys, hyr⟩ := hyr
      replace hev := withT_some hev; obtain ⟨i, hi, hev⟩ := hev
      replace hev := bif_some hev; obtain ⟨hb, hev⟩ := hev
      simp only [Bool.and_eq_true] at hb
      obtain ⟨⟨⟨ha, he⟩, h1⟩, h2⟩ := hb
      obtain ⟨hg, hq⟩ := hC.eq t i hi he ha
      split at hev
      · rename_i q hq'
        have := hq Pr cs ds q xs ys w h1 h2 hxr hyr hq'
        exact done hev (by simp [vOf, RepD]) (by simp [vOf, execOp, ho, hxs, hys, eqGuard, hg, binOp, this])
      · rename_i q hq'
        have := hq Pr cs ds q xs ys w h1 h2 hxr hyr hq'
        exact done hev (by simp [vOf, RepD]) (by simp [vOf, execOp, ho, hxs, hys, eqGuard, hg, binOp, this])
      · cases hev
    · cases hev
  · cases hev
end
end Go.Proofs.YtfafmpiajlgojaaDoor.Lg
