/- Part of a proof of the seat's statements: no statement by itself. -/
import Derived.Test.YtfpojhphmgnfhaaT7G
import Derived.Test.YtfpojhphmgnfhaaSvL
set_option maxRecDepth 100000
open Go.Proofs.Ytfpojhphmgnfhaa.Lg Go Go.Proofs.Ytfpojhphmgnfhaa.Sp
open Go.Proofs
namespace Go.Proofs.Ytfpojhphmgnfhaa.T7


def SqN (N : Nat) := mkS [(false, [.sl opS]), (false, [.int .i64]), (false, [.bool])] fun ⟨⟨(c : List (RowE opS)), _⟩, ⟨(i : Int), _⟩, ⟨(certain : Bool), _⟩, _⟩ => .chk (i < (N : Int) ∧ OkN c ∧ 0 ≤ i ∧ i < (c.length : Int) ∧ (certain = true → OkC c)) (.leaf (.val (.d (.sl [.str] (namesT c certain i.toNat)))))
def ENm (N : Nat) : Es := (37, (SqN N)) :: Eq_leaf
/-! ### legation/legationref07.Names -/
def Lq_Names (N : Nat) : Ls := []
theorem tq_Names (N : Nat) (c : List (RowE [.int .i64, .sl [.int .i64, .str, .str, .str, .int .i64, .str, .str, .str, .int .i64, .str, .str, .str], .sl [.str], .sl [.sl [.int .i64, .str, .str, .str]], .sl [.int .i64, .int .i64, .str, .str, .str, .str, .int .i64], .str, .bool])) (i : Int) (certain : Bool) : evF T (Ez [] [6] true (ENm N)) (Ln (Lq_Names N)) Try.f37 [.d (.sl [.int .i64, .sl [.int .i64, .str, .str, .str, .int .i64, .str, .str, .str, .int .i64, .str, .str, .str], .sl [.str], .sl [.sl [.int .i64, .str, .str, .str]], .sl [.int .i64, .int .i64, .str, .str, .str, .str, .int .i64], .str, .bool] c), .d (.int .i64 i), .d (.bool certain)] =
    chk ((0 : Int) ≤ i ∧ i < (↑c.length : Int))
  (br (needsK (getR opS c i).fst == (0 : Int)) (chk (szO (getR opS c i) ∧ rightO (getR opS c i) = true ∧ needsK (getR opS c i).fst = (0 : Int)) (some (SV.val (AV.d (D.sl [Sh.str] (leafL (getR opS c i) certain))))))
    (br (needsK (getR opS c i).fst == (1 : Int)) (br certain (br (getR opS c i).snd.snd.snd.snd.snd.snd.fst (some (SV.val (AV.d (D.sl [Sh.str] [])))) (chk (IntKind.i64.wrap (i - (1 : Int)) < (↑N : Int) ∧ OkN c ∧ (0 : Int) ≤ IntKind.i64.wrap (i - (1 : Int)) ∧ IntKind.i64.wrap (i - (1 : Int)) < (↑c.length : Int) ∧ (certain = true → OkC c)) (br ((getR opS c i).fst == (8 : Int)) (br (!certain) (chk (List.length (namesT c certain (IntKind.i64.wrap (i - (1 : Int))).toNat) ≤ (100000 : Nat)) (some (SV.val (AV.d (D.sl [Sh.str] (moreL (namesT c certain (IntKind.i64.wrap (i - (1 : Int))).toNat) (getR opS c i).snd.snd.snd.snd.snd.fst)))))) (some (SV.val (AV.d (D.sl [Sh.str] (namesT c certain (IntKind.i64.wrap (i - (1 : Int))).toNat)))))) (some (SV.val (AV.d (D.sl [Sh.str] (namesT c certain (IntKind.i64.wrap (i - (1 : Int))).toNat)))))))) (chk (IntKind.i64.wrap (i - (1 : Int)) < (↑N : Int) ∧ OkN c ∧ (0 : Int) ≤ IntKind.i64.wrap (i - (1 : Int)) ∧ IntKind.i64.wrap (i - (1 : Int)) < (↑c.length : Int) ∧ (certain = true → OkC c)) (br ((getR opS c i).fst == (8 : Int)) (br (!certain) (chk (List.length (namesT c certain (IntKind.i64.wrap (i - (1 : Int))).toNat) ≤ (100000 : Nat)) (some (SV.val (AV.d (D.sl [Sh.str] (moreL (namesT c certain (IntKind.i64.wrap (i - (1 : Int))).toNat) (getR opS c i).snd.snd.snd.snd.snd.fst)))))) (some (SV.val (AV.d (D.sl [Sh.str] (namesT c certain (IntKind.i64.wrap (i - (1 : Int))).toNat)))))) (some (SV.val (AV.d (D.sl [Sh.str] (namesT c certain (IntKind.i64.wrap (i - (1 : Int))).toNat))))))))
      (chk (szC c ∧ (0 : Int) ≤ i ∧ i < (↑c.length : Int))
        (chk (IntKind.i64.wrap (fromP c (i - (1 : Int)) - (1 : Int)) < (↑N : Int) ∧ OkN c ∧ (0 : Int) ≤ IntKind.i64.wrap (fromP c (i - (1 : Int)) - (1 : Int)) ∧ IntKind.i64.wrap (fromP c (i - (1 : Int)) - (1 : Int)) < (↑c.length : Int) ∧ (certain = true → OkC c))
          (br ((getR opS c i).fst == (6 : Int)) (some (SV.val (AV.d (D.sl [Sh.str] (namesT c certain (IntKind.i64.wrap (fromP c (i - (1 : Int)) - (1 : Int))).toNat)))))
            (br ((getR opS c i).fst == (5 : Int)) (br certain (some (SV.val (AV.d (D.sl [Sh.str] (namesT c certain (IntKind.i64.wrap (fromP c (i - (1 : Int)) - (1 : Int))).toNat))))) (chk (IntKind.i64.wrap (i - (1 : Int)) < (↑N : Int) ∧ OkN c ∧ (0 : Int) ≤ IntKind.i64.wrap (i - (1 : Int)) ∧ IntKind.i64.wrap (i - (1 : Int)) < (↑c.length : Int) ∧ (certain = true → OkC c)) (br ((getR opS c i).fst == (4 : Int)) (br certain (chk (List.length (namesT c certain (IntKind.i64.wrap (fromP c (i - (1 : Int)) - (1 : Int))).toNat) ≤ (100000 : Nat) ∧ List.length (namesT c certain (IntKind.i64.wrap (i - (1 : Int))).toNat) ≤ (100000 : Nat)) (some (SV.val (AV.d (D.sl [Sh.str] (meetL (namesT c certain (IntKind.i64.wrap (fromP c (i - (1 : Int)) - (1 : Int))).toNat) (namesT c certain (IntKind.i64.wrap (i - (1 : Int))).toNat))))))) (chk (List.length (namesT c certain (IntKind.i64.wrap (fromP c (i - (1 : Int)) - (1 : Int))).toNat) + List.length (namesT c certain (IntKind.i64.wrap (i - (1 : Int))).toNat) ≤ (100000 : Nat)) (some (SV.val (AV.d (D.sl [Sh.str] (unionL (namesT c certain (IntKind.i64.wrap (fromP c (i - (1 : Int)) - (1 : Int))).toNat) (namesT c certain (IntKind.i64.wrap (i - (1 : Int))).toNat)))))))) (chk (List.length (namesT c certain (IntKind.i64.wrap (fromP c (i - (1 : Int)) - (1 : Int))).toNat) + List.length (namesT c certain (IntKind.i64.wrap (i - (1 : Int))).toNat) ≤ (100000 : Nat)) (some (SV.val (AV.d (D.sl [Sh.str] (unionL (namesT c certain (IntKind.i64.wrap (fromP c (i - (1 : Int)) - (1 : Int))).toNat) (namesT c certain (IntKind.i64.wrap (i - (1 : Int))).toNat))))))))))
              (chk (IntKind.i64.wrap (i - (1 : Int)) < (↑N : Int) ∧ OkN c ∧ (0 : Int) ≤ IntKind.i64.wrap (i - (1 : Int)) ∧ IntKind.i64.wrap (i - (1 : Int)) < (↑c.length : Int) ∧ (certain = true → OkC c)) (br ((getR opS c i).fst == (4 : Int)) (br certain (chk (List.length (namesT c certain (IntKind.i64.wrap (fromP c (i - (1 : Int)) - (1 : Int))).toNat) ≤ (100000 : Nat) ∧ List.length (namesT c certain (IntKind.i64.wrap (i - (1 : Int))).toNat) ≤ (100000 : Nat)) (some (SV.val (AV.d (D.sl [Sh.str] (meetL (namesT c certain (IntKind.i64.wrap (fromP c (i - (1 : Int)) - (1 : Int))).toNat) (namesT c certain (IntKind.i64.wrap (i - (1 : Int))).toNat))))))) (chk (List.length (namesT c certain (IntKind.i64.wrap (fromP c (i - (1 : Int)) - (1 : Int))).toNat) + List.length (namesT c certain (IntKind.i64.wrap (i - (1 : Int))).toNat) ≤ (100000 : Nat)) (some (SV.val (AV.d (D.sl [Sh.str] (unionL (namesT c certain (IntKind.i64.wrap (fromP c (i - (1 : Int)) - (1 : Int))).toNat) (namesT c certain (IntKind.i64.wrap (i - (1 : Int))).toNat)))))))) (chk (List.length (namesT c certain (IntKind.i64.wrap (fromP c (i - (1 : Int)) - (1 : Int))).toNat) + List.length (namesT c certain (IntKind.i64.wrap (i - (1 : Int))).toNat) ≤ (100000 : Nat)) (some (SV.val (AV.d (D.sl [Sh.str] (unionL (namesT c certain (IntKind.i64.wrap (fromP c (i - (1 : Int)) - (1 : Int))).toNat) (namesT c certain (IntKind.i64.wrap (i - (1 : Int))).toNat))))))))))))))) := by kernel_rfl
theorem satq_Names (N : Nat) (okN : SatE P (En (ENm N))) : Sat P 37 (SqN (N + 1)) := by
  refine sat_mk (LT := Ln (Lq_Names N)) hC (SatE.ez (ow := []) (fz := [6]) (pr := true) okN) mixed Try.func37 (by kernel_rfl) (c := bodyOf Try.f37) (by kernel_rfl) (by kernel_rfl) ?_ (loops0 (by kernel_rfl))
  rintro ⟨⟨(c : List (RowE [.int .i64, .sl [.int .i64, .str, .str, .str, .int .i64, .str, .str, .str, .int .i64, .str, .str, .str], .sl [.str], .sl [.sl [.int .i64, .str, .str, .str]], .sl [.int .i64, .int .i64, .str, .str, .str, .str, .int .i64], .str, .bool])), _⟩, ⟨(i : Int), _⟩, ⟨(certain : Bool), _⟩, _⟩ sv h
  refine Leads.eq (Leads.of_eq (tq_Names N c i certain) ?_)
  obtain ⟨⟨h1, hn, h2, h3, hc⟩, h⟩ := h
  have h := Out_leaf h
  obtain ⟨m, rfl⟩ := Int.eq_ofNat_of_zero_le h2
  rw [Int.toNat_natCast] at h
  have hm : m < c.length := by omega
  have ho := hn.op hm
  have hs := hn.steps m hm
  have hnd := right_needs hs.right
  have hnd2 := needsK_le (opA c m).1
  have hl := hn.len
  have h1 : (m : Int) < ((N + 1 : Nat) : Int) := h1
  have fin : ∀ l, l = namesT c certain m → SV.val (.d (.sl [.str] l)) = sv := fun l e => by rw [h, e]
  have c1 : (0 : Int) ≤ (m : Int) ∧ (m : Int) < (c.length : Int) := ⟨by omega, by omega⟩
  refine Leads.chk c1 fun _ => Leads.brE (fun q => Leads.chk ⟨ho, hs.right, q⟩ fun _ => Leads.one (fin _ (names_zero hn hm q certain))) (fun q0 => Leads.brE (fun q => ?_) (fun q1 => ?_))
  · have q : needsK (opA c m).1 = 1 := q
    obtain ⟨p1, p2⟩ := hs.one q
    have hv := names_one hn hm q certain hc
    rw [wrap64 (x := (m : Int) - 1) (by omega) (by omega)]
    have e1 : ((m : Int) - 1).toNat = m - 1 := by omega
    rw [e1]
    have hlen : (namesT c certain (m - 1)).length ≤ 100000 := Nat.le_trans (hn.names_len (j := m - 1) (by omega) certain) (by decide)
    have key : (m : Int) - 1 < (N : Int) ∧ OkN c ∧ (0 : Int) ≤ (m : Int) - 1 ∧ (m : Int) - 1 < (c.length : Int) ∧ (certain = true → OkC c) := ⟨by omega, hn, by omega, by omega, hc⟩
    refine Leads.br (fun w => Leads.br (fun u => Leads.one (fin _ ?_)) (fun u => Leads.chk key fun _ => Leads.brE (fun k8 => Leads.br (fun v => ?_) (fun v => Leads.one (fin _ ?_))) (fun k8 => Leads.one (fin _ ?_)))) (fun w => Leads.chk key fun _ => Leads.brE (fun k8 => Leads.br (fun v => Leads.chk hlen fun _ => Leads.one (fin _ ?_)) (fun v => ?_)) (fun k8 => Leads.one (fin _ ?_)))
    · rw [hv, if_pos ⟨w, u⟩]
    · rw [w] at v; cases v
    · rw [hv, if_neg (fun z => by rw [z.2] at u; cases u), if_neg (fun z => by rw [w] at z; cases z.2)]
    · rw [hv, if_neg (fun z => by rw [z.2] at u; cases u), if_neg (fun z => k8 z.1)]
    · rw [hv, if_neg (fun z => by rw [w] at z; cases z.1), if_pos ⟨k8, w⟩]
    · rw [w] at v; cases v
    · rw [hv, if_neg (fun z => by rw [w] at z; cases z.1), if_neg (fun z => k8 z.1)]
  · have q0 : ¬ needsK (opA c m).1 = 0 := q0
    have q1 : ¬ needsK (opA c m).1 = 1 := q1
    have q : needsK (opA c m).1 = 2 := by omega
    obtain ⟨g, g1, g2, g3, g4, g5⟩ := hs.two q
    obtain ⟨_, _, _, hv⟩ := names_two hn hm q g4 certain
    have hfp : fromP c ((m : Int) - 1) = (g : Int) := by
      have := from_eq hn.steps (j := m - 1) (by omega)
      rw [show ((m : Int) - 1) = ((m - 1 : Nat) : Int) by omega, this]; exact g4
    rw [hfp, wrap64 (x := (g : Int) - 1) (by omega) (by omega), wrap64 (x := (m : Int) - 1) (by omega) (by omega)]
    have e1 : ((m : Int) - 1).toNat = m - 1 := by omega
    have e2 : ((g : Int) - 1).toNat = g - 1 := by omega
    rw [e1, e2]
    have l1 := hn.names_len (j := m - 1) (by omega) certain
    have l2 := hn.names_len (j := g - 1) (by omega) certain
    have k1 : (m : Int) - 1 < (N : Int) ∧ OkN c ∧ (0 : Int) ≤ (m : Int) - 1 ∧ (m : Int) - 1 < (c.length : Int) ∧ (certain = true → OkC c) := ⟨by omega, hn, by omega, by omega, hc⟩
    have k2 : (g : Int) - 1 < (N : Int) ∧ OkN c ∧ (0 : Int) ≤ (g : Int) - 1 ∧ (g : Int) - 1 < (c.length : Int) ∧ (certain = true → OkC c) := ⟨by omega, hn, by omega, by omega, hc⟩
    have hsum : List.length (namesT c certain (g - 1)) + List.length (namesT c certain (m - 1)) ≤ 100000 := by omega
    refine Leads.chk ⟨hn.sz, by omega, by omega⟩ fun _ => Leads.chk k2 fun _ => Leads.brE (fun k6 => Leads.one (fin _ ?_)) (fun k6 => Leads.brE (fun k5 => Leads.br (fun w => Leads.one (fin _ ?_)) (fun w => Leads.chk k1 fun _ => Leads.brE (fun k4 => ?_) (fun k4 => Leads.chk hsum fun _ => Leads.one (fin _ ?_)))) (fun k5 => Leads.chk k1 fun _ => Leads.brE (fun k4 => Leads.br (fun w => Leads.chk ⟨by omega, by omega⟩ fun _ => Leads.one (fin _ ?_)) (fun w => Leads.chk hsum fun _ => Leads.one (fin _ ?_))) (fun k4 => Leads.chk hsum fun _ => Leads.one (fin _ ?_))))
    · rw [hv, if_pos (.inl k6)]
    · rw [hv, if_pos (.inr ⟨k5, w⟩)]
    · exact absurd (k5.symm.trans k4) (by decide)
    · rw [hv, if_neg (by rintro (z | z); exact k6 z; rw [z.2] at w; cases w), if_neg (fun z => k4 z.1)]
    · rw [hv, if_neg (by rintro (z | z); exact k6 z; exact k5 z.1), if_pos ⟨k4, w⟩]
    · rw [hv, if_neg (by rintro (z | z); exact k6 z; exact k5 z.1), if_neg (fun z => by rw [z.2] at w; cases w)]
    · rw [hv, if_neg (by rintro (z | z); exact k6 z; exact k5 z.1), if_neg (fun z => k4 z.1)]
theorem satNm : ∀ N, Sat P 37 (SqN N)
  | 0 => sat_zero Try.func37 (by kernel_rfl) (c := bodyOf Try.f37) (by kernel_rfl) fun vs sv h => by
    obtain ⟨⟨⟨c, _⟩, ⟨i, _⟩, ⟨certain, _⟩, _⟩, rfl, h⟩ := mkS_out h
    obtain ⟨⟨h1, _, h2, _⟩, _⟩ := h
    have h1 : (i : Int) < ((0 : Nat) : Int) := h1
    have h2 : (0 : Int) ≤ (i : Int) := h2
    omega
  | N + 1 => satq_Names N (SatE.cons (satNm N) okq_leaf)
def SqNm := mkS [(false, [.sl opS]), (false, [.int .i64]), (false, [.bool])] fun ⟨⟨(c : List (RowE opS)), _⟩, ⟨(i : Int), _⟩, ⟨(certain : Bool), _⟩, _⟩ => .chk (OkN c ∧ 0 ≤ i ∧ i < (c.length : Int) ∧ (certain = true → OkC c)) (.leaf (.val (.d (.sl [.str] (namesT c certain i.toNat)))))
def ENms : Es := (37, (SqNm)) :: Eq_leaf
theorem satNms : Sat P 37 SqNm := sat_lim (S := SqN) satNm fun vs sv h => by
  obtain ⟨⟨⟨c, _⟩, ⟨i, _⟩, ⟨certain, _⟩, _⟩, rfl, h1, h2⟩ := mkS_out h
  obtain ⟨p1, p2, p3, p4⟩ := h1
  refine ⟨(i : Int).toNat + 1, ⟨⟨?_, p1, p2, p3, p4⟩, h2⟩⟩
  have p2 : (0 : Int) ≤ (i : Int) := p2
  show (i : Int) < (((i : Int).toNat + 1 : Nat) : Int)
  rw [Int.natCast_add, Int.toNat_of_nonneg p2]
  exact Int.lt_add_one_iff.2 (Int.le_refl _)
theorem okNms : SatE P (En ENms) := SatE.cons satNms okq_leaf
/-! ### legation/legationref07.Check -/
def lkq_Check_0 : St [.v false [.sl [.int .i64, .sl [.int .i64, .str, .str, .str, .int .i64, .str, .str, .str, .int .i64, .str, .str, .str], .sl [.str], .sl [.sl [.int .i64, .str, .str, .str]], .sl [.int .i64, .int .i64, .str, .str, .str, .str, .int .i64], .str, .bool]], .v false [.int .i64]] → Prop := fun ⟨⟨(c : List (RowE [.int .i64, .sl [.int .i64, .str, .str, .str, .int .i64, .str, .str, .str, .int .i64, .str, .str, .str], .sl [.str], .sl [.sl [.int .i64, .str, .str, .str]], .sl [.int .i64, .int .i64, .str, .str, .str, .str, .int .i64], .str, .bool])), _⟩, ⟨(i : Int), _⟩, _⟩ => OkN c ∧ 0 ≤ i ∧ i ≤ (c.length : Int)
def lgq_Check_0 : St [.v false [.sl [.int .i64, .sl [.int .i64, .str, .str, .str, .int .i64, .str, .str, .str, .int .i64, .str, .str, .str], .sl [.str], .sl [.sl [.int .i64, .str, .str, .str]], .sl [.int .i64, .int .i64, .str, .str, .str, .str, .int .i64], .str, .bool]], .v false [.int .i64]] → Tr (Ex × List SV) := fun ⟨⟨(c : List (RowE [.int .i64, .sl [.int .i64, .str, .str, .str, .int .i64, .str, .str, .str, .int .i64, .str, .str, .str], .sl [.str], .sl [.sl [.int .i64, .str, .str, .str]], .sl [.int .i64, .int .i64, .str, .str, .str, .str, .int .i64], .str, .bool])), _⟩, ⟨(i : Int), _⟩, _⟩ => .br (clB c i.toNat (c.length - i.toNat)) (.leaf (.ret, [.val (.d (.int .i64 (6)))])) (.leaf (.exit 0, []))
def lmq_Check_0 : St [.v false [.sl [.int .i64, .sl [.int .i64, .str, .str, .str, .int .i64, .str, .str, .str, .int .i64, .str, .str, .str], .sl [.str], .sl [.sl [.int .i64, .str, .str, .str]], .sl [.int .i64, .int .i64, .str, .str, .str, .str, .int .i64], .str, .bool]], .v false [.int .i64]] → Nat := fun ⟨⟨(c : List (RowE [.int .i64, .sl [.int .i64, .str, .str, .str, .int .i64, .str, .str, .str, .int .i64, .str, .str, .str], .sl [.str], .sl [.sl [.int .i64, .str, .str, .str]], .sl [.int .i64, .int .i64, .str, .str, .str, .str, .int .i64], .str, .bool])), _⟩, ⟨(i : Int), _⟩, _⟩ => c.length - i.toNat
def lsq_Check_0 : LoopS := mkR [0, 3] [] [2] [.v false [.sl [.int .i64, .sl [.int .i64, .str, .str, .str, .int .i64, .str, .str, .str, .int .i64, .str, .str, .str], .sl [.str], .sl [.sl [.int .i64, .str, .str, .str]], .sl [.int .i64, .int .i64, .str, .str, .str, .str, .int .i64], .str, .bool]], .v false [.int .i64]] (fun r => .chk (lkq_Check_0 r) (lgq_Check_0 r))
def Lq_Check : Ls := [(6, lsq_Check_0)]
def Sq_Check := mkS [(false, [.sl [.int .i64, .sl [.int .i64, .str, .str, .str, .int .i64, .str, .str, .str, .int .i64, .str, .str, .str], .sl [.str], .sl [.sl [.int .i64, .str, .str, .str]], .sl [.int .i64, .int .i64, .str, .str, .str, .str, .int .i64], .str, .bool]])] fun ⟨⟨(c : List (RowE [.int .i64, .sl [.int .i64, .str, .str, .str, .int .i64, .str, .str, .str, .int .i64, .str, .str, .str], .sl [.str], .sl [.sl [.int .i64, .str, .str, .str]], .sl [.int .i64, .int .i64, .str, .str, .str, .str, .int .i64], .str, .bool])), _⟩, _⟩ => .chk (szC c) (ii (resS c).2)
theorem ltq_Check_0 (c : List (RowE [.int .i64, .sl [.int .i64, .str, .str, .str, .int .i64, .str, .str, .str, .int .i64, .str, .str, .str], .sl [.str], .sl [.sl [.int .i64, .str, .str, .str]], .sl [.int .i64, .int .i64, .str, .str, .str, .str, .int .i64], .str, .bool])) (i : Int) : evRound T (Ep (ENms)) (Ln (Lq_Check)) (loopAt 0 (loops (bodyOf Try.f19))) (lsq_Check_0) [.val (.d (.sl [.int .i64, .sl [.int .i64, .str, .str, .str, .int .i64, .str, .str, .str, .int .i64, .str, .str, .str], .sl [.str], .sl [.sl [.int .i64, .str, .str, .str]], .sl [.int .i64, .int .i64, .str, .str, .str, .str, .int .i64], .str, .bool] c)), .val (.d (.int .i64 i))] =
    br (decide (i < (↑c.length : Int))) (chk ((0 : Int) ≤ i ∧ i < (↑c.length : Int)) (br ((getR opS c i).fst == (8 : Int)) (chk (OkN c ∧ (0 : Int) ≤ IntKind.i64.wrap (i - (1 : Int)) ∧ IntKind.i64.wrap (i - (1 : Int)) < (↑c.length : Int) ∧ (false = true → OkC c)) (chk ((0 : Int) ≤ i ∧ i < (↑c.length : Int)) (chk (List.length (namesT c false (IntKind.i64.wrap (i - (1 : Int))).toNat) ≤ (140737488355328 : Nat)) (br (hasS (namesT c false (IntKind.i64.wrap (i - (1 : Int))).toNat) (getR opS c i).snd.snd.snd.snd.snd.fst) (some (Rnd.out Ex.ret [SV.val (AV.d (D.int IntKind.i64 (6 : Int)))])) (some (Rnd.again [SV.val (AV.d (D.sl opS c)), SV.val (AV.d (D.int IntKind.i64 (IntKind.i64.wrap (i + (1 : Int)))))])))))) (some (Rnd.again [SV.val (AV.d (D.sl opS c)), SV.val (AV.d (D.int IntKind.i64 (IntKind.i64.wrap (i + (1 : Int)))))])))) (some (Rnd.out (Ex.exit (0 : Nat)) [])) := by kernel_rfl
theorem lokq_Check_0 : LoopOK T (Ep (ENms)) (Ln (Lq_Check)) (loopAt 0 (loops (bodyOf Try.f19))) := by
  refine loop_ok (live := [0, 3]) (outs := []) (rets := [2]) (ks := [.v false [.sl [.int .i64, .sl [.int .i64, .str, .str, .str, .int .i64, .str, .str, .str, .int .i64, .str, .str, .str], .sl [.str], .sl [.sl [.int .i64, .str, .str, .str]], .sl [.int .i64, .int .i64, .str, .str, .str, .str, .int .i64], .str, .bool]], .v false [.int .i64]]) (G := lgq_Check_0) (lkq_Check_0) (lmq_Check_0) (by kernel_rfl) ?_
  rintro ⟨⟨(c : List (RowE [.int .i64, .sl [.int .i64, .str, .str, .str, .int .i64, .str, .str, .str, .int .i64, .str, .str, .str], .sl [.str], .sl [.sl [.int .i64, .str, .str, .str]], .sl [.int .i64, .int .i64, .str, .str, .str, .str, .int .i64], .str, .bool])), _⟩, ⟨(i : Int), _⟩, _⟩ x hok hx
  refine Leads.of_eq (ltq_Check_0 c i) ?_
  obtain ⟨hn, h0, h1⟩ := hok
  obtain ⟨m, rfl⟩ := Int.eq_ofNat_of_zero_le h0
  have hl := hn.len
  simp only [lgq_Check_0, Int.toNat_natCast] at hx
  rcases Nat.lt_or_ge m c.length with hlt | hge
  · have c1 : (0 : Int) ≤ (m : Int) ∧ (m : Int) < (c.length : Int) := ⟨by omega, by omega⟩
    rw [show c.length - m = (c.length - (m + 1)) + 1 by omega] at hx
    simp only [clB] at hx
    rw [wrap64 (x := (m : Int) + 1) (by omega) (by omega)]
    have hg : (decide ((opA c m).1 = 8) && hasS (namesT c false (m - 1)) (opA c m).2.2.2.2.2.1) = false → Goes [.v false [.sl [.int .i64, .sl [.int .i64, .str, .str, .str, .int .i64, .str, .str, .str, .int .i64, .str, .str, .str], .sl [.str], .sl [.sl [.int .i64, .str, .str, .str]], .sl [.int .i64, .int .i64, .str, .str, .str, .str, .int .i64], .str, .bool]], .v false [.int .i64]] lgq_Check_0 lkq_Check_0 lmq_Check_0 ((c, ()), ((m : Int), ()), ()) x (.again (St.svs [.v false [.sl [.int .i64, .sl [.int .i64, .str, .str, .str, .int .i64, .str, .str, .str, .int .i64, .str, .str, .str], .sl [.str], .sl [.sl [.int .i64, .str, .str, .str]], .sl [.int .i64, .int .i64, .str, .str, .str, .str, .int .i64], .str, .bool]], .v false [.int .i64]] ((c, ()), ((m : Int) + 1, ()), ()))) := fun e => by
      rw [e, Bool.false_or] at hx
      refine Goes.again (ks := [.v false [.sl [.int .i64, .sl [.int .i64, .str, .str, .str, .int .i64, .str, .str, .str, .int .i64, .str, .str, .str], .sl [.str], .sl [.sl [.int .i64, .str, .str, .str]], .sl [.int .i64, .int .i64, .str, .str, .str, .str, .int .i64], .str, .bool]], .v false [.int .i64]]) _ rfl ?_ ?_ ?_
      · exact ⟨hn, by omega, by omega⟩
      · simp only [lmq_Check_0]; omega
      · simp only [lgq_Check_0, toNat_add1]; exact hx
    refine Leads.brD (fun _ => Leads.chk c1 fun _ => Leads.brE (fun k8 => ?_) (fun k8 => Leads.one (hg ?_))) (fun q => absurd c1.2 q)
    · have k8 : (opA c m).1 = 8 := k8
      have hk : needsK (opA c m).1 = 1 := by rw [k8]; rfl
      obtain ⟨p1, _⟩ := (hn.steps m hlt).one hk
      rw [wrap64 (x := (m : Int) - 1) (by omega) (by omega), show ((m : Int) - 1).toNat = m - 1 by omega]
      have hlen := hn.names_len (j := m - 1) (by omega) false
      refine Leads.chk ⟨hn, by omega, by omega, fun z => by cases z⟩ fun _ => Leads.chk c1 fun _ => Leads.chk (Nat.le_trans hlen (by decide)) fun _ => Leads.br (fun z => Leads.one (Goes.out ?_)) (fun z => Leads.one (hg ?_))
      · have z : hasS (namesT c false (m - 1)) (opA c m).2.2.2.2.2.1 = true := z
        rw [decide_eq_true k8, z] at hx
        exact Out_leaf (Out_tt hx)
      · have z : hasS (namesT c false (m - 1)) (opA c m).2.2.2.2.2.1 = false := z
        rw [z, Bool.and_false]
    · have k8 : ¬ (opA c m).1 = 8 := k8
      rw [decide_eq_false k8, Bool.false_and]
  · rw [show c.length - m = 0 by omega] at hx
    exact Leads.brD (fun q => by omega) (fun _ => Leads.one (Goes.out (Out_leaf (Out_ff hx))))
theorem tq_Check (c : List (RowE [.int .i64, .sl [.int .i64, .str, .str, .str, .int .i64, .str, .str, .str, .int .i64, .str, .str, .str], .sl [.str], .sl [.sl [.int .i64, .str, .str, .str]], .sl [.int .i64, .int .i64, .str, .str, .str, .str, .int .i64], .str, .bool])) : evF T (Ep (ENms)) (Ln (Lq_Check)) Try.f19 [.d (.sl [.int .i64, .sl [.int .i64, .str, .str, .str, .int .i64, .str, .str, .str, .int .i64, .str, .str, .str], .sl [.str], .sl [.sl [.int .i64, .str, .str, .str]], .sl [.int .i64, .int .i64, .str, .str, .str, .str, .int .i64], .str, .bool] c)] =
    br (decide ((↑c.length : Int) > (128 : Int))) (some (SV.val (AV.d (D.int IntKind.i64 (3 : Int))))) (chk (szC c) (br (!shpB c (0 : Int)) (some (SV.val (AV.d (D.int IntKind.i64 (2 : Int))))) (chk (szC c) (br (nstB c (0 : Nat) c.length) (some (SV.val (AV.d (D.int IntKind.i64 (2 : Int))))) (chk (lkq_Check_0 ((c, ()), ((0 : Int), ()), ())) (br (clB c (Int.toNat (0 : Int)) (c.length - Int.toNat (0 : Int))) (some (SV.val (AV.d (D.int IntKind.i64 (6 : Int))))) (some (SV.val (AV.d (D.int IntKind.i64 (0 : Int))))))))))) := by kernel_rfl
theorem satq_Check : Sat P 19 (Sq_Check) := by
  refine sat_mk (LT := Ln (Lq_Check)) hC (SatE.ep okNms) mixed Try.func19 (by kernel_rfl) (c := bodyOf Try.f19) (by kernel_rfl) (by kernel_rfl) ?_ (loops1 (by kernel_rfl) (lokq_Check_0))
  rintro ⟨⟨(c : List (RowE [.int .i64, .sl [.int .i64, .str, .str, .str, .int .i64, .str, .str, .str, .int .i64, .str, .str, .str], .sl [.str], .sl [.sl [.int .i64, .str, .str, .str]], .sl [.int .i64, .int .i64, .str, .str, .str, .str, .int .i64], .str, .bool])), _⟩, _⟩ sv h
  refine Leads.eq (Leads.of_eq (tq_Check c) ?_)
  obtain ⟨hc, h⟩ := h
  have h := Out_leaf h
  rw [check_eq hc] at h
  unfold checkT at h
  refine Leads.brD (fun q => Leads.one ?_) (fun q => Leads.chk hc fun _ => Leads.br (fun z => Leads.one ?_) (fun z => Leads.chk hc fun _ => Leads.br (fun y => Leads.one ?_) (fun y => ?_)))
  · rw [if_pos (by omega)] at h; exact h.symm
  · have z : (!shpB c 0) = true := z
    have z : shpB c 0 = false := by simpa using z
    rw [if_neg (by omega), z, Bool.false_and, if_neg (by simp)] at h; exact h.symm
  · have y : nstB c 0 c.length = true := y
    rw [if_neg (by omega), y, Bool.not_true, Bool.and_false, if_neg (by simp)] at h; exact h.symm
  · have z : (!shpB c 0) = false := z
    have z : shpB c 0 = true := by simpa using z
    have y : nstB c 0 c.length = false := y
    rw [if_neg (by omega), z, y, Bool.not_false, Bool.true_and, if_pos rfl] at h
    refine Leads.chk ⟨(sh_ok (by omega) hc z).1, by omega, by omega⟩ fun _ => Leads.br (fun w => Leads.one ?_) (fun w => Leads.one ?_)
    · have w : clB c 0 c.length = true := w
      rw [w, if_pos rfl] at h; exact h.symm
    · have w : clB c 0 c.length = false := w
      rw [w, if_neg (by simp)] at h; exact h.symm
def Eq_Check : Es := (19, (Sq_Check)) :: ENms
theorem okq_Check : SatE P (En (Eq_Check)) := SatE.cons (satq_Check) okNms
/-! ### legation/legationlaw07.big -/
def Ll_big : Ls := []
def Sl_big := mkS [(false, [.sl [.int .i64, .sl [.int .i64, .str, .str, .str, .int .i64, .str, .str, .str, .int .i64, .str, .str, .str], .sl [.str], .sl [.sl [.int .i64, .str, .str, .str]], .sl [.int .i64, .int .i64, .str, .str, .str, .str, .int .i64], .str, .bool]])] fun ⟨⟨(c : List (RowE [.int .i64, .sl [.int .i64, .str, .str, .str, .int .i64, .str, .str, .str, .int .i64, .str, .str, .str], .sl [.str], .sl [.sl [.int .i64, .str, .str, .str]], .sl [.int .i64, .int .i64, .str, .str, .str, .str, .int .i64], .str, .bool])), _⟩, _⟩ => bl (decide (24 < (c.length : Int)) && decide ((c.length : Int) ≤ 128))
theorem tl_big (c : List (RowE [.int .i64, .sl [.int .i64, .str, .str, .str, .int .i64, .str, .str, .str, .int .i64, .str, .str, .str], .sl [.str], .sl [.sl [.int .i64, .str, .str, .str]], .sl [.int .i64, .int .i64, .str, .str, .str, .str, .int .i64], .str, .bool])) : evF T (Ep (Eq_Check)) (Ln (Ll_big)) Try.f13 [.d (.sl [.int .i64, .sl [.int .i64, .str, .str, .str, .int .i64, .str, .str, .str, .int .i64, .str, .str, .str], .sl [.str], .sl [.sl [.int .i64, .str, .str, .str]], .sl [.int .i64, .int .i64, .str, .str, .str, .str, .int .i64], .str, .bool] c)] =
    br (decide ((↑c.length : Int) > (24 : Int))) (some (SV.val (AV.d (D.bool (decide ((↑c.length : Int) ≤ (128 : Int))))))) (some (SV.val (AV.d (D.bool false)))) := by kernel_rfl
theorem satl_big : Sat P 13 (Sl_big) := by
  refine sat_mk (LT := Ln (Ll_big)) hC (SatE.ep okq_Check) mixed Try.func13 (by kernel_rfl) (c := bodyOf Try.f13) (by kernel_rfl) (by kernel_rfl) ?_ (loops0 (by kernel_rfl))
  rintro ⟨⟨(c : List (RowE [.int .i64, .sl [.int .i64, .str, .str, .str, .int .i64, .str, .str, .str, .int .i64, .str, .str, .str], .sl [.str], .sl [.sl [.int .i64, .str, .str, .str]], .sl [.int .i64, .int .i64, .str, .str, .str, .str, .int .i64], .str, .bool])), _⟩, _⟩ sv h
  refine Leads.eq (Leads.of_eq (tl_big c) ?_)
  obtain rfl := Out_leaf h
  refine Leads.brD (fun q => Leads.one ?_) (fun q => Leads.one ?_)
  · rw [decide_eq_true (show (24 : Int) < (c.length : Int) by omega), Bool.true_and]
  · rw [decide_eq_false (show ¬ (24 : Int) < (c.length : Int) by omega), Bool.false_and]
def El_big : Es := (13, (Sl_big)) :: Eq_Check
theorem okl_big : SatE P (En (El_big)) := SatE.cons (satl_big) okq_Check
/-! ### legation/legationlaw07.told -/
def Ll_told : Ls := []
def Sl_told := mkS [(false, [.sl [.str]]), (false, [.int .i64]), (false, [.sl [.int .i64, .sl [.int .i64, .str, .str, .str, .int .i64, .str, .str, .str, .int .i64, .str, .str, .str], .sl [.str], .sl [.sl [.int .i64, .str, .str, .str]], .sl [.int .i64, .int .i64, .str, .str, .str, .str, .int .i64], .str, .bool]]), (false, [.int .i64]), (false, [.bool])] fun ⟨⟨(l : List (RowE [.str])), _⟩, ⟨(e : Int), _⟩, ⟨(c : List (RowE [.int .i64, .sl [.int .i64, .str, .str, .str, .int .i64, .str, .str, .str, .int .i64, .str, .str, .str], .sl [.str], .sl [.sl [.int .i64, .str, .str, .str]], .sl [.int .i64, .int .i64, .str, .str, .str, .str, .int .i64], .str, .bool])), _⟩, ⟨(i : Int), _⟩, ⟨(certain : Bool), _⟩, _⟩ => .chk (szC c ∧ l.length ≤ 16384) (bl (told7 l e c i certain))
theorem tl_told (l : List (RowE [.str])) (e : Int) (c : List (RowE [.int .i64, .sl [.int .i64, .str, .str, .str, .int .i64, .str, .str, .str, .int .i64, .str, .str, .str], .sl [.str], .sl [.sl [.int .i64, .str, .str, .str]], .sl [.int .i64, .int .i64, .str, .str, .str, .str, .int .i64], .str, .bool])) (i : Int) (certain : Bool) : evF T (Ep (El_big)) (Ln (Ll_told)) Try.f16 [.d (.sl [.str] l), .d (.int .i64 e), .d (.sl [.int .i64, .sl [.int .i64, .str, .str, .str, .int .i64, .str, .str, .str, .int .i64, .str, .str, .str], .sl [.str], .sl [.sl [.int .i64, .str, .str, .str]], .sl [.int .i64, .int .i64, .str, .str, .str, .str, .int .i64], .str, .bool] c), .d (.int .i64 i), .d (.bool certain)] =
    chk (szC c) (br ((resS c).snd == (0 : Int)) (br (decide (i < (0 : Int))) (br (e != (1 : Int)) (some (SV.val (AV.d (D.bool false)))) (some (SV.val (AV.d (D.bool ((↑l.length : Int) == (0 : Int))))))) (br (decide (i ≥ (↑c.length : Int))) (br (e != (1 : Int)) (some (SV.val (AV.d (D.bool false)))) (some (SV.val (AV.d (D.bool ((↑l.length : Int) == (0 : Int))))))) (br (e != (resS c).snd) (some (SV.val (AV.d (D.bool false)))) (br ((resS c).snd != (0 : Int)) (some (SV.val (AV.d (D.bool ((↑l.length : Int) == (0 : Int)))))) (chk (OkN c ∧ (0 : Int) ≤ i ∧ i < (↑c.length : Int) ∧ (certain = true → OkC c)) (chk (l.length ≤ (1152921504606846976 : Nat) ∧ List.length (namesT c certain i.toNat) ≤ (1152921504606846976 : Nat)) (some (SV.val (AV.d (D.bool (sameX l (namesT c certain i.toNat)))))))))))) (br (e != (resS c).snd) (some (SV.val (AV.d (D.bool false)))) (br ((resS c).snd != (0 : Int)) (some (SV.val (AV.d (D.bool ((↑l.length : Int) == (0 : Int)))))) (chk (OkN c ∧ (0 : Int) ≤ i ∧ i < (↑c.length : Int) ∧ (certain = true → OkC c)) (chk (l.length ≤ (1152921504606846976 : Nat) ∧ List.length (namesT c certain i.toNat) ≤ (1152921504606846976 : Nat)) (some (SV.val (AV.d (D.bool (sameX l (namesT c certain i.toNat))))))))))) := by kernel_rfl
theorem satl_told : Sat P 16 (Sl_told) := by
  refine sat_mk (LT := Ln (Ll_told)) hC (SatE.ep okl_big) mixed Try.func16 (by kernel_rfl) (c := bodyOf Try.f16) (by kernel_rfl) (by kernel_rfl) ?_ (loops0 (by kernel_rfl))
  rintro ⟨⟨(l : List (RowE [.str])), _⟩, ⟨(e : Int), _⟩, ⟨(c : List (RowE [.int .i64, .sl [.int .i64, .str, .str, .str, .int .i64, .str, .str, .str, .int .i64, .str, .str, .str], .sl [.str], .sl [.sl [.int .i64, .str, .str, .str]], .sl [.int .i64, .int .i64, .str, .str, .str, .str, .int .i64], .str, .bool])), _⟩, ⟨(i : Int), _⟩, ⟨(certain : Bool), _⟩, _⟩ sv h
  refine Leads.eq (Leads.of_eq (tl_told l e c i certain) ?_)
  obtain ⟨⟨hc, hl⟩, h⟩ := h
  have h := Out_leaf h
  have fin : ∀ b, told7 l e c i certain = b → SV.val (.d (.bool b)) = sv := fun b q => by rw [h, q]
  have el : ((l.length : Int) == 0) = decide (l.length = 0) := by by_cases z : l.length = 0 <;> simp [z]
  have A : (atS c i).2 = 1 → Leads (br (e != 1) (some (SV.val (.d (.bool false)))) (some (SV.val (.d (.bool ((l.length : Int) == 0)))))) fun z => z = sv := fun ha => by
    have t1 : told7 l e c i certain = if e = 1 then decide (l.length = 0) else false := by unfold told7; rw [ha, if_neg (show ¬ (1 : Int) = 0 by decide)]
    refine Leads.brN (fun q => Leads.one (fin _ ?_)) (fun q => Leads.one (fin _ ?_))
    · rw [t1, if_pos q, el]
    · rw [t1, if_neg q]
  refine Leads.chk hc fun _ => Leads.brE (fun r => Leads.brD (fun i0 => A ?_) (fun i0 => Leads.brD (fun i1 => A ?_) (fun i1 => ?_))) (fun r => ?_)
  · unfold atS; rw [if_neg (by rw [r]; simp), if_pos (.inl i0)]
  · unfold atS; rw [if_neg (by rw [r]; simp), if_pos (.inr i1)]
  · have ha : (atS c i).2 = 0 := by unfold atS; rw [if_neg (by rw [r]; simp), if_neg (by omega)]
    obtain ⟨hn, hC, _⟩ := res_ok hc r
    obtain ⟨m, rfl⟩ := Int.eq_ofNat_of_zero_le (show (0 : Int) ≤ i by omega)
    have hlen := hn.names_len (j := m) (by omega) certain
    have hl : l.length ≤ 16384 := hl
    have t1 : told7 l e c m certain = if e = 0 then sameX l (namesT c certain m) else false := by unfold told7; rw [ha, if_pos rfl, Int.toNat_natCast]
    have r' : (resS c).2 = 0 := r
    rw [Int.toNat_natCast]
    refine Leads.brN (fun q => Leads.brN (fun _ => Leads.chk ⟨hn, by omega, by omega, fun _ => hC⟩ fun _ => Leads.chk ⟨by omega, by omega⟩ fun _ => Leads.one (fin _ ?_)) (fun z => absurd r z)) (fun q => Leads.one (fin _ ?_))
    · rw [t1, if_pos (by rw [← r']; exact q)]
    · rw [t1, if_neg (by rw [← r']; exact q)]
  · have ha : (atS c i).2 = (resS c).2 := by unfold atS; rw [if_pos r]
    have t1 : told7 l e c i certain = if e = (resS c).2 then decide (l.length = 0) else false := by unfold told7; rw [ha, if_neg r]
    refine Leads.brN (fun q => Leads.brN (fun z => absurd z r) (fun _ => Leads.one (fin _ ?_))) (fun q => Leads.one (fin _ ?_))
    · rw [t1, if_pos q, el]
    · rw [t1, if_neg q]
def El_told : Es := (16, (Sl_told)) :: El_big
theorem okl_told : SatE P (En (El_told)) := SatE.cons (satl_told) okl_big
/-! ### legation/legationlaw07.ScopeChecks -/
def Ll_Checks : Ls := []
def Sl_Checks := mkS [(false, [.sl [.int .i64, .sl [.int .i64, .str, .str, .str, .int .i64, .str, .str, .str, .int .i64, .str, .str, .str], .sl [.str], .sl [.sl [.int .i64, .str, .str, .str]], .sl [.int .i64, .int .i64, .str, .str, .str, .str, .int .i64], .str, .bool]])] fun ⟨⟨(c : List (RowE [.int .i64, .sl [.int .i64, .str, .str, .str, .int .i64, .str, .str, .str, .int .i64, .str, .str, .str], .sl [.str], .sl [.sl [.int .i64, .str, .str, .str]], .sl [.int .i64, .int .i64, .str, .str, .str, .str, .int .i64], .str, .bool])), _⟩, _⟩ => .chk (szC c) (bl true)
theorem tl_Checks (c : List (RowE [.int .i64, .sl [.int .i64, .str, .str, .str, .int .i64, .str, .str, .str, .int .i64, .str, .str, .str], .sl [.str], .sl [.sl [.int .i64, .str, .str, .str]], .sl [.int .i64, .int .i64, .str, .str, .str, .str, .int .i64], .str, .bool])) : evF T (Ep (El_told)) (Ln (Ll_Checks)) Try.f6 [.d (.sl [.int .i64, .sl [.int .i64, .str, .str, .str, .int .i64, .str, .str, .str, .int .i64, .str, .str, .str], .sl [.str], .sl [.sl [.int .i64, .str, .str, .str]], .sl [.int .i64, .int .i64, .str, .str, .str, .str, .int .i64], .str, .bool] c)] =
    br (decide ((24 : Int) < (↑c.length : Int)) && decide ((↑c.length : Int) ≤ (128 : Int))) (some (SV.val (AV.d (D.bool true)))) (chk (szC c) (chk (szC c) (br ((resS c).snd == (resS c).snd) (some (SV.val (AV.d (D.bool true)))) (some (SV.val (AV.d (D.bool false))))))) := by kernel_rfl
theorem satl_Checks : Sat P 6 (Sl_Checks) := by
  refine sat_mk (LT := Ln (Ll_Checks)) hC (SatE.ep okl_told) mixed Try.func6 (by kernel_rfl) (c := bodyOf Try.f6) (by kernel_rfl) (by kernel_rfl) ?_ (loops0 (by kernel_rfl))
  rintro ⟨⟨(c : List (RowE [.int .i64, .sl [.int .i64, .str, .str, .str, .int .i64, .str, .str, .str, .int .i64, .str, .str, .str], .sl [.str], .sl [.sl [.int .i64, .str, .str, .str]], .sl [.int .i64, .int .i64, .str, .str, .str, .str, .int .i64], .str, .bool])), _⟩, _⟩ sv h
  refine Leads.eq (Leads.of_eq (tl_Checks c) ?_)
  obtain ⟨hc, h⟩ := h
  obtain rfl := Out_leaf h
  exact Leads.br (fun _ => Leads.one rfl) (fun _ => Leads.chk hc fun _ => Leads.chk hc fun _ => Leads.brE (fun _ => Leads.one rfl) (fun q => absurd rfl q))
def El_Checks : Es := (6, (Sl_Checks)) :: El_told
theorem okl_Checks : SatE P (En (El_Checks)) := SatE.cons (satl_Checks) okl_told
/-! ### legation/legationlaw07.ScopeNames -/
def Ll_Names : Ls := []
def Sl_Names := mkS [(false, [.sl [.int .i64, .sl [.int .i64, .str, .str, .str, .int .i64, .str, .str, .str, .int .i64, .str, .str, .str], .sl [.str], .sl [.sl [.int .i64, .str, .str, .str]], .sl [.int .i64, .int .i64, .str, .str, .str, .str, .int .i64], .str, .bool]]), (false, [.int .i64])] fun ⟨⟨(c : List (RowE [.int .i64, .sl [.int .i64, .str, .str, .str, .int .i64, .str, .str, .str, .int .i64, .str, .str, .str], .sl [.str], .sl [.sl [.int .i64, .str, .str, .str]], .sl [.int .i64, .int .i64, .str, .str, .str, .str, .int .i64], .str, .bool])), _⟩, ⟨(i : Int), _⟩, _⟩ => .chk (szC c) (bl true)
theorem tl_Names (c : List (RowE [.int .i64, .sl [.int .i64, .str, .str, .str, .int .i64, .str, .str, .str, .int .i64, .str, .str, .str], .sl [.str], .sl [.sl [.int .i64, .str, .str, .str]], .sl [.int .i64, .int .i64, .str, .str, .str, .str, .int .i64], .str, .bool])) (i : Int) : evF T (Ep (El_Checks)) (Ln (Ll_Names)) Try.f4 [.d (.sl [.int .i64, .sl [.int .i64, .str, .str, .str, .int .i64, .str, .str, .str, .int .i64, .str, .str, .str], .sl [.str], .sl [.sl [.int .i64, .str, .str, .str]], .sl [.int .i64, .int .i64, .str, .str, .str, .str, .int .i64], .str, .bool] c), .d (.int .i64 i)] =
    br (decide ((24 : Int) < (↑c.length : Int)) && decide ((↑c.length : Int) ≤ (128 : Int))) (some (SV.val (AV.d (D.bool true)))) (chk (szC c) (chk (szC c) (chk (szC c ∧ (keys7 (atS c i).fst.fst).length ≤ (16384 : Nat)) (br (told7 (keys7 (atS c i).fst.fst) (atS c i).snd c i false) (chk (szC c ∧ (certs7 (atS c i).fst.fst).length ≤ (16384 : Nat)) (br (told7 (certs7 (atS c i).fst.fst) (atS c i).snd c i true) (some (SV.val (AV.d (D.bool true)))) (some (SV.val (AV.d (D.bool false)))))) (some (SV.val (AV.d (D.bool false)))))))) := by kernel_rfl
theorem satl_Names : Sat P 4 (Sl_Names) := by
  refine sat_mk (LT := Ln (Ll_Names)) hC (SatE.ep okl_Checks) mixed Try.func4 (by kernel_rfl) (c := bodyOf Try.f4) (by kernel_rfl) (by kernel_rfl) ?_ (loops0 (by kernel_rfl))
  rintro ⟨⟨(c : List (RowE [.int .i64, .sl [.int .i64, .str, .str, .str, .int .i64, .str, .str, .str, .int .i64, .str, .str, .str], .sl [.str], .sl [.sl [.int .i64, .str, .str, .str]], .sl [.int .i64, .int .i64, .str, .str, .str, .str, .int .i64], .str, .bool])), _⟩, ⟨(i : Int), _⟩, _⟩ sv h
  refine Leads.eq (Leads.of_eq (tl_Names c i) ?_)
  obtain ⟨hc, h⟩ := h
  obtain rfl := Out_leaf h
  have k1 := keys_len (atS c i).1.1
  have k2 := certs_len (atS c i).1.1
  have hi := (atS_inv c i).2
  refine Leads.br (fun _ => Leads.one rfl) (fun _ => Leads.chk hc fun _ => Leads.chk hc fun _ => Leads.chk ⟨hc, by omega⟩ fun _ => Leads.br (fun _ => Leads.chk ⟨hc, by omega⟩ fun _ => Leads.br (fun _ => Leads.one rfl) (fun q => ?_)) (fun q => ?_))
  · have q : told7 (certs7 (atS c i).1.1) (atS c i).2 c i true = false := q
    rw [told_certs hc] at q; cases q
  · have q : told7 (keys7 (atS c i).1.1) (atS c i).2 c i false = false := q
    rw [told_keys hc] at q; cases q
def El_Names : Es := (4, (Sl_Names)) :: El_Checks
theorem okl_Names : SatE P (En (El_Names)) := SatE.cons (satl_Names) okl_Checks
/-! ### legation/legationlaw07.ScopeFroms -/
def Ll_Froms : Ls := []
def Sl_Froms := mkS [(false, [.sl [.int .i64, .sl [.int .i64, .str, .str, .str, .int .i64, .str, .str, .str, .int .i64, .str, .str, .str], .sl [.str], .sl [.sl [.int .i64, .str, .str, .str]], .sl [.int .i64, .int .i64, .str, .str, .str, .str, .int .i64], .str, .bool]]), (false, [.int .i64])] fun ⟨⟨(c : List (RowE [.int .i64, .sl [.int .i64, .str, .str, .str, .int .i64, .str, .str, .str, .int .i64, .str, .str, .str], .sl [.str], .sl [.sl [.int .i64, .str, .str, .str]], .sl [.int .i64, .int .i64, .str, .str, .str, .str, .int .i64], .str, .bool])), _⟩, ⟨(i : Int), _⟩, _⟩ => .chk (szC c) (bl true)
theorem tl_Froms (c : List (RowE [.int .i64, .sl [.int .i64, .str, .str, .str, .int .i64, .str, .str, .str, .int .i64, .str, .str, .str], .sl [.str], .sl [.sl [.int .i64, .str, .str, .str]], .sl [.int .i64, .int .i64, .str, .str, .str, .str, .int .i64], .str, .bool])) (i : Int) : evF T (Ep (El_Names)) (Ln (Ll_Froms)) Try.f7 [.d (.sl [.int .i64, .sl [.int .i64, .str, .str, .str, .int .i64, .str, .str, .str, .int .i64, .str, .str, .str], .sl [.str], .sl [.sl [.int .i64, .str, .str, .str]], .sl [.int .i64, .int .i64, .str, .str, .str, .str, .int .i64], .str, .bool] c), .d (.int .i64 i)] =
    br (decide ((24 : Int) < (↑c.length : Int)) && decide ((↑c.length : Int) ≤ (128 : Int))) (some (SV.val (AV.d (D.bool true))))
  (chk (szC c)
    (chk (szC c)
      (br ((resS c).snd == (0 : Int)) (br (decide (i < (0 : Int))) (br ((atS c i).snd != (1 : Int)) (some (SV.val (AV.d (D.bool false)))) (br ((atS c i).fst.snd.fst == (0 : Int)) (some (SV.val (AV.d (D.bool true)))) (some (SV.val (AV.d (D.bool false)))))) (br (decide (i ≥ (↑c.length : Int))) (br ((atS c i).snd != (1 : Int)) (some (SV.val (AV.d (D.bool false)))) (br ((atS c i).fst.snd.fst == (0 : Int)) (some (SV.val (AV.d (D.bool true)))) (some (SV.val (AV.d (D.bool false)))))) (br ((atS c i).snd != (resS c).snd) (some (SV.val (AV.d (D.bool false)))) (br ((resS c).snd != (0 : Int)) (br ((atS c i).fst.snd.fst == (0 : Int)) (some (SV.val (AV.d (D.bool true)))) (some (SV.val (AV.d (D.bool false))))) (chk (szC c ∧ (-1 : Int) ≤ i ∧ i < (↑c.length : Int)) (br ((atS c i).fst.snd.fst != fromP c i) (some (SV.val (AV.d (D.bool false)))) (chk ((0 : Int) ≤ (atS c i).fst.snd.fst ∧ (atS c i).fst.snd.fst ≤ IntKind.i64.wrap (i + (1 : Int)) ∧ IntKind.i64.wrap (i + (1 : Int)) ≤ (↑c.length : Int)) (chk (szC c) (chk (szC (List.drop (Int.toNat (atS c i).fst.snd.fst) (List.take (IntKind.i64.wrap (i + (1 : Int))).toNat c))) (br ((atS c i).snd == (0 : Int)) (br ((atS (List.drop (Int.toNat (atS c i).fst.snd.fst) (List.take (IntKind.i64.wrap (i + (1 : Int))).toNat c)) (IntKind.i64.wrap ((↑(List.drop (Int.toNat (atS c i).fst.snd.fst) (List.take (IntKind.i64.wrap (i + (1 : Int))).toNat c)).length : Int) - (1 : Int)))).snd == (0 : Int)) (chk ((keys7 (atS c i).fst.fst).length ≤ (1152921504606846976 : Nat) ∧ (keys7 (atS (List.drop (Int.toNat (atS c i).fst.snd.fst) (List.take (IntKind.i64.wrap (i + (1 : Int))).toNat c)) (IntKind.i64.wrap ((↑(List.drop (Int.toNat (atS c i).fst.snd.fst) (List.take (IntKind.i64.wrap (i + (1 : Int))).toNat c)).length : Int) - (1 : Int)))).fst.fst).length ≤ (1152921504606846976 : Nat)) (br (sameX (keys7 (atS c i).fst.fst) (keys7 (atS (List.drop (Int.toNat (atS c i).fst.snd.fst) (List.take (IntKind.i64.wrap (i + (1 : Int))).toNat c)) (IntKind.i64.wrap ((↑(List.drop (Int.toNat (atS c i).fst.snd.fst) (List.take (IntKind.i64.wrap (i + (1 : Int))).toNat c)).length : Int) - (1 : Int)))).fst.fst)) (some (SV.val (AV.d (D.bool true)))) (some (SV.val (AV.d (D.bool false)))))) (some (SV.val (AV.d (D.bool false))))) (some (SV.val (AV.d (D.bool false))))))))))))))
        (br ((atS c i).snd != (resS c).snd) (some (SV.val (AV.d (D.bool false)))) (br ((resS c).snd != (0 : Int)) (br ((atS c i).fst.snd.fst == (0 : Int)) (some (SV.val (AV.d (D.bool true)))) (some (SV.val (AV.d (D.bool false))))) (chk (szC c ∧ (-1 : Int) ≤ i ∧ i < (↑c.length : Int)) (br ((atS c i).fst.snd.fst != fromP c i) (some (SV.val (AV.d (D.bool false)))) (chk ((0 : Int) ≤ (atS c i).fst.snd.fst ∧ (atS c i).fst.snd.fst ≤ IntKind.i64.wrap (i + (1 : Int)) ∧ IntKind.i64.wrap (i + (1 : Int)) ≤ (↑c.length : Int)) (chk (szC c) (chk (szC (List.drop (Int.toNat (atS c i).fst.snd.fst) (List.take (IntKind.i64.wrap (i + (1 : Int))).toNat c))) (br ((atS c i).snd == (0 : Int)) (br ((atS (List.drop (Int.toNat (atS c i).fst.snd.fst) (List.take (IntKind.i64.wrap (i + (1 : Int))).toNat c)) (IntKind.i64.wrap ((↑(List.drop (Int.toNat (atS c i).fst.snd.fst) (List.take (IntKind.i64.wrap (i + (1 : Int))).toNat c)).length : Int) - (1 : Int)))).snd == (0 : Int)) (chk ((keys7 (atS c i).fst.fst).length ≤ (1152921504606846976 : Nat) ∧ (keys7 (atS (List.drop (Int.toNat (atS c i).fst.snd.fst) (List.take (IntKind.i64.wrap (i + (1 : Int))).toNat c)) (IntKind.i64.wrap ((↑(List.drop (Int.toNat (atS c i).fst.snd.fst) (List.take (IntKind.i64.wrap (i + (1 : Int))).toNat c)).length : Int) - (1 : Int)))).fst.fst).length ≤ (1152921504606846976 : Nat)) (br (sameX (keys7 (atS c i).fst.fst) (keys7 (atS (List.drop (Int.toNat (atS c i).fst.snd.fst) (List.take (IntKind.i64.wrap (i + (1 : Int))).toNat c)) (IntKind.i64.wrap ((↑(List.drop (Int.toNat (atS c i).fst.snd.fst) (List.take (IntKind.i64.wrap (i + (1 : Int))).toNat c)).length : Int) - (1 : Int)))).fst.fst)) (some (SV.val (AV.d (D.bool true)))) (some (SV.val (AV.d (D.bool false)))))) (some (SV.val (AV.d (D.bool false))))) (some (SV.val (AV.d (D.bool false))))))))))))))) := by kernel_rfl
theorem satl_Froms : Sat P 7 (Sl_Froms) := by
  refine sat_mk (LT := Ln (Ll_Froms)) hC (SatE.ep okl_Names) mixed Try.func7 (by kernel_rfl) (c := bodyOf Try.f7) (by kernel_rfl) (by kernel_rfl) ?_ (loops0 (by kernel_rfl))
  rintro ⟨⟨(c : List (RowE [.int .i64, .sl [.int .i64, .str, .str, .str, .int .i64, .str, .str, .str, .int .i64, .str, .str, .str], .sl [.str], .sl [.sl [.int .i64, .str, .str, .str]], .sl [.int .i64, .int .i64, .str, .str, .str, .str, .int .i64], .str, .bool])), _⟩, ⟨(i : Int), _⟩, _⟩ sv h
  refine Leads.eq (Leads.of_eq (tl_Froms c i) ?_)
  obtain ⟨hc, h⟩ := h
  obtain rfl := Out_leaf h
  have hcl : c.length ≤ 140737488355328 := hc.1
  have Z : ¬ (atS c i).2 = 0 → Leads (br ((atS c i).1.2.1 == 0) (some (SV.val (.d (.bool true)))) (some (SV.val (.d (.bool false))))) fun z => z = SV.val (.d (.bool true)) := fun ha =>
    Leads.brE (fun _ => Leads.one rfl) (fun z => absurd (show (atS c i).1.2.1 = 0 by rw [at_out ha]; rfl) z)
  refine Leads.br (fun _ => Leads.one rfl) (fun _ => Leads.chk hc fun _ => Leads.chk hc fun _ => Leads.brE (fun r => Leads.brD (fun i0 => ?_) (fun i0 => Leads.brD (fun i1 => ?_) (fun i1 => ?_))) (fun r => ?_))
  · have ha : (atS c i).2 = 1 := by unfold atS; rw [if_neg (by rw [r]; simp), if_pos (.inl i0)]
    exact Leads.brN (fun _ => Z (by rw [ha]; decide)) (fun z => absurd ha z)
  · have ha : (atS c i).2 = 1 := by unfold atS; rw [if_neg (by rw [r]; simp), if_pos (.inr i1)]
    exact Leads.brN (fun _ => Z (by rw [ha]; decide)) (fun z => absurd ha z)
  · have ha : (atS c i).2 = 0 := by unfold atS; rw [if_neg (by rw [r]; simp), if_neg (by omega)]
    obtain ⟨m, rfl⟩ := Int.eq_ofNat_of_zero_le (show (0 : Int) ≤ i by omega)
    have hfr := at_from hc ha
    have hfb : 0 ≤ fromP c m ∧ fromP c m ≤ (m : Int) := by unfold fromP; rw [Int.toNat_natCast]; exact fromF_le c m 1
    obtain ⟨f, hf⟩ : ∃ f : Nat, fromP c m = (f : Int) := ⟨(fromP c m).toNat, (Int.toNat_of_nonneg hfb.1).symm⟩
    rw [hf] at hfr hfb
    obtain ⟨p1, p2, p3⟩ := part_eq hc ha hfr
    have b1 : (-1 : Int) ≤ (m : Int) ∧ (m : Int) < (c.length : Int) := ⟨by omega, by omega⟩
    have b2 : (0 : Int) ≤ (f : Int) ∧ (f : Int) ≤ (m : Int) + 1 ∧ (m : Int) + 1 ≤ (c.length : Int) := ⟨by omega, by omega, by omega⟩
    have hl := seg_len (c := c) (f := f) (j := m) (by omega)
    rw [hfr, hf, wrap64 (x := (m : Int) + 1) (by omega) (by omega), toNat_add1, show Int.toNat (f : Int) = f from Int.toNat_natCast f]
    have hsg : List.drop f (List.take (m + 1) c) = seg c f m := rfl
    rw [hsg, wrap64 (x := ((seg c f m).length : Int) - 1) (by omega) (by omega), show ((seg c f m).length : Int) - 1 = (((seg c f m).length - 1 : Nat) : Int) by omega]
    have k1 := keys_len (atS c m).1.1
    have k2 := keys_len (atS (seg c f m) (((seg c f m).length - 1 : Nat) : Int)).1.1
    have hi := (atS_inv c m).2
    have hi2 := (atS_inv (seg c f m) (((seg c f m).length - 1 : Nat) : Int)).2
    refine Leads.brN (fun _ => Leads.brN (fun _ => Leads.chk ⟨hc, b1⟩ fun _ => Leads.brN (fun _ => Leads.chk b2 fun _ => Leads.chk hc fun _ => Leads.chk (seg_sz hc f m) fun _ => Leads.brE (fun _ => Leads.brE (fun _ => Leads.chk ⟨by omega, by omega⟩ fun _ => Leads.br (fun _ => Leads.one rfl) (fun q => ?_)) (fun z => absurd p2 z)) (fun z => absurd ha z)) (fun z => absurd rfl z)) (fun z => absurd r z)) (fun z => absurd (ha.trans r.symm) z)
    have q : sameX (keys7 (atS c m).1.1) (keys7 (atS (seg c f m) (((seg c f m).length - 1 : Nat) : Int)).1.1) = false := q
    rw [p3, sameX_refl] at q; cases q
  · have ha : (atS c i).2 = (resS c).2 := by unfold atS; rw [if_pos r]
    exact Leads.brN (fun _ => Leads.brN (fun z => absurd z r) (fun _ => Z (by rw [ha]; exact r))) (fun z => absurd ha z)
end Go.Proofs.Ytfpojhphmgnfhaa.T7
