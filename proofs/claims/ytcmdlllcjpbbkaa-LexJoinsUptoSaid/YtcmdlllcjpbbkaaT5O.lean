/- Part of a proof of the seat's statements: no statement by itself. -/
import Derived.Test.YtcmdlllcjpbbkaaT5N
set_option maxRecDepth 100000
open Go.Proofs.Ytcmdlllcjpbbkaa.Lg Go Go.Proofs.Ytcmdlllcjpbbkaa.Sp
open Go.Proofs
namespace Go.Proofs.Ytcmdlllcjpbbkaa.T5


/-! ### legation/legationref05.Join -/
def lkr5_Join_0 : St [.v false [.sl [.int .i64, .str, .int .i64, .str, .str, .str, .int .i64]], .v false [.str], .v false [.int .i64]] → Prop := fun ⟨⟨(l : List (RowE [.int .i64, .str, .int .i64, .str, .str, .str, .int .i64])), _⟩, ⟨(out : List UInt8), _⟩, ⟨(i : Int), _⟩, _⟩ => 0 ≤ i ∧ i ≤ (l.length : Int) ∧ l.length ≤ 140737488355328 ∧ allW l ∧ out.length + (joinF (l.drop i.toNat)).length ≤ 1152921504606846976
def lgr5_Join_0 : St [.v false [.sl [.int .i64, .str, .int .i64, .str, .str, .str, .int .i64]], .v false [.str], .v false [.int .i64]] → Tr (Ex × List SV) := fun ⟨⟨(l : List (RowE [.int .i64, .str, .int .i64, .str, .str, .str, .int .i64])), _⟩, ⟨(out : List UInt8), _⟩, ⟨(i : Int), _⟩, _⟩ => .leaf (.exit 0, [.val (.d (.str  (out ++ joinI i.toNat (l.drop i.toNat))))])
def lmr5_Join_0 : St [.v false [.sl [.int .i64, .str, .int .i64, .str, .str, .str, .int .i64]], .v false [.str], .v false [.int .i64]] → Nat := fun ⟨⟨(l : List (RowE [.int .i64, .str, .int .i64, .str, .str, .str, .int .i64])), _⟩, ⟨(out : List UInt8), _⟩, ⟨(i : Int), _⟩, _⟩ => l.length - i.toNat
def lsr5_Join_0 : LoopS := mkR [0, 3, 4] [3] [] [.v false [.sl [.int .i64, .str, .int .i64, .str, .str, .str, .int .i64]], .v false [.str], .v false [.int .i64]] (fun r => .chk (lkr5_Join_0 r) (lgr5_Join_0 r))
def Lr5_Join : Ls := [(3, lsr5_Join_0)]
def Sr5_Join := mkS [(false, [.sl [.int .i64, .str, .int .i64, .str, .str, .str, .int .i64]])] fun ⟨⟨(l : List (RowE [.int .i64, .str, .int .i64, .str, .str, .str, .int .i64])), _⟩, _⟩ => .chk (allW l ∧ l.length ≤ 140737488355328 ∧ (joinF l).length ≤ 1152921504606846976) (.leaf (.val (.d (.str (joinS l)))))
theorem ltr5_Join_0 (l : List (RowE [.int .i64, .str, .int .i64, .str, .str, .str, .int .i64])) (out : List UInt8) (i : Int) : evRound T (En (Er5_text)) (Ln (Lr5_Join)) (loopAt 0 (loops (bodyOf Try.f16))) (lsr5_Join_0) [.val (.d (.sl [.int .i64, .str, .int .i64, .str, .str, .str, .int .i64] l)), .val (.d (.str  out)), .val (.d (.int .i64 i))] =
    br (decide (i < (↑l.length : Int)))
  (br (decide (i > (0 : Int))) (chk ((↑out.length : Int) + (↑[(32 : UInt8)].length : Int) ≤ maxI) (chk ((0 : Int) ≤ i ∧ i < (↑l.length : Int)) (chk (List.length (getR tkS l i).snd.fst ≤ (140737488355328 : Nat) ∧ List.length (getR tkS l i).snd.snd.snd.fst ≤ (140737488355328 : Nat) ∧ List.length (getR tkS l i).snd.snd.snd.snd.fst ≤ (140737488355328 : Nat) ∧ List.length (getR tkS l i).snd.snd.snd.snd.snd.fst ≤ (140737488355328 : Nat)) (chk ((↑(out ++ [(32 : UInt8)]).length : Int) + (↑(List.length (wtext ((getR tkS l i).fst, (getR tkS l i).snd.fst, (getR tkS l i).snd.snd.fst, (getR tkS l i).snd.snd.snd.fst, (getR tkS l i).snd.snd.snd.snd.fst, (getR tkS l i).snd.snd.snd.snd.snd.fst, (getR tkS l i).snd.snd.snd.snd.snd.snd.fst, ()))) : Int) ≤ maxI) (some (Rnd.again [SV.val (AV.d (D.sl tkS l)), SV.val (AV.d (D.str (out ++ [(32 : UInt8)] ++ wtext ((getR tkS l i).fst, (getR tkS l i).snd.fst, (getR tkS l i).snd.snd.fst, (getR tkS l i).snd.snd.snd.fst, (getR tkS l i).snd.snd.snd.snd.fst, (getR tkS l i).snd.snd.snd.snd.snd.fst, (getR tkS l i).snd.snd.snd.snd.snd.snd.fst, ())))), SV.val (AV.d (D.int IntKind.i64 (IntKind.i64.wrap (i + (1 : Int)))))]))))))
    (chk ((0 : Int) ≤ i ∧ i < (↑l.length : Int)) (chk (List.length (getR tkS l i).snd.fst ≤ (140737488355328 : Nat) ∧ List.length (getR tkS l i).snd.snd.snd.fst ≤ (140737488355328 : Nat) ∧ List.length (getR tkS l i).snd.snd.snd.snd.fst ≤ (140737488355328 : Nat) ∧ List.length (getR tkS l i).snd.snd.snd.snd.snd.fst ≤ (140737488355328 : Nat)) (chk ((↑out.length : Int) + (↑(List.length (wtext ((getR tkS l i).fst, (getR tkS l i).snd.fst, (getR tkS l i).snd.snd.fst, (getR tkS l i).snd.snd.snd.fst, (getR tkS l i).snd.snd.snd.snd.fst, (getR tkS l i).snd.snd.snd.snd.snd.fst, (getR tkS l i).snd.snd.snd.snd.snd.snd.fst, ()))) : Int) ≤ maxI) (some (Rnd.again [SV.val (AV.d (D.sl tkS l)), SV.val (AV.d (D.str (out ++ wtext ((getR tkS l i).fst, (getR tkS l i).snd.fst, (getR tkS l i).snd.snd.fst, (getR tkS l i).snd.snd.snd.fst, (getR tkS l i).snd.snd.snd.snd.fst, (getR tkS l i).snd.snd.snd.snd.snd.fst, (getR tkS l i).snd.snd.snd.snd.snd.snd.fst, ())))), SV.val (AV.d (D.int IntKind.i64 (IntKind.i64.wrap (i + (1 : Int)))))]))))))
  (some (Rnd.out (Ex.exit (0 : Nat)) [SV.val (AV.d (D.str out))])) := by kernel_rfl
theorem lokr5_Join_0 : LoopOK T (En (Er5_text)) (Ln (Lr5_Join)) (loopAt 0 (loops (bodyOf Try.f16))) := by
  refine loop_ok (live := [0, 3, 4]) (outs := [3]) (rets := []) (ks := [.v false [.sl [.int .i64, .str, .int .i64, .str, .str, .str, .int .i64]], .v false [.str], .v false [.int .i64]]) (G := lgr5_Join_0) (lkr5_Join_0) (lmr5_Join_0) (by kernel_rfl) ?_
  rintro ⟨⟨(l : List (RowE [.int .i64, .str, .int .i64, .str, .str, .str, .int .i64])), _⟩, ⟨(out : List UInt8), _⟩, ⟨(i : Int), _⟩, _⟩ x hok hx
  refine Leads.of_eq (ltr5_Join_0 l out i) ?_
  obtain ⟨h0, h1, h2, h3, h4⟩ := hok
  obtain ⟨m, rfl⟩ := Int.eq_ofNat_of_zero_le h0
  obtain rfl := Out_leaf hx
  simp only [Int.toNat_natCast] at h4 ⊢
  rcases drop_cases l m with ⟨hle, hd⟩ | ⟨t, hlt, hd, hb⟩
  · refine Leads.brD (fun q => by omega) (fun _ => Leads.one (Goes.out ?_))
    rw [hd, joinI_nil, List.append_nil]
  · have ht := h3 t (List.mem_of_getElem? hb)
    rw [hd, joinF_cons] at h4
    rw [hd, getR_of hb, wrap64 (by omega) (by omega), joinI_cons]
    have et : wtext (t.1, t.2.1, t.2.2.1, t.2.2.2.1, t.2.2.2.2.1, t.2.2.2.2.2.1, t.2.2.2.2.2.2.1, ()) = wtext t := rfl
    rw [et]
    have key : ∀ o', o' = out ++ (if m = 0 then wtext t else 32 :: wtext t) → Goes [.v false [.sl [.int .i64, .str, .int .i64, .str, .str, .str, .int .i64]], .v false [.str], .v false [.int .i64]] lgr5_Join_0 lkr5_Join_0 lmr5_Join_0 ((l, ()), (out, ()), ((m : Int), ()), ()) (.exit 0, [.val (.d (.str (out ++ ((if m = 0 then wtext t else 32 :: wtext t) ++ joinF (l.drop (m + 1))))))]) (.again [.val (.d (.sl tkS l)), .val (.d (.str o')), .val (.d (.int .i64 ((m : Int) + 1)))]) := by
      rintro o' rfl
      refine Goes.again (ks := [.v false [.sl [.int .i64, .str, .int .i64, .str, .str, .str, .int .i64]], .v false [.str], .v false [.int .i64]]) ((_, ()), (_, ()), (_, ()), ()) rfl ?_ ?_ ?_
      · refine ⟨by omega, by omega, h2, h3, ?_⟩
        rw [toNat_add1, List.length_append]; split <;> (try simp only [List.length_cons]) <;> omega
      · simp only [lmr5_Join_0]; omega
      · simp only [lgr5_Join_0, toNat_add1, joinI_succ, List.append_assoc]; rfl
    refine Leads.brD (fun _ => Leads.brD (fun q => Leads.chk (by simp [maxI]; omega) fun _ => Leads.chk (by omega) fun _ => Leads.chk ht fun _ => Leads.chk (by simp [maxI]; omega) fun _ => Leads.one (key _ ?_)) (fun q => Leads.chk (by omega) fun _ => Leads.chk ht fun _ => Leads.chk (by simp [maxI]; omega) fun _ => Leads.one (key _ ?_))) (fun q => by omega)
    · rw [if_neg (by omega)]; simp
    · rw [if_pos (by omega)]
theorem tr5_Join (l : List (RowE [.int .i64, .str, .int .i64, .str, .str, .str, .int .i64])) : evF T (En (Er5_text)) (Ln (Lr5_Join)) Try.f16 [.d (.sl [.int .i64, .str, .int .i64, .str, .str, .str, .int .i64] l)] =
    chk (lkr5_Join_0 ((l, ()), ([], ()), ((0 : Int), ()), ())) (some (SV.val (AV.d (D.str ([] ++ joinI (Int.toNat (0 : Int)) (List.drop (Int.toNat (0 : Int)) l)))))) := by kernel_rfl
theorem satr5_Join : Sat P 16 (Sr5_Join) := by
  refine sat_mk (LT := Ln (Lr5_Join)) hC okr5_text mixed Try.func16 (by kernel_rfl) (c := bodyOf Try.f16) (by kernel_rfl) (by kernel_rfl) ?_ (loops1 (by kernel_rfl) (lokr5_Join_0))
  rintro ⟨⟨(l : List (RowE [.int .i64, .str, .int .i64, .str, .str, .str, .int .i64])), _⟩, _⟩ sv h
  refine Leads.eq (Leads.of_eq (tr5_Join l) ?_)
  obtain ⟨⟨h1, h2, h3⟩, h⟩ := h
  have h := Out_leaf h
  refine Leads.chk ⟨by omega, by omega, h2, h1, by simpa using h3⟩ fun _ => Leads.one ?_
  rw [h]; rfl
def Er5_Join : Es := (16, Sr5_Join) :: Er5_text
theorem okr5_Join : SatE P (En (Er5_Join)) := SatE.cons (satr5_Join) okr5_text
/-! ### legation/lex.Join -/
def lklx_Join_0 : St [.v false [.str], .v false [.sl [.int .i64, .str, .int .i64, .str, .str, .str, .int .i64]], .v false [.int .i64], .v false [.int .i64]] → Prop := fun ⟨⟨(out : List UInt8), _⟩, ⟨(l : List (RowE [.int .i64, .str, .int .i64, .str, .str, .str, .int .i64])), _⟩, ⟨(x9 : Int), _⟩, ⟨(x10 : Int), _⟩, _⟩ => x9 = (l.length : Int) ∧ 0 ≤ x10 ∧ x10 ≤ (l.length : Int) ∧ l.length ≤ 140737488355328 ∧ allW l ∧ out.length + (joinF (l.drop x10.toNat)).length ≤ 1152921504606846976
def lglx_Join_0 : St [.v false [.str], .v false [.sl [.int .i64, .str, .int .i64, .str, .str, .str, .int .i64]], .v false [.int .i64], .v false [.int .i64]] → Tr (Ex × List SV) := fun ⟨⟨(out : List UInt8), _⟩, ⟨(l : List (RowE [.int .i64, .str, .int .i64, .str, .str, .str, .int .i64])), _⟩, ⟨(x9 : Int), _⟩, ⟨(x10 : Int), _⟩, _⟩ => .leaf (.exit 0, [.val (.d (.str  (out ++ joinI x10.toNat (l.drop x10.toNat))))])
def lmlx_Join_0 : St [.v false [.str], .v false [.sl [.int .i64, .str, .int .i64, .str, .str, .str, .int .i64]], .v false [.int .i64], .v false [.int .i64]] → Nat := fun ⟨⟨(out : List UInt8), _⟩, ⟨(l : List (RowE [.int .i64, .str, .int .i64, .str, .str, .str, .int .i64])), _⟩, ⟨(x9 : Int), _⟩, ⟨(x10 : Int), _⟩, _⟩ => l.length - x10.toNat
def lslx_Join_0 : LoopS := mkR [3, 8, 9, 10] [3] [] [.v false [.str], .v false [.sl [.int .i64, .str, .int .i64, .str, .str, .str, .int .i64]], .v false [.int .i64], .v false [.int .i64]] (fun r => .chk (lklx_Join_0 r) (lglx_Join_0 r))
def Llx_Join : Ls := [(3, lslx_Join_0)]
def Slx_Join := mkS [(false, [.sl [.int .i64, .str, .int .i64, .str, .str, .str, .int .i64]])] fun ⟨⟨(l : List (RowE [.int .i64, .str, .int .i64, .str, .str, .str, .int .i64])), _⟩, _⟩ => .chk (allW l ∧ l.length ≤ 140737488355328 ∧ (joinF l).length ≤ 1152921504606846976) (.leaf (.val (.d (.str (joinS l)))))
theorem ltlx_Join_0 (out : List UInt8) (l : List (RowE [.int .i64, .str, .int .i64, .str, .str, .str, .int .i64])) (x9 : Int) (x10 : Int) : evRound T (En (Er5_Join)) (Ln (Llx_Join)) (loopAt 0 (loops (bodyOf Try.f15))) (lslx_Join_0) [.val (.d (.str  out)), .val (.d (.sl [.int .i64, .str, .int .i64, .str, .str, .str, .int .i64] l)), .val (.d (.int .i64 x9)), .val (.d (.int .i64 x10))] =
    br (decide (x10 < x9))
  (chk ((0 : Int) ≤ x10 ∧ x10 < (↑l.length : Int))
    (br (decide (x10 > (0 : Int)))
      (chk ((↑out.length : Int) + (↑[(32 : UInt8)].length : Int) ≤ maxI)
        (br ((getR tkS l x10).fst == (2 : Int)) (chk ((↑[(63 : UInt8)].length : Int) + (↑(List.length (getR tkS l x10).snd.fst) : Int) ≤ maxI) (chk ((↑(out ++ [(32 : UInt8)]).length : Int) + (↑([(63 : UInt8)] ++ (getR tkS l x10).snd.fst).length : Int) ≤ maxI) (some (Rnd.again [SV.val (AV.d (D.str (out ++ [(32 : UInt8)] ++ ([(63 : UInt8)] ++ (getR tkS l x10).snd.fst)))), SV.val (AV.d (D.sl tkS l)), SV.val (AV.d (D.int IntKind.i64 x9)), SV.val (AV.d (D.int IntKind.i64 (IntKind.i64.wrap (x10 + (1 : Int)))))]))))
          (br ((getR tkS l x10).fst == (3 : Int)) (chk (List.length (getR tkS l x10).snd.snd.snd.fst ≤ (140737488355328 : Nat) ∧ List.length (getR tkS l x10).snd.snd.snd.snd.fst ≤ (140737488355328 : Nat) ∧ List.length (getR tkS l x10).snd.snd.snd.snd.snd.fst ≤ (140737488355328 : Nat)) (br (right (getR tkS l x10).snd.snd.fst (getR tkS l x10).snd.snd.snd.fst (getR tkS l x10).snd.snd.snd.snd.fst (getR tkS l x10).snd.snd.snd.snd.snd.fst) (chk ((↑(out ++ [(32 : UInt8)]).length : Int) + (↑(List.length (textS (getR tkS l x10).snd.snd.fst (getR tkS l x10).snd.snd.snd.fst (getR tkS l x10).snd.snd.snd.snd.fst (getR tkS l x10).snd.snd.snd.snd.snd.fst)) : Int) ≤ maxI) (some (Rnd.again [SV.val (AV.d (D.str (out ++ [(32 : UInt8)] ++ textS (getR tkS l x10).snd.snd.fst (getR tkS l x10).snd.snd.snd.fst (getR tkS l x10).snd.snd.snd.snd.fst (getR tkS l x10).snd.snd.snd.snd.snd.fst))), SV.val (AV.d (D.sl tkS l)), SV.val (AV.d (D.int IntKind.i64 x9)), SV.val (AV.d (D.int IntKind.i64 (IntKind.i64.wrap (x10 + (1 : Int)))))]))) (chk ((↑(out ++ [(32 : UInt8)]).length : Int) + (↑(List.nil (α := RowE [.int .u8])).length : Int) ≤ maxI) (some (Rnd.again [SV.val (AV.d (D.str (out ++ [(32 : UInt8)] ++ []))), SV.val (AV.d (D.sl tkS l)), SV.val (AV.d (D.int IntKind.i64 x9)), SV.val (AV.d (D.int IntKind.i64 (IntKind.i64.wrap (x10 + (1 : Int)))))]))))) (chk ((↑(out ++ [(32 : UInt8)]).length : Int) + (↑(List.length (getR tkS l x10).snd.fst) : Int) ≤ maxI) (some (Rnd.again [SV.val (AV.d (D.str (out ++ [(32 : UInt8)] ++ (getR tkS l x10).snd.fst))), SV.val (AV.d (D.sl tkS l)), SV.val (AV.d (D.int IntKind.i64 x9)), SV.val (AV.d (D.int IntKind.i64 (IntKind.i64.wrap (x10 + (1 : Int)))))]))))))
      (br ((getR tkS l x10).fst == (2 : Int)) (chk ((↑[(63 : UInt8)].length : Int) + (↑(List.length (getR tkS l x10).snd.fst) : Int) ≤ maxI) (chk ((↑out.length : Int) + (↑([(63 : UInt8)] ++ (getR tkS l x10).snd.fst).length : Int) ≤ maxI) (some (Rnd.again [SV.val (AV.d (D.str (out ++ ([(63 : UInt8)] ++ (getR tkS l x10).snd.fst)))), SV.val (AV.d (D.sl tkS l)), SV.val (AV.d (D.int IntKind.i64 x9)), SV.val (AV.d (D.int IntKind.i64 (IntKind.i64.wrap (x10 + (1 : Int)))))]))))
        (br ((getR tkS l x10).fst == (3 : Int)) (chk (List.length (getR tkS l x10).snd.snd.snd.fst ≤ (140737488355328 : Nat) ∧ List.length (getR tkS l x10).snd.snd.snd.snd.fst ≤ (140737488355328 : Nat) ∧ List.length (getR tkS l x10).snd.snd.snd.snd.snd.fst ≤ (140737488355328 : Nat)) (br (right (getR tkS l x10).snd.snd.fst (getR tkS l x10).snd.snd.snd.fst (getR tkS l x10).snd.snd.snd.snd.fst (getR tkS l x10).snd.snd.snd.snd.snd.fst) (chk ((↑out.length : Int) + (↑(List.length (textS (getR tkS l x10).snd.snd.fst (getR tkS l x10).snd.snd.snd.fst (getR tkS l x10).snd.snd.snd.snd.fst (getR tkS l x10).snd.snd.snd.snd.snd.fst)) : Int) ≤ maxI) (some (Rnd.again [SV.val (AV.d (D.str (out ++ textS (getR tkS l x10).snd.snd.fst (getR tkS l x10).snd.snd.snd.fst (getR tkS l x10).snd.snd.snd.snd.fst (getR tkS l x10).snd.snd.snd.snd.snd.fst))), SV.val (AV.d (D.sl tkS l)), SV.val (AV.d (D.int IntKind.i64 x9)), SV.val (AV.d (D.int IntKind.i64 (IntKind.i64.wrap (x10 + (1 : Int)))))]))) (chk ((↑out.length : Int) + (↑(List.nil (α := RowE [.int .u8])).length : Int) ≤ maxI) (some (Rnd.again [SV.val (AV.d (D.str (out ++ []))), SV.val (AV.d (D.sl tkS l)), SV.val (AV.d (D.int IntKind.i64 x9)), SV.val (AV.d (D.int IntKind.i64 (IntKind.i64.wrap (x10 + (1 : Int)))))]))))) (chk ((↑out.length : Int) + (↑(List.length (getR tkS l x10).snd.fst) : Int) ≤ maxI) (some (Rnd.again [SV.val (AV.d (D.str (out ++ (getR tkS l x10).snd.fst))), SV.val (AV.d (D.sl tkS l)), SV.val (AV.d (D.int IntKind.i64 x9)), SV.val (AV.d (D.int IntKind.i64 (IntKind.i64.wrap (x10 + (1 : Int)))))])))))))
  (some (Rnd.out (Ex.exit (0 : Nat)) [SV.val (AV.d (D.str out))])) := by kernel_rfl
theorem loklx_Join_0 : LoopOK T (En (Er5_Join)) (Ln (Llx_Join)) (loopAt 0 (loops (bodyOf Try.f15))) := by
  refine loop_ok (live := [3, 8, 9, 10]) (outs := [3]) (rets := []) (ks := [.v false [.str], .v false [.sl [.int .i64, .str, .int .i64, .str, .str, .str, .int .i64]], .v false [.int .i64], .v false [.int .i64]]) (G := lglx_Join_0) (lklx_Join_0) (lmlx_Join_0) (by kernel_rfl) ?_
  rintro ⟨⟨(out : List UInt8), _⟩, ⟨(l : List (RowE [.int .i64, .str, .int .i64, .str, .str, .str, .int .i64])), _⟩, ⟨(x9 : Int), _⟩, ⟨(x10 : Int), _⟩, _⟩ x hok hx
  refine Leads.of_eq (ltlx_Join_0 out l x9 x10) ?_
  obtain ⟨h9, h0, h1, h2, h3, h4⟩ := hok
  subst h9
  obtain ⟨m, rfl⟩ := Int.eq_ofNat_of_zero_le h0
  obtain rfl := Out_leaf hx
  simp only [Int.toNat_natCast] at h4 ⊢
  rcases drop_cases l m with ⟨hle, hd⟩ | ⟨t, hlt, hd, hb⟩
  · refine Leads.brD (fun q => by omega) (fun _ => Leads.one (Goes.out ?_))
    rw [hd, joinI_nil, List.append_nil]
  · have ht := h3 t (List.mem_of_getElem? hb)
    rw [hd, joinF_cons] at h4
    rw [hd, getR_of hb, wrap64 (by omega) (by omega), joinI_cons]
    have key : ∀ o', o' = out ++ (if m = 0 then wtext t else 32 :: wtext t) → Goes [.v false [.str], .v false [.sl [.int .i64, .str, .int .i64, .str, .str, .str, .int .i64]], .v false [.int .i64], .v false [.int .i64]] lglx_Join_0 lklx_Join_0 lmlx_Join_0 ((out, ()), (l, ()), ((l.length : Int), ()), ((m : Int), ()), ()) (.exit 0, [.val (.d (.str (out ++ ((if m = 0 then wtext t else 32 :: wtext t) ++ joinF (l.drop (m + 1))))))]) (.again [.val (.d (.str o')), .val (.d (.sl tkS l)), .val (.d (.int .i64 (l.length : Int))), .val (.d (.int .i64 ((m : Int) + 1)))]) := by
      rintro o' rfl
      refine Goes.again (ks := [.v false [.str], .v false [.sl [.int .i64, .str, .int .i64, .str, .str, .str, .int .i64]], .v false [.int .i64], .v false [.int .i64]]) ((_, ()), (_, ()), (_, ()), (_, ()), ()) rfl ?_ ?_ ?_
      · refine ⟨rfl, by omega, by omega, h2, h3, ?_⟩
        rw [toNat_add1, List.length_append]; split <;> (try simp only [List.length_cons]) <;> omega
      · simp only [lmlx_Join_0]; omega
      · simp only [lglx_Join_0, toNat_add1, joinI_succ, List.append_assoc]; rfl
    have w2 : t.1 = 2 → wtext t = 63 :: t.2.1 := fun q => by simp [wtext, q]
    have w3 : t.1 = 3 → right t.2.2.1 t.2.2.2.1 t.2.2.2.2.1 t.2.2.2.2.2.1 = true → wtext t = textS t.2.2.1 t.2.2.2.1 t.2.2.2.2.1 t.2.2.2.2.2.1 := fun q z => by simp [wtext, q, z]
    have w4 : t.1 = 3 → right t.2.2.1 t.2.2.2.1 t.2.2.2.2.1 t.2.2.2.2.2.1 = false → wtext t = [] := fun q z => by simp [wtext, q, z]
    have w5 : ¬ t.1 = 2 → ¬ t.1 = 3 → wtext t = t.2.1 := fun q z => by simp [wtext, q, z]
    obtain ⟨z1, z2, z3, z4⟩ := ht
    refine Leads.brD (fun _ => Leads.chk (by omega) fun _ => Leads.brD (fun q => Leads.chk (by simp [maxI]; omega) fun _ => ?_) (fun q => ?_)) (fun q => by omega)
    · have hm : ¬ m = 0 := by omega
      rw [if_neg hm] at key ⊢
      refine Leads.brE (fun e => ?_) (fun e => Leads.brE (fun e2 => Leads.chk ⟨z2, z3, z4⟩ fun _ => Leads.br (fun z => ?_) (fun z => ?_)) (fun e2 => ?_))
      · rw [w2 e] at key h4 ⊢
        exact Leads.chk (by simp [maxI]; omega) fun _ => Leads.chk (by simp [maxI] at h4 ⊢; omega) fun _ => Leads.one (key _ (by simp))
      · rw [w3 e2 z] at key h4 ⊢
        exact Leads.chk (by simp [maxI]; omega) fun _ => Leads.one (key _ (by simp))
      · rw [w4 e2 z] at key h4 ⊢
        exact Leads.chk (by simp [maxI]; omega) fun _ => Leads.one (key _ (by simp))
      · rw [w5 e e2] at key h4 ⊢
        exact Leads.chk (by simp [maxI]; omega) fun _ => Leads.one (key _ (by simp))
    · have hm : m = 0 := by omega
      rw [if_pos hm] at key ⊢
      refine Leads.brE (fun e => ?_) (fun e => Leads.brE (fun e2 => Leads.chk ⟨z2, z3, z4⟩ fun _ => Leads.br (fun z => ?_) (fun z => ?_)) (fun e2 => ?_))
      · rw [w2 e] at key h4 ⊢
        exact Leads.chk (by simp [maxI]; omega) fun _ => Leads.chk (by simp [maxI] at h4 ⊢; omega) fun _ => Leads.one (key _ (by simp))
      · rw [w3 e2 z] at key h4 ⊢
        exact Leads.chk (by simp [maxI]; omega) fun _ => Leads.one (key _ (by simp))
      · rw [w4 e2 z] at key h4 ⊢
        exact Leads.chk (by simp [maxI]; omega) fun _ => Leads.one (key _ (by simp))
      · rw [w5 e e2] at key h4 ⊢
        exact Leads.chk (by simp [maxI]; omega) fun _ => Leads.one (key _ (by simp))
theorem tlx_Join (l : List (RowE [.int .i64, .str, .int .i64, .str, .str, .str, .int .i64])) : evF T (En (Er5_Join)) (Ln (Llx_Join)) Try.f15 [.d (.sl [.int .i64, .str, .int .i64, .str, .str, .str, .int .i64] l)] =
    chk (lklx_Join_0 (([], ()), (l, ()), ((↑l.length : Int), ()), ((0 : Int), ()), ())) (some (SV.val (AV.d (D.str ([] ++ joinI (Int.toNat (0 : Int)) (List.drop (Int.toNat (0 : Int)) l)))))) := by kernel_rfl
theorem satlx_Join : Sat P 15 (Slx_Join) := by
  refine sat_mk (LT := Ln (Llx_Join)) hC okr5_Join mixed Try.func15 (by kernel_rfl) (c := bodyOf Try.f15) (by kernel_rfl) (by kernel_rfl) ?_ (loops1 (by kernel_rfl) (loklx_Join_0))
  rintro ⟨⟨(l : List (RowE [.int .i64, .str, .int .i64, .str, .str, .str, .int .i64])), _⟩, _⟩ sv h
  refine Leads.eq (Leads.of_eq (tlx_Join l) ?_)
  obtain ⟨⟨h1, h2, h3⟩, h⟩ := h
  have h := Out_leaf h
  refine Leads.chk ⟨rfl, by omega, by omega, h2, h1, by simpa using h3⟩ fun _ => Leads.one ?_
  rw [h]; rfl
def Elx_Join : Es := (15, Slx_Join) :: Er5_Join
theorem oklx_Join : SatE P (En (Elx_Join)) := SatE.cons (satlx_Join) okr5_Join
/-! ### legation/legationlaw05.awake -/
def Lawake : Ls := []
def Sawake := mkS [] fun _ => bl true
theorem tawake  : evF T (En (Elx_Join)) (Ln (Lawake)) Try.f11 [] =
    chk ([(63 : UInt8), (120 : UInt8), (32 : UInt8), (60 : UInt8), (61 : UInt8), (32 : UInt8), (49 : UInt8), (46 : UInt8), (53 : UInt8)].length ≤ (140737488351232 : Nat)) (br ((lexS [(63 : UInt8), (120 : UInt8), (32 : UInt8), (60 : UInt8), (61 : UInt8), (32 : UInt8), (49 : UInt8), (46 : UInt8), (53 : UInt8)]).snd.snd == (0 : Int)) (br ((lexS [(63 : UInt8), (120 : UInt8), (32 : UInt8), (60 : UInt8), (61 : UInt8), (32 : UInt8), (49 : UInt8), (46 : UInt8), (53 : UInt8)]).snd.fst == (0 : Int)) (br ((↑(lexS [(63 : UInt8), (120 : UInt8), (32 : UInt8), (60 : UInt8), (61 : UInt8), (32 : UInt8), (49 : UInt8), (46 : UInt8), (53 : UInt8)]).fst.length : Int) == (3 : Int)) (chk ((0 : Int) ≤ (1 : Int) ∧ (1 : Int) < (↑(lexS [(63 : UInt8), (120 : UInt8), (32 : UInt8), (60 : UInt8), (61 : UInt8), (32 : UInt8), (49 : UInt8), (46 : UInt8), (53 : UInt8)]).fst.length : Int)) (br ((getR tkS (lexS [(63 : UInt8), (120 : UInt8), (32 : UInt8), (60 : UInt8), (61 : UInt8), (32 : UInt8), (49 : UInt8), (46 : UInt8), (53 : UInt8)]).fst (1 : Int)).snd.fst == [(60 : UInt8), (61 : UInt8)]) (chk ((0 : Int) ≤ (2 : Int) ∧ (2 : Int) < (↑(lexS [(63 : UInt8), (120 : UInt8), (32 : UInt8), (60 : UInt8), (61 : UInt8), (32 : UInt8), (49 : UInt8), (46 : UInt8), (53 : UInt8)]).fst.length : Int)) (some (SV.val (AV.d (D.bool ((getR tkS (lexS [(63 : UInt8), (120 : UInt8), (32 : UInt8), (60 : UInt8), (61 : UInt8), (32 : UInt8), (49 : UInt8), (46 : UInt8), (53 : UInt8)]).fst (2 : Int)).snd.snd.snd.snd.fst == [(104 : UInt8), (116 : UInt8), (116 : UInt8), (112 : UInt8), (58 : UInt8), (47 : UInt8), (47 : UInt8), (119 : UInt8), (119 : UInt8), (119 : UInt8), (46 : UInt8), (119 : UInt8), (51 : UInt8), (46 : UInt8), (111 : UInt8), (114 : UInt8), (103 : UInt8), (47 : UInt8), (50 : UInt8), (48 : UInt8), (48 : UInt8), (49 : UInt8), (47 : UInt8), (88 : UInt8), (77 : UInt8), (76 : UInt8), (83 : UInt8), (99 : UInt8), (104 : UInt8), (101 : UInt8), (109 : UInt8), (97 : UInt8), (35 : UInt8), (100 : UInt8), (101 : UInt8), (99 : UInt8), (105 : UInt8), (109 : UInt8), (97 : UInt8), (108 : UInt8)])))))) (some (SV.val (AV.d (D.bool false)))))) (some (SV.val (AV.d (D.bool false))))) (some (SV.val (AV.d (D.bool false))))) (some (SV.val (AV.d (D.bool false))))) := by kernel_rfl
theorem satawake : Sat P 11 (Sawake) := by
  refine sat_mk (LT := Ln (Lawake)) hC oklx_Join mixed Try.func11 (by kernel_rfl) (c := bodyOf Try.f11) (by kernel_rfl) (by kernel_rfl) ?_ (loops0 (by kernel_rfl))
  rintro _ sv h
  refine Leads.eq (Leads.of_eq (tawake ) ?_)
  have h := Out_leaf h
  have hl : lexS [63, 120, 32, 60, 61, 32, 49, 46, 53] = ([(2, [120], 0, [], [], [], 0, ()), (5, [60, 61], 0, [], [], [], 3, ()), (3, [], 2, [49, 46, 53], decimalT, [], 6, ())], 0, 0) := by kernel_rfl
  rw [hl, h]
  exact Leads.chk (by decide) fun _ => Leads.brE (fun _ => Leads.brE (fun _ => Leads.brE (fun _ => Leads.chk (by decide) fun _ => Leads.brE (fun _ => Leads.chk (by decide) fun _ => Leads.one rfl) (fun z => absurd rfl z)) (fun z => absurd rfl z)) (fun z => absurd rfl z)) (fun z => absurd rfl z)
def Eawake : Es := (11, Sawake) :: Elx_Join
theorem okawake : SatE P (En (Eawake)) := SatE.cons (satawake) oklx_Join
/-! ### legation/legationlaw05.LexLexes -/
def Ll3 : Ls := []
def Sl3 := mkS [(false, [.str])] fun ⟨⟨(s : List UInt8), _⟩, _⟩ => .chk (s.length ≤ 140737488351232) (bl true)
theorem tl3 (s : List UInt8) : evF T (En (Eawake)) (Ln (Ll3)) Try.f3 [.d (.str s)] =
    chk (s.length ≤ (140737488351232 : Nat)) (chk (s.length ≤ (140737488351232 : Nat)) (chk ((lexS s).fst.length ≤ (1152921504606846976 : Nat) ∧ (lexS s).fst.length ≤ (1152921504606846976 : Nat)) (br (sameS (lexS s).fst (lexS s).fst true) (br ((lexS s).snd.fst == (lexS s).snd.fst) (br ((lexS s).snd.snd == (lexS s).snd.snd) (some (SV.val (AV.d (D.bool true)))) (some (SV.val (AV.d (D.bool false))))) (some (SV.val (AV.d (D.bool false))))) (some (SV.val (AV.d (D.bool false))))))) := by kernel_rfl
theorem satl3 : Sat P 3 (Sl3) := by
  refine sat_mk (LT := Ln (Ll3)) hC okawake mixed Try.func3 (by kernel_rfl) (c := bodyOf Try.f3) (by kernel_rfl) (by kernel_rfl) ?_ (loops0 (by kernel_rfl))
  rintro ⟨⟨(s : List UInt8), _⟩, _⟩ sv h
  refine Leads.eq (Leads.of_eq (tl3 s) ?_)
  obtain ⟨hs, h⟩ := h
  have h := Out_leaf h
  have hl := lexS_len s
  refine Leads.chk hs fun _ => Leads.chk hs fun _ => Leads.chk ⟨by omega, by omega⟩ fun _ => Leads.br (fun _ => Leads.brE (fun _ => Leads.brE (fun _ => Leads.one (by rw [h])) (fun z => absurd rfl z)) (fun z => absurd rfl z)) (fun z => by rw [sameS_refl] at z; cases z)
def El3 : Es := (3, Sl3) :: Eawake
theorem okl3 : SatE P (En (El3)) := SatE.cons (satl3) okawake
/-! ### legation/legationlaw05.LexNexts -/
def Ll4 : Ls := []
def Sl4 := mkS [(false, [.str]), (false, [.int .i64])] fun ⟨⟨(s : List UInt8), _⟩, ⟨(at_ : Int), _⟩, _⟩ => .chk (s.length ≤ 140737488351232) (bl true)
theorem tl4 (s : List UInt8) (at_ : Int) : evF T (En (El3)) (Ln (Ll4)) Try.f4 [.d (.str s), .d (.int .i64 at_)] =
    chk (s.length ≤ (140737488351232 : Nat)) (chk (s.length ≤ (140737488351232 : Nat)) (br ((nextS s at_).fst.fst == (nextS s at_).fst.fst && ((nextS s at_).fst.snd.fst == (nextS s at_).fst.snd.fst && ((nextS s at_).fst.snd.snd.fst == (nextS s at_).fst.snd.snd.fst && ((nextS s at_).fst.snd.snd.snd.fst == (nextS s at_).fst.snd.snd.snd.fst && ((nextS s at_).fst.snd.snd.snd.snd.fst == (nextS s at_).fst.snd.snd.snd.snd.fst && ((nextS s at_).fst.snd.snd.snd.snd.snd.fst == (nextS s at_).fst.snd.snd.snd.snd.snd.fst && (nextS s at_).fst.snd.snd.snd.snd.snd.snd.fst == (nextS s at_).fst.snd.snd.snd.snd.snd.snd.fst)))))) (br ((nextS s at_).snd.fst == (nextS s at_).snd.fst) (br ((nextS s at_).snd.snd == (nextS s at_).snd.snd) (some (SV.val (AV.d (D.bool true)))) (some (SV.val (AV.d (D.bool false))))) (some (SV.val (AV.d (D.bool false))))) (some (SV.val (AV.d (D.bool false)))))) := by kernel_rfl
theorem satl4 : Sat P 4 (Sl4) := by
  refine sat_mk (LT := Ln (Ll4)) hC okl3 mixed Try.func4 (by kernel_rfl) (c := bodyOf Try.f4) (by kernel_rfl) (by kernel_rfl) ?_ (loops0 (by kernel_rfl))
  rintro ⟨⟨(s : List UInt8), _⟩, ⟨(at_ : Int), _⟩, _⟩ sv h
  refine Leads.eq (Leads.of_eq (tl4 s at_) ?_)
  obtain ⟨hs, h⟩ := h
  have h := Out_leaf h
  exact Leads.chk hs fun _ => Leads.chk hs fun _ => Leads.br (fun _ => Leads.brE (fun _ => Leads.brE (fun _ => Leads.one (by rw [h])) (fun z => absurd rfl z)) (fun z => absurd rfl z)) (fun z => by simp at z)
def El4 : Es := (4, Sl4) :: El3
theorem okl4 : SatE P (En (El4)) := SatE.cons (satl4) okl3
/-! ### legation/legationlaw05.LexPlaces -/
def lkl5_0 : St [.v false [.str], .v false [.sl [.int .i64, .str, .int .i64, .str, .str, .str, .int .i64]], .v false [.int .i64], .v false [.int .i64]] → Prop := fun ⟨⟨(s : List UInt8), _⟩, ⟨(l : List (RowE [.int .i64, .str, .int .i64, .str, .str, .str, .int .i64])), _⟩, ⟨(at_ : Int), _⟩, ⟨(i : Int), _⟩, _⟩ => 0 ≤ i ∧ i ≤ (l.length : Int) ∧ 0 ≤ at_ ∧ at_ ≤ (s.length : Int) ∧ s.length ≤ 4096 ∧ l.length ≤ 4096 ∧ l.drop i.toNat = (lexR s at_.toNat).1 ∧ (lexR s at_.toNat).2 = none
def lgl5_0 : St [.v false [.str], .v false [.sl [.int .i64, .str, .int .i64, .str, .str, .str, .int .i64]], .v false [.int .i64], .v false [.int .i64]] → Tr (Ex × List SV) := fun ⟨⟨(s : List UInt8), _⟩, ⟨(l : List (RowE [.int .i64, .str, .int .i64, .str, .str, .str, .int .i64])), _⟩, ⟨(at_ : Int), _⟩, ⟨(i : Int), _⟩, _⟩ => .leaf (.exit 0, [.val (.d (.str  (s))), .val (.d (.int .i64 ((endR s at_.toNat : Nat))))])
def lml5_0 : St [.v false [.str], .v false [.sl [.int .i64, .str, .int .i64, .str, .str, .str, .int .i64]], .v false [.int .i64], .v false [.int .i64]] → Nat := fun ⟨⟨(s : List UInt8), _⟩, ⟨(l : List (RowE [.int .i64, .str, .int .i64, .str, .str, .str, .int .i64])), _⟩, ⟨(at_ : Int), _⟩, ⟨(i : Int), _⟩, _⟩ => l.length - i.toNat
def lsl5_0 : LoopS := mkR [0, 3, 6, 7] [0, 6] [2] [.v false [.str], .v false [.sl [.int .i64, .str, .int .i64, .str, .str, .str, .int .i64]], .v false [.int .i64], .v false [.int .i64]] (fun r => .chk (lkl5_0 r) (lgl5_0 r))
def Ll5 : Ls := [(6, lsl5_0)]
def Sl5 := mkS [(false, [.str])] fun ⟨⟨(s : List UInt8), _⟩, _⟩ => .chk (s.length ≤ 140737488351232) (bl true)
theorem ltl5_0 (s : List UInt8) (l : List (RowE [.int .i64, .str, .int .i64, .str, .str, .str, .int .i64])) (at_ : Int) (i : Int) : evRound T (En (El4)) (Ln (Ll5)) (loopAt 0 (loops (bodyOf Try.f5))) (lsl5_0) [.val (.d (.str  s)), .val (.d (.sl [.int .i64, .str, .int .i64, .str, .str, .str, .int .i64] l)), .val (.d (.int .i64 at_)), .val (.d (.int .i64 i))] =
    br (decide (i < (↑l.length : Int))) (chk (s.length ≤ (140737488351232 : Nat)) (br ((nextS s at_).snd.snd != (0 : Int)) (some (Rnd.out Ex.ret [SV.val (AV.d (D.bool false))])) (chk ((0 : Int) ≤ i ∧ i < (↑l.length : Int)) (br (!((nextS s at_).fst.fst == (getR tkS l i).fst && ((nextS s at_).fst.snd.fst == (getR tkS l i).snd.fst && ((nextS s at_).fst.snd.snd.fst == (getR tkS l i).snd.snd.fst && ((nextS s at_).fst.snd.snd.snd.fst == (getR tkS l i).snd.snd.snd.fst && ((nextS s at_).fst.snd.snd.snd.snd.fst == (getR tkS l i).snd.snd.snd.snd.fst && ((nextS s at_).fst.snd.snd.snd.snd.snd.fst == (getR tkS l i).snd.snd.snd.snd.snd.fst && (nextS s at_).fst.snd.snd.snd.snd.snd.snd.fst == (getR tkS l i).snd.snd.snd.snd.snd.snd.fst))))))) (some (Rnd.out Ex.ret [SV.val (AV.d (D.bool false))])) (br (decide ((nextS s at_).fst.snd.snd.snd.snd.snd.snd.fst < at_)) (some (Rnd.out Ex.ret [SV.val (AV.d (D.bool false))])) (chk (s.length ≤ (1152921504606846976 : Nat) ∧ (0 : Int) ≤ at_ ∧ at_ ≤ (↑s.length : Int) ∧ ((1 : Int) = (1 : Int) ∨ (1 : Int) = (2 : Int) ∨ (1 : Int) = (3 : Int))) (br ((nextS s at_).fst.snd.snd.snd.snd.snd.snd.fst != IntKind.i64.wrap (at_ + (↑(many (runI (1 : Int)) (List.drop at_.toNat s)) : Int))) (some (Rnd.out Ex.ret [SV.val (AV.d (D.bool false))])) (br (decide ((nextS s at_).snd.fst ≤ (nextS s at_).fst.snd.snd.snd.snd.snd.snd.fst)) (some (Rnd.out Ex.ret [SV.val (AV.d (D.bool false))])) (br (decide ((nextS s at_).snd.fst > (↑s.length : Int))) (some (Rnd.out Ex.ret [SV.val (AV.d (D.bool false))])) (some (Rnd.again [SV.val (AV.d (D.str s)), SV.val (AV.d (D.sl tkS l)), SV.val (AV.d (D.int IntKind.i64 (nextS s at_).snd.fst)), SV.val (AV.d (D.int IntKind.i64 (IntKind.i64.wrap (i + (1 : Int)))))]))))))))))) (some (Rnd.out (Ex.exit (0 : Nat)) [SV.val (AV.d (D.str s)), SV.val (AV.d (D.int IntKind.i64 at_))])) := by kernel_rfl
theorem lokl5_0 : LoopOK T (En (El4)) (Ln (Ll5)) (loopAt 0 (loops (bodyOf Try.f5))) := by
  refine loop_ok (live := [0, 3, 6, 7]) (outs := [0, 6]) (rets := [2]) (ks := [.v false [.str], .v false [.sl [.int .i64, .str, .int .i64, .str, .str, .str, .int .i64]], .v false [.int .i64], .v false [.int .i64]]) (G := lgl5_0) (lkl5_0) (lml5_0) (by kernel_rfl) ?_
  rintro ⟨⟨(s : List UInt8), _⟩, ⟨(l : List (RowE [.int .i64, .str, .int .i64, .str, .str, .str, .int .i64])), _⟩, ⟨(at_ : Int), _⟩, ⟨(i : Int), _⟩, _⟩ x hok hx
  refine Leads.of_eq (ltl5_0 s l at_ i) ?_
  obtain ⟨h0, h1, h2, h3, h4, h5, h6, h7⟩ := hok
  obtain ⟨m, rfl⟩ := Int.eq_ofNat_of_zero_le h0
  obtain ⟨a, rfl⟩ := Int.eq_ofNat_of_zero_le h2
  obtain rfl := Out_leaf hx
  have ha : a ≤ s.length := by omega
  simp only [Int.toNat_natCast] at h6 h7 ⊢
  have hm := many_le spaceI (s.drop a)
  rw [List.length_drop] at hm
  rw [lexR_step s a ha] at h6 h7
  rw [nextS_nat s a ha, endR_step s a ha, runI1, wrap64 (x := (a : Int) + _) (by omega) (by omega), show (a : Int) + ((many spaceI (s.drop a) : Nat) : Int) = ((a + many spaceI (s.drop a) : Nat) : Int) by omega]
  generalize hp : a + many spaceI (s.drop a) = p at *
  have hw := wordS_le (s.drop p)
  rw [List.length_drop] at hw
  by_cases q : p = s.length
  · rw [if_pos q] at h6 ⊢
    rcases drop_cases l m with ⟨hle, hd⟩ | ⟨t, hlt, hd, hb⟩
    · exact Leads.brD (fun z => by omega) (fun _ => Leads.one (Goes.out (by rw [if_pos q])))
    · rw [hd] at h6; cases h6
  · rw [if_neg q] at h6 h7 ⊢
    by_cases q2 : (wordS (s.drop p)).2 = 0
    · rw [if_pos q2] at h7; cases h7
    · rw [if_neg q2] at h6 h7 ⊢
      rcases drop_cases l m with ⟨hle, hd⟩ | ⟨t, hlt, hd, hb⟩
      · rw [hd] at h6; cases h6
      · rw [hd] at h6
        simp only [List.cons.injEq] at h6
        obtain ⟨h6, h8⟩ := h6
        subst h6
        rw [getR_of hb, wrap64 (by omega) (by omega)]
        refine Leads.brD (fun _ => Leads.chk (by omega) fun _ => Leads.brN (fun _ => Leads.chk (by omega) fun _ => Leads.brG (fun _ => Leads.brD (fun z => ?_) (fun _ => Leads.chk ⟨by omega, by omega, by omega, by simp⟩ fun _ => Leads.brN (fun _ => Leads.brD (fun z => ?_) (fun _ => Leads.brD (fun z => ?_) (fun _ => Leads.one ?_))) (fun z => absurd rfl z))) (fun z => by simp at z)) (fun z => absurd rfl z)) (fun z => by omega)
        · exfalso; have z : (p : Int) < (a : Int) := z; omega
        · exfalso; have z : ((p + (wordS (s.drop p)).2 : Nat) : Int) ≤ (p : Int) := z; omega
        · exfalso; have z : ((p + (wordS (s.drop p)).2 : Nat) : Int) > (s.length : Int) := z; omega
        · refine Goes.again (ks := [.v false [.str], .v false [.sl [.int .i64, .str, .int .i64, .str, .str, .str, .int .i64]], .v false [.int .i64], .v false [.int .i64]]) ((_, ()), (_, ()), (_, ()), (_, ()), ()) rfl ?_ ?_ ?_
          · exact ⟨by omega, by omega, by show (0 : Int) ≤ ((p + (wordS (s.drop p)).2 : Nat) : Int); omega, by show ((p + (wordS (s.drop p)).2 : Nat) : Int) ≤ (s.length : Int); omega, h4, h5, by rw [toNat_add1, Int.toNat_natCast]; exact h8, by rw [Int.toNat_natCast]; exact h7⟩
          · simp only [lml5_0]; omega
          · simp only [lgl5_0, Int.toNat_natCast, if_neg q, if_neg q2]; rfl
theorem tl5 (s : List UInt8) : evF T (En (El4)) (Ln (Ll5)) Try.f5 [.d (.str s)] =
    chk (s.length ≤ (140737488351232 : Nat)) (br ((lexS s).snd.snd != (0 : Int)) (br ((↑(lexS s).fst.length : Int) == (0 : Int)) (some (SV.val (AV.d (D.bool true)))) (some (SV.val (AV.d (D.bool false))))) (chk (lkl5_0 ((s, ()), ((lexS s).fst, ()), ((0 : Int), ()), ((0 : Int), ()), ())) (chk (s.length ≤ (1152921504606846976 : Nat) ∧ (0 : Int) ≤ (↑(endR s (Int.toNat (0 : Int))) : Int) ∧ (↑(endR s (Int.toNat (0 : Int))) : Int) ≤ (↑s.length : Int) ∧ ((1 : Int) = (1 : Int) ∨ (1 : Int) = (2 : Int) ∨ (1 : Int) = (3 : Int))) (br ((↑(many (runI (1 : Int)) (List.drop (↑(endR s (Int.toNat (0 : Int))) : Int).toNat s)) : Int) == IntKind.i64.wrap ((↑s.length : Int) - (↑(endR s (Int.toNat (0 : Int))) : Int))) (some (SV.val (AV.d (D.bool true)))) (some (SV.val (AV.d (D.bool false)))))))) := by kernel_rfl
theorem satl5 : Sat P 5 (Sl5) := by
  refine sat_mk (LT := Ln (Ll5)) hC okl4 mixed Try.func5 (by kernel_rfl) (c := bodyOf Try.f5) (by kernel_rfl) (by kernel_rfl) ?_ (loops1 (by kernel_rfl) (lokl5_0))
  rintro ⟨⟨(s : List UInt8), _⟩, _⟩ sv h
  refine Leads.eq (Leads.of_eq (tl5 s) ?_)
  obtain ⟨hs, h⟩ := h
  have h := Out_leaf h
  refine Leads.chk hs fun _ => Leads.brN (fun q => ?_) (fun q => ?_)
  · obtain ⟨hl4, e1, e2⟩ := lexS_ok q
    have hlen := lexR_len s.length s 0 (by omega) (by omega)
    obtain ⟨e3, e4⟩ := endR_end s.length s 0 (by omega) (by omega) e2
    rw [e1]
    refine Leads.chk ⟨by decide, by omega, by decide, by omega, hl4, by omega, rfl, e2⟩ fun _ => ?_
    rw [show Int.toNat 0 = 0 from rfl, Int.toNat_natCast, runI1, e4]
    rw [wrap64 (by omega) (by omega)]
    exact Leads.chk ⟨by omega, by omega, by omega, by simp⟩ fun _ => Leads.brE (fun _ => Leads.one (by rw [h])) (fun z => absurd (by omega) z)
  · have hb := lexS_bad (s := s) q
    rw [hb]
    exact Leads.brE (fun _ => Leads.one (by rw [h])) (fun z => absurd rfl z)
def El5 : Es := (5, Sl5) :: El4
theorem okl5 : SatE P (En (El5)) := SatE.cons (satl5) okl4
/-! ### legation/legationlaw05.LexJoins -/
def Ll6 : Ls := []
def Sl6 := mkS [(false, [.sl [.int .i64, .str, .int .i64, .str, .str, .str, .int .i64]])] fun ⟨⟨(l : List (RowE [.int .i64, .str, .int .i64, .str, .str, .str, .int .i64])), _⟩, _⟩ => .chk (allW l ∧ l.length ≤ 140737488355328 ∧ (joinF l).length ≤ 1152921504606846976) (bl true)
theorem tl6 (l : List (RowE [.int .i64, .str, .int .i64, .str, .str, .str, .int .i64])) : evF T (En (El5)) (Ln (Ll6)) Try.f6 [.d (.sl [.int .i64, .str, .int .i64, .str, .str, .str, .int .i64] l)] =
    chk (allW l ∧ l.length ≤ (140737488355328 : Nat) ∧ List.length (joinF l) ≤ (1152921504606846976 : Nat)) (chk (allW l ∧ l.length ≤ (140737488355328 : Nat) ∧ List.length (joinF l) ≤ (1152921504606846976 : Nat)) (br (joinS l == joinS l) (some (SV.val (AV.d (D.bool true)))) (some (SV.val (AV.d (D.bool false)))))) := by kernel_rfl
theorem satl6 : Sat P 6 (Sl6) := by
  refine sat_mk (LT := Ln (Ll6)) hC okl5 mixed Try.func6 (by kernel_rfl) (c := bodyOf Try.f6) (by kernel_rfl) (by kernel_rfl) ?_ (loops0 (by kernel_rfl))
  rintro ⟨⟨(l : List (RowE [.int .i64, .str, .int .i64, .str, .str, .str, .int .i64])), _⟩, _⟩ sv h
  refine Leads.eq (Leads.of_eq (tl6 l) ?_)
  obtain ⟨hs, h⟩ := h
  have h := Out_leaf h
  exact Leads.chk hs fun _ => Leads.chk hs fun _ => Leads.brE (fun _ => Leads.one (by rw [h])) (fun z => absurd rfl z)
def El6 : Es := (6, Sl6) :: El5
theorem okl6 : SatE P (En (El6)) := SatE.cons (satl6) okl5
end Go.Proofs.Ytcmdlllcjpbbkaa.T5
