/- Part of a proof of the seat's statements: no statement by itself. -/
import Derived.Test.YtfafmpiajlgojaaDoorQ2A
import Derived.Test.YtfafmpiajlgojaaDoorSpB
set_option maxRecDepth 100000
open Go.Proofs.YtfafmpiajlgojaaDoor.Lg Go Go.Proofs.YtfafmpiajlgojaaDoor.Sp
open Go.Proofs
namespace Go.Proofs.YtfafmpiajlgojaaDoor.T2
attribute [local simp] letterI digitI nameI badI iriI textI lowI

/-! ### function 54 -/
def S54 := mkS [str, byt] fun ⟨⟨(s : List UInt8), _⟩, ⟨(c : Int), _⟩, _⟩ => .leaf (.val (.d (.int .i64 (Lib.indexByte s c.toNat.toUInt8))))
def L54 : Ls := []
theorem sat54 : SatX P 66 S54 := satX_indexByte Tryd.func66 (by kernel_rfl) (by kernel_rfl) (by kernel_rfl) (by kernel_rfl)
def E54 : Es := (66, S54) :: E11
theorem ok54 : SatE P (En E54) := SatE.consX sat54 ok11
/-! ### function 47 -/
def S47 := mkS [str, byt] fun ⟨⟨(s : List UInt8), _⟩, ⟨(c : Int), _⟩, _⟩ => .leaf (.val (.d (.int .i64 (Lib.indexByte s c.toNat.toUInt8))))
def L47 : Ls := []
theorem t47 (s : List UInt8) (c : Int) : evF T (En (E54)) (Ln L47) Tryd.f55 [.d (.str s), .d (.int .u8 c)] =
    some (SV.val (AV.d (D.int IntKind.i64 (Lib.indexByte s c.toNat.toUInt8)))) := by kernel_rfl

theorem sat47 : Sat P 55 (S47) := by
  refine sat_mk (LT := Ln L47) hC ok54 mixed Tryd.func55 (by kernel_rfl) (c := bodyOf Tryd.f55) (by kernel_rfl) (by kernel_rfl) ?_ (loops0 (by kernel_rfl))
  rintro ⟨⟨(s : List UInt8), _⟩, ⟨(c : Int), _⟩, _⟩ sv h
  obtain rfl := Out_leaf h
  exact t47 s c
def E47 : Es := (55, S47) :: E54
theorem ok47 : SatE P (En E47) := SatE.cons sat47 ok54
/-! ### function 49 -/
def S49 := mkS [str, str] fun ⟨⟨(s : List UInt8), _⟩, ⟨(p : List UInt8), _⟩, _⟩ => .chk (s.length ≤ Big ∧ p.length ≤ Big) (bl (decide (s.take p.length = p)))
def L49 : Ls := []
theorem t49 (s p : List UInt8) : evF T (En (E47)) (Ln L49) Tryd.f47 [.d (.str s), .d (.str p)] =
    br (decide ((↑s.length : Int) ≥ (↑p.length : Int))) (chk ((0 : Int) ≤ (↑p.length : Int) ∧ (↑p.length : Int) ≤ (↑s.length : Int)) (some (SV.val (AV.d (D.bool (List.take (↑p.length : Int).toNat s == p)))))) (some (SV.val (AV.d (D.bool false)))) := by kernel_rfl

theorem sat49 : Sat P 47 (S49) := by
  refine sat_mk (LT := Ln L49) hC ok47 mixed Tryd.func47 (by kernel_rfl) (c := bodyOf Tryd.f47) (by kernel_rfl) (by kernel_rfl) ?_ (loops0 (by kernel_rfl))
  rintro ⟨⟨(s : List UInt8), _⟩, ⟨(p : List UInt8), _⟩, _⟩ sv h
  obtain ⟨hs, h⟩ := h
  obtain rfl := Out_leaf h
  refine (t49 s p).trans ?_
  refine br_eq (fun q => chk_eq ?_ (vb_eq ?_)) (fun q => vb_eq ?_)
  · simp at q; omega
  · rw [Bool.eq_iff_iff]; simp
  · simp at q
    symm
    rw [decide_eq_false_iff_not]
    intro e
    have := congrArg List.length e
    simp at this; omega
def E49 : Es := (47, S49) :: E47
theorem ok49 : SatE P (En E49) := SatE.cons sat49 ok47

end Go.Proofs.YtfafmpiajlgojaaDoor.T2
