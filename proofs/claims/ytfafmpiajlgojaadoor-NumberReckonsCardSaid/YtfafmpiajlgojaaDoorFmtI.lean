/- strconv.FormatInt at base 10, by the shelf's contract. -/
import Derived.Test.YtfafmpiajlgojaaDoorQ2E
import Derived.Shelf.Strconv.Itoa4
set_option maxRecDepth 100000
namespace Go.Proofs.YtfafmpiajlgojaaDoor.T2
open Go.Proofs.YtfafmpiajlgojaaDoor.Lg Go Go.Proofs.YtfafmpiajlgojaaDoor.Sp
open Go.Proofs
open Go.Shelf
def lays173_ren : Go.Shelf.Ren := ⟨fun | 173 => 31 | 246 => 40 | 283 => 49 | 284 => 50 | 285 => 51 | 286 => 52 | 129 => 60 | 317 => 59 | 318 => 61 | 319 => 62 | 320 => 63 | 337 => 68 | 338 => 69 | n => n, fun | 2 => 2 | 3 => 3 | 9 => 9 | 4 => 4 | 171 => 68 | 0 => 0 | 53 => 69 | 37 => 64 | 5 => 5 | 173 => 72 | 212 => 81 | 51 => 82 | 20 => 20 | 213 => 83 | 46 => 79 | 232 => 89 | 233 => 90 | n => n, fun | 17 => 1 | 18 => 2 | 19 => 3 | n => n⟩
theorem lays173 : Go.Proofs.LaysM.n173 Tryd.prog lays173_ren := {
  mixed := by kernel_rfl
  f129 := Tryd.func60.trans (congrArg some (by kernel_rfl))
  f173 := Tryd.func31.trans (congrArg some (by kernel_rfl))
  f246 := Tryd.func40.trans (congrArg some (by kernel_rfl))
  f283 := Tryd.func49.trans (congrArg some (by kernel_rfl))
  f284 := Tryd.func50.trans (congrArg some (by kernel_rfl))
  f285 := Tryd.func51.trans (congrArg some (by kernel_rfl))
  f286 := Tryd.func52.trans (congrArg some (by kernel_rfl))
  f317 := Tryd.func59.trans (congrArg some (by kernel_rfl))
  f318 := Tryd.func61.trans (congrArg some (by kernel_rfl))
  f319 := Tryd.func62.trans (congrArg some (by kernel_rfl))
  f320 := Tryd.func63.trans (congrArg some (by kernel_rfl))
  f337 := Tryd.func68.trans (congrArg some (by kernel_rfl))
  f338 := Tryd.func69.trans (congrArg some (by kernel_rfl))
  t0 := Tryd.underlying0
  a0 := Tryd.isAgg0
  z0 := Tryd.sizeOf0
  v0 := Tryd.zeroValue0
  t2 := Tryd.underlying2
  a2 := Tryd.isAgg2
  z2 := Tryd.sizeOf2
  v2 := Tryd.zeroValue2
  t3 := Tryd.underlying3
  a3 := Tryd.isAgg3
  z3 := Tryd.sizeOf3
  v3 := Tryd.zeroValue3
  t4 := Tryd.underlying4
  a4 := Tryd.isAgg4
  z4 := Tryd.sizeOf4
  v4 := Tryd.zeroValue4
  t5 := Tryd.underlying5
  a5 := Tryd.isAgg5
  z5 := Tryd.sizeOf5
  v5 := Tryd.zeroValue5
  t9 := Tryd.underlying9
  a9 := Tryd.isAgg9
  z9 := Tryd.sizeOf9
  v9 := Tryd.zeroValue9
  t20 := Tryd.underlying20
  a20 := Tryd.isAgg20
  z20 := Tryd.sizeOf20
  v20 := Tryd.zeroValue20
  t37 := Tryd.underlying64
  a37 := Tryd.isAgg64
  z37 := Tryd.sizeOf64
  v37 := Tryd.zeroValue64
  t46 := Tryd.underlying79
  a46 := Tryd.isAgg79
  z46 := Tryd.sizeOf79
  v46 := Tryd.zeroValue79
  t51 := Tryd.underlying82
  a51 := Tryd.isAgg82
  z51 := Tryd.sizeOf82
  v51 := Tryd.zeroValue82
  t53 := Tryd.underlying69
  a53 := Tryd.isAgg69
  z53 := Tryd.sizeOf69
  v53 := Tryd.zeroValue69
  t171 := Tryd.underlying68
  a171 := Tryd.isAgg68
  z171 := Tryd.sizeOf68
  v171 := Tryd.zeroValue68
  t173 := Tryd.underlying72
  a173 := Tryd.isAgg72
  z173 := Tryd.sizeOf72
  v173 := Tryd.zeroValue72
  t212 := Tryd.underlying81
  a212 := Tryd.isAgg81
  z212 := Tryd.sizeOf81
  v212 := Tryd.zeroValue81
  t213 := Tryd.underlying83
  a213 := Tryd.isAgg83
  z213 := Tryd.sizeOf83
  t232 := Tryd.underlying89
  a232 := Tryd.isAgg89
  z232 := Tryd.sizeOf89
  v232 := Tryd.zeroValue89
  t233 := Tryd.underlying90
  a233 := Tryd.isAgg90
  z233 := Tryd.sizeOf90
  v233 := Tryd.zeroValue90
  g17 := by kernel_rfl
  g18 := by kernel_rfl
  g19 := by kernel_rfl
  i0 := by kernel_rfl
  i2 := by kernel_rfl
  i3 := by kernel_rfl
  i4 := by kernel_rfl
  i5 := by kernel_rfl
  i9 := by kernel_rfl
  i20 := by kernel_rfl
  i37 := by kernel_rfl
  i46 := by kernel_rfl
  i51 := by kernel_rfl
  i53 := by kernel_rfl
  i171 := by kernel_rfl
  i173 := by kernel_rfl
  i212 := by kernel_rfl
  i232 := by kernel_rfl
  i233 := by kernel_rfl
  m17 := by kernel_rfl
  m18 := by kernel_rfl
  m19 := by kernel_rfl }

def SFmt := mkS [(false, [.int .i64]), (false, [.int .i64])] fun ⟨⟨(n : Int), _⟩, ⟨(b : Int), _⟩, _⟩ => .chk (b = 10 ∧ -9223372036854775808 ≤ n ∧ n ≤ 9223372036854775807) (.leaf (.val (.d (.str (Go.Lib.itoa n)))))
theorem fmt_glob : P.globalNamed "internal/strconv.uint64pow10" = some 1 := by kernel_rfl
theorem satFmt : Sat P 31 SFmt := by
  refine ⟨⟨Tryd.f31, Tryd.func31, by kernel_rfl, by kernel_rfl⟩, fun vs sv h Pr w vals hJ hr hP => ?_⟩
  obtain ⟨⟨⟨(n : Int), _⟩, ⟨(b : Int), _⟩, _⟩, rfl, hb, ho⟩ := mkS_out h
  obtain ⟨rfl, h0, h1⟩ := hb
  obtain rfl := Out_leaf ho
  have hv : vals = [.int .i64 n, .int .i64 10] := by
    match vals, hr with
    | [v0, v1], hr =>
      obtain ⟨e0, e1, _⟩ := hr
      have e0 : v0 = .int .i64 n := e0
      have e1 : v1 = .int .i64 10 := e1
      rw [e0, e1]
    | [], hr => exact hr.elim
    | [_], hr => exact hr.2.elim
    | _ :: _ :: _ :: _, hr => exact hr.2.2.elim
  subst hv
  have key := Any.strconv_FormatInt_10 lays173 n h0 h1 w (hJ 1 fmt_glob).2
  refine Calls.mono key fun e w' ⟨he, k, os, hw⟩ => ?_
  subst hw
  have hblk : ∀ b, b < w.heap.size → (Sort.grow (w.drewN k) os).heap[b]? = w.heap[b]? := fun b hb => by
    show (w.heap ++ os)[b]? = _
    rw [Array.getElem?_append, if_pos hb]
  refine ⟨_, Pr, [], he, rfl, ⟨rfl, rfl⟩, ?_, ⟨rfl, rfl, rfl, ?_, PrLe.refl _, fun b hb _ => ⟨hblk b hb, fun _ => rfl⟩⟩, List.nodup_nil, by simp⟩
  · intro b o v hv
    have := hP b o v hv
    have hlt : b < w.heap.size := by
      cases hb : w.heap[b]? with
      | none => simp [World.cell?, hb] at this
      | some x => exact (Array.getElem?_eq_some_iff.1 hb).1
    unfold World.cell? at this ⊢
    rw [show (Sort.grow (w.drewN k) os).heap[(⟨b, o, none⟩ : Addr).block]? = w.heap[(⟨b, o, none⟩ : Addr).block]? from hblk b hlt]
    exact this
  · show w.heap.size ≤ (w.heap ++ os).size
    simp
def EFmt : Es := (31, SFmt) :: E49
theorem okFmt : SatE P (En EFmt) := SatE.cons satFmt ok49
end Go.Proofs.YtfafmpiajlgojaaDoor.T2
