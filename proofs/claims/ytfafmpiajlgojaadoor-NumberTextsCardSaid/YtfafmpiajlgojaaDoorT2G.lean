/- What the laid variables give. -/
import Derived.Test.YtfafmpiajlgojaaDoorT2F
import Derived.Test.YtfafmpiajlgojaaDoorRows
import Derived.Test.YtfafmpiajlgojaaDoorTie
import Derived.Test.YtfafmpiajlgojaaDoorCards
import Derived.ProofKit
import Derived.LaidMore
import Derived.LaidLaws
import Derived.LaidHandle
import Derived.LaidByTextLater
import Derived.Handed
import Derived.JoinedOf
import Derived.SevenTiedAt
import Derived.Stop.Joined
set_option maxRecDepth 100000
namespace Go.Proofs.YtfafmpiajlgojaaDoor.T2
open Go.Proofs.YtfafmpiajlgojaaDoor.Lg Go Go.Proofs.YtfafmpiajlgojaaDoor.Sp
open Go.Proofs
def LAID : List (String × DataW Unit) := [("math/bits.deBruijn32tab", YtfafmpiajlgojaaDoor.Rows.laid_math_bits_deBruijn32tab), ("math/bits.deBruijn64tab", YtfafmpiajlgojaaDoor.Rows.laid_math_bits_deBruijn64tab), ("internal/strconv.uint64pow10", YtfafmpiajlgojaaDoor.Rows.laid_internal_strconv_uint64pow10)]
theorem own : ownKnob Tryd.prog.godebug = none := by kernel_rfl
theorem laidOut : laidOutB Tryd.prog = true := by kernel_rfl
theorem door_met (os : Os) (args : Array Value) : laidMetH Tryd.prog LAID ((World.doorLaid Tryd.prog 400 os).forCall (fun _ _ => 0) ⟨#[], args, []⟩).memory :=
  laidMetH_of_parts3 (fuel := 8) (laidMet_of_run' 8 (by kernel_rfl) (by kernel_rfl)) (by kernel_rfl) (by kernel_rfl)
theorem ty1 : (Tryd.prog.globals[1]?).map (·.type) = some 81 := by kernel_rfl
theorem jw {W : World} (h : laidMetH Tryd.prog LAID W) : JW P W := by
  rw [MakeChecks.laidMetH_plain _ _ _ (by kernel_rfl)] at h
  obtain ⟨ps, ⟨g0, t0, cs0, f0, p0, q0, hg0, ht0, hv0, hd0, ⟨g1, t1, cs1, f1, p1, q1, hg1, ht1, hv1, hd1, ⟨g2, t2, cs2, f2, p2, q2, hg2, ht2, hv2, hd2, _, _⟩, _⟩, _⟩, _, _⟩ := h
  obtain rfl := Option.some.inj (fmt_glob.symm.trans hg2)
  obtain rfl := Option.some.inj (ty1.symm.trans ht2)
  intro i hi
  obtain rfl := Option.some.inj (fmt_glob.symm.trans hi)
  have e : cs2.toList = Go.Lib.pow10Tab.map fun z => Value.int .u64 z := Go.Lib.cells_of_tab Tryd.underlying81 Tryd.underlying69 (by kernel_rfl) (by kernel_rfl) (show DataW.trod _ Tryd.prog W 0 _ false f2 81 cs2.toList = some (Go.Lib.tabData .u64 Go.Lib.pow10Tab, p2) from hd2)
  have e2 : cs2 = (Go.Lib.pow10Tab.map fun z => Value.int .u64 z).toArray := by rw [← e]
  refine ⟨?_, by unfold Go.Lib.TabIs; rw [hv2, e2]⟩
  unfold World.var? at hv2
  rw [fmt_glob] at hv2
  simp only [Option.bind_some] at hv2
  cases hb : W.heap[1]? with
  | none => rw [hb] at hv2; cases hv2
  | some x => exact (Array.getElem?_eq_some_iff.1 hb).1
end Go.Proofs.YtfafmpiajlgojaaDoor.T2
