/- Part of a proof of the seat's statements: no statement by itself. -/
import Derived.Test.YtfafmpiajlgojaaDoorLgF
import Derived.Test.YtfafmpiajlgojaaDoorChecked
import Derived.Laws.RangeString
set_option maxRecDepth 100000
namespace Go.Proofs.YtfafmpiajlgojaaDoor.T2
open Go.Proofs.YtfafmpiajlgojaaDoor.Lg Go Go.Proofs.YtfafmpiajlgojaaDoor.Sp
open Go.Proofs
def T : Tab := [(2, { sh := [.int .i64] }),
  (3, { sh := [.int .i64] }),
  (4, { sh := [.bool] }),
  (5, { sh := [.int .u8] }),
  (8, { agg := true, sh := [.int .i64, .int .i64, .bool, .int .u8], flds := [(0, 1), (1, 1), (2, 1), (3, 1)], ftys := [2, 3, 4, 6] }),
  (9, { sh := [.str] }),
  (10, { sh := [.str] }),
  (11, { sh := [.str] }),
  (14, { agg := true, sh := [.str, .int .u64], flds := [(0, 1), (1, 1)], ftys := [9, 12] }),
  (23, { agg := true, sh := [.int .i64, .int .i64, .bool], flds := [(0, 1), (1, 1), (2, 1)], ftys := [2, 3, 4], eq := true }),
  (24, { sh := [.int .i64] }),
  (44, { agg := true, sh := [.int .i64, .str, .str, .str], flds := [(0, 1), (1, 1), (2, 1), (3, 1)], ftys := [3, 9, 9, 9], eq := true }),
  (64, { sh := [.sl [.int .u8]], es := [.int .u8], eb := 1 }),
  (68, { agg := true, sh := [.int .u8, .int .u8, .int .u8, .int .u8, .int .u8, .int .u8, .int .u8, .int .u8, .int .u8, .int .u8, .int .u8, .int .u8, .int .u8, .int .u8, .int .u8, .int .u8, .int .u8, .int .u8, .int .u8, .int .u8, .int .u8, .int .u8, .int .u8, .int .u8], arr := some (24, 1), ftys := [5], eq := true }),
  (69, { sh := [.int .u64] }),
  (74, { agg := true, sh := [.int .i64, .int .i64, .int .i64, .int .i64, .int .i64, .int .i64, .int .i64, .int .i64, .int .i64], arr := some (9, 1), ftys := [2], eq := true }),
  (79, { sh := [.int .u64] }),
  (81, { agg := true, sh := [.int .u64, .int .u64, .int .u64, .int .u64, .int .u64, .int .u64, .int .u64, .int .u64, .int .u64, .int .u64, .int .u64, .int .u64, .int .u64, .int .u64, .int .u64, .int .u64, .int .u64, .int .u64, .int .u64, .int .u64], arr := some (20, 1), ftys := [69], eq := true }),
  (82, { sh := [.int .u32] }),
  (83, { agg := true, sh := [.int .u8, .int .u8, .int .u8, .int .u8, .int .u8, .int .u8, .int .u8, .int .u8, .int .u8, .int .u8, .int .u8, .int .u8, .int .u8, .int .u8, .int .u8, .int .u8, .int .u8, .int .u8, .int .u8, .int .u8, .int .u8, .int .u8, .int .u8, .int .u8, .int .u8, .int .u8, .int .u8, .int .u8, .int .u8, .int .u8, .int .u8, .int .u8, .int .u8, .int .u8, .int .u8, .int .u8, .int .u8, .int .u8, .int .u8, .int .u8, .int .u8, .int .u8, .int .u8, .int .u8, .int .u8, .int .u8, .int .u8, .int .u8, .int .u8, .int .u8, .int .u8, .int .u8, .int .u8, .int .u8, .int .u8, .int .u8, .int .u8, .int .u8, .int .u8, .int .u8, .int .u8, .int .u8, .int .u8, .int .u8, .int .u8], arr := some (65, 1), ftys := [5], eq := true }),
  (89, { agg := true, sh := [.int .u8, .int .u8, .int .u8, .int .u8, .int .u8, .int .u8, .int .u8, .int .u8, .int .u8, .int .u8, .int .u8, .int .u8, .int .u8, .int .u8, .int .u8, .int .u8, .int .u8, .int .u8, .int .u8, .int .u8, .int .u8, .int .u8, .int .u8, .int .u8, .int .u8, .int .u8, .int .u8, .int .u8, .int .u8, .int .u8, .int .u8, .int .u8], arr := some (32, 1), ftys := [5], eq := true }),
  (90, { agg := true, sh := [.int .u8, .int .u8, .int .u8, .int .u8, .int .u8, .int .u8, .int .u8, .int .u8, .int .u8, .int .u8, .int .u8, .int .u8, .int .u8, .int .u8, .int .u8, .int .u8, .int .u8, .int .u8, .int .u8, .int .u8, .int .u8, .int .u8, .int .u8, .int .u8, .int .u8, .int .u8, .int .u8, .int .u8, .int .u8, .int .u8, .int .u8, .int .u8, .int .u8, .int .u8, .int .u8, .int .u8, .int .u8, .int .u8, .int .u8, .int .u8, .int .u8, .int .u8, .int .u8, .int .u8, .int .u8, .int .u8, .int .u8, .int .u8, .int .u8, .int .u8, .int .u8, .int .u8, .int .u8, .int .u8, .int .u8, .int .u8, .int .u8, .int .u8, .int .u8, .int .u8, .int .u8, .int .u8, .int .u8, .int .u8], arr := some (64, 1), ftys := [5], eq := true }),
  (99, { sh := [.int .u8] })]
noncomputable abbrev P := Tryd.prog
theorem hC : Cx P T := Cx.mk' (by kernel_rfl) (by kernel_rfl)
theorem mixed : P.follows .mixedOrders = true := Tryd.checked.mixed
abbrev str : Bool × List Sh := (false, [.str])
abbrev byt : Bool × List Sh := (false, [.int .u8])
abbrev int : Bool × List Sh := (false, [.int .i64])
abbrev trm : Bool × List Sh := (true, [.int .i64, .str, .str, .str])
def bl (b : Bool) : Tr SV := .leaf (.val (.d (.bool b)))
def ii (n : Int) : Tr SV := .leaf (.val (.d (.int .i64 n)))

def E00 : Es := []
theorem ok00 : SatE P (En E00) := SatE.nil
end Go.Proofs.YtfafmpiajlgojaaDoor.T2
