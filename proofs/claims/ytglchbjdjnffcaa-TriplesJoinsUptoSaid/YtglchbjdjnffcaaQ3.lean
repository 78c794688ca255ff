/- Part of a proof of the seat's statements: no statement by itself. -/
import Derived.Test.YtglchbjdjnffcaaLgF
import Derived.Test.YtglchbjdjnffcaaChecked
import Derived.Laws.RangeString
set_option maxRecDepth 100000
namespace Go.Proofs.Ytglchbjdjnffcaa.T3
open Go.Proofs.Ytglchbjdjnffcaa.Lg Go Go.Proofs.Ytglchbjdjnffcaa.Sp
open Go.Proofs
def T : Tab := [(2, { sh := [.int .i64] }),
  (3, { sh := [.int .i64] }),
  (4, { sh := [.bool] }),
  (5, { sh := [.int .u8] }),
  (8, { agg := true, sh := [.int .i64, .int .i64, .bool, .int .u8], flds := [(0, 1), (1, 1), (2, 1), (3, 1)], ftys := [2, 3, 4, 6] }),
  (9, { sh := [.str] }),
  (10, { sh := [.str] }),
  (11, { sh := [.str] }),
  (14, { agg := true, sh := [.str, .int .u64], flds := [(0, 1), (1, 1)], ftys := [9, 12] }),
  (22, { sh := [.sl [.int .i64, .str, .str, .str, .int .i64, .str, .str, .str, .int .i64, .str, .str, .str]], es := [.int .i64, .str, .str, .str, .int .i64, .str, .str, .str, .int .i64, .str, .str, .str], eb := 168 }),
  (23, { sh := [.int .i64] }),
  (31, { agg := true, sh := [.int .i64, .str, .str, .str], flds := [(0, 1), (1, 1), (2, 1), (3, 1)], ftys := [3, 9, 9, 9], eq := true }),
  (33, { agg := true, sh := [.int .i64, .str, .str, .str, .int .i64, .str, .str, .str, .int .i64, .str, .str, .str], flds := [(0, 4), (4, 4), (8, 4)], ftys := [31, 31, 31], eq := true }),
  (37, { sh := [.sl [.str]], es := [.str], eb := 16 }),
  (53, { agg := true, sh := [.int .i64, .str, .str, .str, .int .i64, .str, .str, .str, .int .i64, .str, .str, .str], arr := some (3, 4), ftys := [31], eq := true }),
  (65, { agg := true, sh := [.str, .str], arr := some (2, 1), ftys := [9], eq := true }),
  (66, { agg := true, sh := [.str, .str, .str, .str, .str, .str], arr := some (3, 2), ftys := [65], eq := true }),
  (73, { sh := [.sl [.int .u8]], es := [.int .u8], eb := 1 }),
  (75, { sh := [.int .u64] }),
  (81, { sh := [.int .u32] })]
noncomputable abbrev P := Try.prog
theorem hC : Cx P T := Cx.mk' (by kernel_rfl) (by kernel_rfl)
theorem mixed : P.follows .mixedOrders = true := Try.checked.mixed
abbrev str : Bool × List Sh := (false, [.str])
abbrev byt : Bool × List Sh := (false, [.int .u8])
abbrev int : Bool × List Sh := (false, [.int .i64])
abbrev trm : Bool × List Sh := (true, [.int .i64, .str, .str, .str])
def bl (b : Bool) : Tr SV := .leaf (.val (.d (.bool b)))
def ii (n : Int) : Tr SV := .leaf (.val (.d (.int .i64 n)))

def E00 : Es := []
theorem ok00 : SatE P (En E00) := SatE.nil
end Go.Proofs.Ytglchbjdjnffcaa.T3
