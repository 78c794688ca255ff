/- Part of a proof of the seat's statements: no statement by itself. -/
import Derived.Test.YtcmdlllcjpbbkaaLgF
import Derived.Test.YtcmdlllcjpbbkaaChecked
import Derived.Laws.RangeString
set_option maxRecDepth 100000
namespace Go.Proofs.Ytcmdlllcjpbbkaa.T5
open Go.Proofs.Ytcmdlllcjpbbkaa.Lg Go Go.Proofs.Ytcmdlllcjpbbkaa.Sp
open Go.Proofs
def T : Tab := [(2, { sh := [.int .i64] }),
  (3, { sh := [.int .i64] }),
  (4, { sh := [.bool] }),
  (5, { sh := [.int .u8] }),
  (8, { agg := true, sh := [.int .i64, .int .i64, .bool, .int .u8], flds := [(0, 1), (1, 1), (2, 1), (3, 1)], ftys := [2, 3, 4, 6] }),
  (9, { sh := [.str] }),
  (10, { sh := [.str] }),
  (11, { sh := [.str] }),
  (14, { agg := true, sh := [.str, .int .u64], flds := [(0, 1), (1, 1)], ftys := [9, 12] }),
  (22, { sh := [.sl [.int .i64, .str, .int .i64, .str, .str, .str, .int .i64]], es := [.int .i64, .str, .int .i64, .str, .str, .str, .int .i64], eb := 88 }),
  (23, { sh := [.int .i64] }),
  (30, { agg := true, sh := [.int .i64, .str, .str, .str], flds := [(0, 1), (1, 1), (2, 1), (3, 1)], ftys := [3, 9, 9, 9], eq := true }),
  (32, { agg := true, sh := [.int .i64, .str, .int .i64, .str, .str, .str, .int .i64], flds := [(0, 1), (1, 1), (2, 4), (6, 1)], ftys := [3, 9, 30, 3], eq := true }),
  (56, { agg := true, sh := [.str, .str, .str, .str, .str], arr := some (5, 1), ftys := [9] }),
  (58, { sh := [.sl [.int .u8]], es := [.int .u8], eb := 1 })]
noncomputable abbrev P := Try.prog
theorem hC : Cx P T := Cx.mk' (by kernel_rfl) (by kernel_rfl)
theorem mixed : P.follows .mixedOrders = true := Try.checked.mixed
abbrev str : Bool × List Sh := (false, [.str])
abbrev byt : Bool × List Sh := (false, [.int .u8])
abbrev int : Bool × List Sh := (false, [.int .i64])
abbrev trm : Bool × List Sh := (true, [.int .i64, .str, .str, .str])
def bl (b : Bool) : Tr SV := .leaf (.val (.d (.bool b)))
def ii (n : Int) : Tr SV := .leaf (.val (.d (.int .i64 n)))

def E00 : Es := []
theorem ok00 : SatE P (En E00) := SatE.nil
end Go.Proofs.Ytcmdlllcjpbbkaa.T5
