/- Part of a proof of the seat's statements: no statement by itself. -/
import Derived.Test.YtnbjlifmjhlpnaaLgE3
import Derived.Test.YtnbjlifmjhlpnaaChecked
import Derived.Laws.RangeString
set_option maxRecDepth 100000
namespace Go.Proofs.Ytnbjlifmjhlpnaa.T1
open Go.Proofs.Ytnbjlifmjhlpnaa.Lg Go Go.Proofs.Ytnbjlifmjhlpnaa.Sp
open Go.Proofs
def T : Tab := [(9, { sh := [.str] }), (3, { sh := [.int .i64] }), (4, { sh := [.bool] }), (5, { sh := [.int .u8] }),
  (23, { agg := true, sh := [.int .i64, .str, .str, .str], flds := [(0, 1), (1, 1), (2, 1), (3, 1)], ftys := [3, 9, 9, 9], eq := true }),
  (2, { sh := [.int .i64] }), (24, { sh := [.int .i64] }),
  (48, { agg := true, sh := [.str, .str], arr := some (2, 1), ftys := [9] }),
  (49, { agg := true, sh := [.str, .str, .str, .str, .str, .str], arr := some (3, 2), ftys := [48] }),
  (53, { sh := [.sl [.int .u8]], es := [.int .u8], eb := 1 })]
noncomputable abbrev P := Try.prog
theorem hC : Cx P T := Cx.mk' (by kernel_rfl) (by kernel_rfl)
theorem mixed : P.follows .mixedOrders = true := Try.checked.mixed
abbrev str : Bool × List Sh := (false, [.str])
abbrev byt : Bool × List Sh := (false, [.int .u8])
abbrev int : Bool × List Sh := (false, [.int .i64])
abbrev trm : Bool × List Sh := (true, [.int .i64, .str, .str, .str])
def bl (b : Bool) : Tr SV := .leaf (.val (.d (.bool b)))
def ii (n : Int) : Tr SV := .leaf (.val (.d (.int .i64 n)))
def E00 : Es := []
theorem ok00 : SatE P (En E00) := SatE.nil
end Go.Proofs.Ytnbjlifmjhlpnaa.T1
