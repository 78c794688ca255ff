/- Part of a proof of the seat's statements: no statement by itself. -/
import Derived.Test.YtfpojhphmgnfhaaQ7B
import Derived.Test.YtfpojhphmgnfhaaLgF
import Derived.Test.YtfpojhphmgnfhaaSpC
section
set_option maxRecDepth 100000
open Go.Proofs.Ytfpojhphmgnfhaa.Lg Go Go.Proofs.Ytfpojhphmgnfhaa.Sp
open Go.Proofs
namespace Go.Proofs.Ytfpojhphmgnfhaa.T7


abbrev tmS : List Sh := [.int .i64, .str, .str, .str]

end Go.Proofs.Ytfpojhphmgnfhaa.T7
end

section
set_option maxRecDepth 100000
open Go.Proofs.Ytfpojhphmgnfhaa.Lg Go Go.Proofs.Ytfpojhphmgnfhaa.Sp
open Go.Proofs
namespace Go.Proofs.Ytfpojhphmgnfhaa.T7



end Go.Proofs.Ytfpojhphmgnfhaa.T7
end
