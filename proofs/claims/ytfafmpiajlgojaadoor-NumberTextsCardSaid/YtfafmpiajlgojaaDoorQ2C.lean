/- Part of a proof of the seat's statements: no statement by itself. -/
import Derived.Test.YtfafmpiajlgojaaDoorQ2B
import Derived.Test.YtfafmpiajlgojaaDoorLgF
import Derived.Test.YtfafmpiajlgojaaDoorSpC
set_option maxRecDepth 100000
open Go.Proofs.YtfafmpiajlgojaaDoor.Lg Go Go.Proofs.YtfafmpiajlgojaaDoor.Sp
open Go.Proofs
namespace Go.Proofs.YtfafmpiajlgojaaDoor.T2


abbrev tmS : List Sh := [.int .i64, .str, .str, .str]

end Go.Proofs.YtfafmpiajlgojaaDoor.T2
