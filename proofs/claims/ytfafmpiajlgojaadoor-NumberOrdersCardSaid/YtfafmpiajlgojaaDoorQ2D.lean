/- Part of a proof of the seat's statements: no statement by itself. -/
import Derived.Test.YtfafmpiajlgojaaDoorQ2C
set_option maxRecDepth 100000
open Go.Proofs.YtfafmpiajlgojaaDoor.Lg Go Go.Proofs.YtfafmpiajlgojaaDoor.Sp
open Go.Proofs
namespace Go.Proofs.YtfafmpiajlgojaaDoor.T2



end Go.Proofs.YtfafmpiajlgojaaDoor.T2
