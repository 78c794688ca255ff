/- Part of a proof of the seat's statements: no statement by itself. -/
import Derived.Test.YtfpojhphmgnfhaaQ7
import Derived.Test.YtfpojhphmgnfhaaSpB
set_option maxRecDepth 100000
open Go.Proofs.Ytfpojhphmgnfhaa.Lg Go Go.Proofs.Ytfpojhphmgnfhaa.Sp
open Go.Proofs
namespace Go.Proofs.Ytfpojhphmgnfhaa.T7
attribute [local simp] letterI digitI nameI badI iriI textI lowI


end Go.Proofs.Ytfpojhphmgnfhaa.T7
