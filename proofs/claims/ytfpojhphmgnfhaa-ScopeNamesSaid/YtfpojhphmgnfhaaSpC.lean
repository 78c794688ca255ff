/- Part of a proof of the seat's statements: no statement by itself. -/
import Derived.Test.YtfpojhphmgnfhaaSpB
namespace Go.Proofs.Ytfpojhphmgnfhaa.Sp
open Go.Proofs.Ytfpojhphmgnfhaa.Lg
/-! Places of bytes -/
/-! Which of two texts is ahead -/
abbrev TR := Int × B × B × B × Unit
def rightT (t : TR) : Bool := right t.1 t.2.1 t.2.2.1 t.2.2.2.1
end Go.Proofs.Ytfpojhphmgnfhaa.Sp
namespace Go.Proofs.Ytfpojhphmgnfhaa.Sp
open Go.Proofs.Ytfpojhphmgnfhaa.Lg
end Go.Proofs.Ytfpojhphmgnfhaa.Sp
namespace Go.Proofs.Ytfpojhphmgnfhaa.Sp
end Go.Proofs.Ytfpojhphmgnfhaa.Sp
namespace Go.Proofs.Ytfpojhphmgnfhaa.Sp
end Go.Proofs.Ytfpojhphmgnfhaa.Sp
namespace Go.Proofs.Ytfpojhphmgnfhaa.Sp
open Go.Proofs.Ytfpojhphmgnfhaa.Lg
end Go.Proofs.Ytfpojhphmgnfhaa.Sp
namespace Go.Proofs.Ytfpojhphmgnfhaa.Sp
open Go.Proofs.Ytfpojhphmgnfhaa.Lg
end Go.Proofs.Ytfpojhphmgnfhaa.Sp
namespace Go.Proofs.Ytfpojhphmgnfhaa.Sp
end Go.Proofs.Ytfpojhphmgnfhaa.Sp
