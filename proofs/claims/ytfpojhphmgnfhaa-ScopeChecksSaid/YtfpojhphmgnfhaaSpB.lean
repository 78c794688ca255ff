/- Part of a proof of the seat's statements: no statement by itself. -/
import Derived.Test.YtfpojhphmgnfhaaSpA
namespace Go.Proofs.Ytfpojhphmgnfhaa.Sp
open Go.Proofs.Ytfpojhphmgnfhaa.Lg
/-- A term, and how many bytes it has. -/
abbrev R := Int × B × B × B × Int
def run : B → Nat
  | [] => 0
  | b :: s => if u b = 34 then 0 else if u b = 92 then (match s with | [] => 1 | _ :: r => run r + 2) else run s + 1
end Go.Proofs.Ytfpojhphmgnfhaa.Sp
namespace Go.Proofs.Ytfpojhphmgnfhaa.Sp
open Go.Proofs.Ytfpojhphmgnfhaa.Lg
end Go.Proofs.Ytfpojhphmgnfhaa.Sp

namespace Go.Proofs.Ytfpojhphmgnfhaa.Sp
open Go.Proofs.Ytfpojhphmgnfhaa.Lg
end Go.Proofs.Ytfpojhphmgnfhaa.Sp
namespace Go.Proofs.Ytfpojhphmgnfhaa.Sp
open Go.Proofs.Ytfpojhphmgnfhaa.Lg
end Go.Proofs.Ytfpojhphmgnfhaa.Sp

namespace Go.Proofs.Ytfpojhphmgnfhaa.Sp
open Go.Proofs.Ytfpojhphmgnfhaa.Lg
end Go.Proofs.Ytfpojhphmgnfhaa.Sp

namespace Go.Proofs.Ytfpojhphmgnfhaa.Sp
end Go.Proofs.Ytfpojhphmgnfhaa.Sp
