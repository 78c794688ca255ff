/- Part of a proof of the seat's statements: no statement by itself. -/
import Derived.Test.YtfpojhphmgnfhaaSpC
namespace Go.Proofs.Ytfpojhphmgnfhaa.Sp
open Go.Proofs.Ytfpojhphmgnfhaa.Lg
/-! A term's text, read. -/
end Go.Proofs.Ytfpojhphmgnfhaa.Sp
namespace Go.Proofs.Ytfpojhphmgnfhaa.Sp
open Go.Proofs.Ytfpojhphmgnfhaa.Lg
end Go.Proofs.Ytfpojhphmgnfhaa.Sp
namespace Go.Proofs.Ytfpojhphmgnfhaa.Sp
open Go.Lib
end Go.Proofs.Ytfpojhphmgnfhaa.Sp
namespace Go.Proofs.Ytfpojhphmgnfhaa.Sp
open Go.Proofs.Ytfpojhphmgnfhaa.Lg
end Go.Proofs.Ytfpojhphmgnfhaa.Sp
