/- A part of the proof, under no conditions of its own: B22. -/
import Derived.Test.YtjhencaobpihnaaDoorB21
namespace Go.Proofs.T
open Go Go.Ab Go.RowKit

end Go.Proofs.T

