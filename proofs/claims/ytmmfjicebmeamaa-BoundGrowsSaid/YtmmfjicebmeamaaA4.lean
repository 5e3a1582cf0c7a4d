/- A part of the proof, under no conditions of its own: A4. -/
import Derived.Test.YtmmfjicebmeamaaA3
namespace Go.Proofs.T
open Go Go.Ab Go.RowKit

/-! ## Names of formals -/

end Go.Proofs.T

