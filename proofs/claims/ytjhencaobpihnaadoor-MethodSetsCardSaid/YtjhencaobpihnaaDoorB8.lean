/- A part of the proof, under no conditions of its own: B8. -/
import Derived.Test.YtjhencaobpihnaaDoorB7
namespace Go.Proofs.T
open Go Go.Ab Go.RowKit

/-! ## Fields -/

def fldsOf (d : Dec) (us : List Ty) : List Param := d.fields.map (mapPa (substTy (d.formals.map (·.name)) us))

end Go.Proofs.T

