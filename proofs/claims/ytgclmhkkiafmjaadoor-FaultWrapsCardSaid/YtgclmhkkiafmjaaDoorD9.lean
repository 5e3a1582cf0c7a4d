/- A part of the proof, under no conditions of its own: D9. -/
import Derived.Test.YtgclmhkkiafmjaaDoorD8
namespace Go.Proofs.T
open Go Go.Ab Go.RowKit Go.Extern.Stop Go.Stop Go.Extern

theorem set30 (ta b : Addr) (v : Value) (W : World) (hb : W.cell? b = some v) :
    (ReflectliteValue.set #[.agg #[hd 30, .pointer (some ta), .int .u64 386], .agg #[hd 30, .pointer (some b), .int .u64 130]]).run Tryd.prog W
      = ((storeVar 30 ta v).run Tryd.prog W).andThen fun _ w => .ok (.tuple #[]) w := by
  rw [rls]
  simp only [Sem.run_bind, parts30a, parts30, Result.andThen]
  simp [ReflectliteValue.flagAddr, loadVar, isAgg, underlying, Tryd.underlying30, hb, Result.andThen, direct30]
end Go.Proofs.T

