/- A part of the proof, under no conditions of its own: RFaultWraps. -/
import Derived.Test.YtgclmhkkiafmjaaDoorD19
import Derived.Test.YtgclmhkkiafmjaaDoorD20
import Derived.Test.YtgclmhkkiafmjaaDoorD21
import Derived.Test.YtgclmhkkiafmjaaDoorO4
import Derived.Test.YtgclmhkkiafmjaaDoorXE
import Derived.Test.YtgclmhkkiafmjaaDoorRows
import Derived.JoinedOf
import Derived.MakeChecks
import Derived.LaidSub
import Derived.Deep.DeepLaidRun
namespace Go.Proofs.YtgclmhkkiafmjaaDoor
open Go Go.Ab Go.RowKit Go.ChangeShapes Go.WideShapes Go.Proofs.T

theorem own : ownKnob Tryd.prog.godebug = none := by kernel_rfl
theorem laidOut : laidOutB Tryd.prog = true := by kernel_rfl
theorem isBool : Tryd.prog.underlying 4 = some .bool := by kernel_rfl

def laid : List (String × DataW Unit) := [("math/bits.deBruijn32tab", Rows.laid_math_bits_deBruijn32tab), ("math/bits.deBruijn64tab", Rows.laid_math_bits_deBruijn64tab), ("internal/strconv.uint64pow10", Rows.laid_internal_strconv_uint64pow10), ("errors.errorType", Rows.laid_errors_errorType), ("castings/fault.names", Rows.laid_castings_fault_names)]
theorem laid_met (os : Os) (args : Array Value) : laidMetH Tryd.prog laid ((World.doorLaid Tryd.prog 400 os).forCall (fun _ _ => 0) ⟨#[], args, []⟩).memory :=
  laidMetH_of_parts3 (fuel := 8) (laidMet_of_run3 8 (by kernel_rfl) (by kernel_rfl) (by kernel_rfl)) (by kernel_rfl) (by kernel_rfl)
theorem laid_tab {W : World} (h : laidMetH Tryd.prog laid W) : E.A W := by
  have h2 : laidMet Tryd.prog [("math/bits.deBruijn32tab", Rows.laid_math_bits_deBruijn32tab), ("math/bits.deBruijn64tab", Rows.laid_math_bits_deBruijn64tab), ("internal/strconv.uint64pow10", Rows.laid_internal_strconv_uint64pow10), ("castings/fault.names", Rows.laid_castings_fault_names)] W ∧ handlesMet Tryd.prog [("errors.errorType", Rows.laid_errors_errorType)] W := h
  exact laid2_of h2.1 (by kernel_rfl) (by kernel_rfl) h2.2

set_option maxRecDepth 100000 in
theorem faultWraps_lifted (os : Os) (started : os.Started) (H : Type) (enc : TypeId × Value → H) :
    ReturnsInHanded {} Tryd.checked os 6 .any (fun w args => (Rows.faultWrapsSpec.pre enc Tryd.prog Tryd.f6 [] false w args ∧ laidMetH Tryd.prog laid w) ∧ sizedMet enc Tryd.prog Tryd.f6 (OpenSpec.ofChange Rows.faultWrapsSpec) false w args)
      (Rows.faultWrapsSpec.post enc Tryd.prog Tryd.f6 false true false false) :=
  lifted (C := Tryd.checked) (E := E) rfl (fun _ h => laid_tab h) own started (by kernel_rfl) Tryd.func6
    (ChangeSpec.witness_shaped (enc := enc) (C := Tryd.checked) (os := os) (X := fun w _ => laidMetH Tryd.prog laid w) false (World.doorLaid Tryd.prog 400 os) #[zEr, .string ByteArray.empty] 8 rfl (World.shaped_of_RefB (by kernel_rfl) (by kernel_rfl)) (by kernel_rfl) (by kernel_rfl) (by kernel_rfl) (laid_met os _))
    rfl (by kernel_rfl) isBool laidOut (by kernel_rfl) (fun W base args ds p hval hA => by
      rw [show Tryd.f6.params.toList = [24, 9] from rfl] at hA
      rw [show Tryd.f6.params = #[24, 9] from rfl] at hval
      obtain ⟨v0, v1, d0, d1, p0, p1, rfl, rfl, rfl, h0, h1⟩ := trodAll_two hA
      obtain ⟨a0, k0, q0⟩ := argEr (hval 0 24 v0 rfl rfl) h0
      obtain ⟨a1, k1, q1⟩ := argStr (hval 1 9 v1 rfl rfl) h1
      exact ⟨⟨_, .two q0 q1, fun g d => wraps_calls a0 a1 k0 k1 g d⟩, rfl⟩)

theorem faultWraps_holds : Rows.FaultWrapsSaid :=
  OpenClaim.holds_of_wide 6 Tryd.f6 rfl rfl rfl rfl rfl rfl rfl ⟨rfl, rfl, rfl, rfl, rfl⟩ rfl rfl rfl rfl rfl (by kernel_rfl) Tryd.func6 (by kernel_rfl)
    (of_decide_eq_true (by kernel_rfl)) (by unfold Func.isWrapper; rw [if_neg (of_decide_eq_false (by kernel_rfl))]; exact ⟨rfl, rfl⟩)
    (fun os started H enc _ => faultWraps_lifted os started H enc)

end Go.Proofs.YtgclmhkkiafmjaaDoor

