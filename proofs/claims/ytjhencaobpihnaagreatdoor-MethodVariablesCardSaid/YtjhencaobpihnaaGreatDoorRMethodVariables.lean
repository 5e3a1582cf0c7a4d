/- A part of the proof, under no conditions of its own: RMethodVariables. -/
import Derived.Test.YtjhencaobpihnaaGreatDoorYG
import Derived.Test.YtjhencaobpihnaaGreatDoorYH
import Derived.Test.YtjhencaobpihnaaGreatDoorXE
import Derived.Test.YtjhencaobpihnaaGreatDoorRows
import Derived.JoinedOf
import Derived.MakeChecks
import Derived.LaidSub
import Derived.Deep.DeepLaidRun
namespace Go.Proofs.YtjhencaobpihnaaGreatDoor
open Go Go.Ab Go.RowKit Go.ChangeShapes Go.WideShapes Go.Proofs.T

theorem own : ownKnob Tryz.prog.godebug = none := by kernel_rfl
theorem laidOut : laidOutB Tryz.prog = true := by kernel_rfl
theorem isBool : Tryz.prog.underlying 4 = some .bool := by kernel_rfl

def laid : List (String × DataW Unit) := [("math/bits.deBruijn32tab", Rows.laid_math_bits_deBruijn32tab), ("math/bits.deBruijn64tab", Rows.laid_math_bits_deBruijn64tab), ("internal/strconv.uint64pow10", Rows.laid_internal_strconv_uint64pow10)]
theorem laid_met (os : Os) (args : Array Value) : laidMetH Tryz.prog laid ((World.doorLaid Tryz.prog 400 os).forCall (fun _ _ => 0) ⟨#[], args, []⟩).memory :=
  laidMetH_of_parts3 (fuel := 8) (laidMet_of_run3 8 (by kernel_rfl) (by kernel_rfl) (by kernel_rfl)) (by kernel_rfl) (by kernel_rfl)
theorem laid_tab {W : World} (h : laidMetH Tryz.prog laid W) : E.A W := by
  rw [MakeChecks.laidMetH_plain _ _ _ (by kernel_rfl)] at h
  have h2 : laidMet Tryz.prog [("internal/strconv.uint64pow10", Lib.tabData .u64 Lib.pow10Tab)] W := h.filter (fun x => x.1 == "internal/strconv.uint64pow10")
  exact Lib.tabIs_of_head (g := 0) (t := 163) (e := 134) (n := 20) (by kernel_rfl) (by kernel_rfl) (by kernel_rfl) (by kernel_rfl) (by kernel_rfl) (by kernel_rfl) h2

set_option maxRecDepth 100000 in
theorem methodVariables_lifted (os : Os) (started : os.Started) (H : Type) (enc : TypeId × Value → H) :
    ReturnsInHanded {} Tryz.checked os 5 .any (fun w args => (Rows.methodVariablesSpec.pre enc Tryz.prog Tryz.f5 [] false w args ∧ laidMetH Tryz.prog laid w) ∧ sizedMet enc Tryz.prog Tryz.f5 (OpenSpec.ofChange Rows.methodVariablesSpec) false w args)
      (Rows.methodVariablesSpec.post enc Tryz.prog Tryz.f5 false true false false) :=
  lifted (C := Tryz.checked) (E := E) rfl (fun _ h => laid_tab h) own started (by kernel_rfl) Tryz.func5
    (ChangeSpec.witness_shaped (enc := enc) (C := Tryz.checked) (os := os) (X := fun w _ => laidMetH Tryz.prog laid w) false (World.doorLaid Tryz.prog 400 os) #[zPrg, zType] 8 rfl (World.shaped_of_RefB (by kernel_rfl) (by kernel_rfl)) (by kernel_rfl) (by kernel_rfl) (by kernel_rfl) (laid_met os _))
    rfl (by kernel_rfl) isBool laidOut (by kernel_rfl) (fun W base args ds p hval hA => by
      rw [show Tryz.f5.params.toList = [30, 25] from rfl] at hA
      rw [show Tryz.f5.params = #[30, 25] from rfl] at hval
      obtain ⟨v0, v1, d0, d1, p0, p1, rfl, rfl, rfl, h0, h1⟩ := trodAll_two hA
      obtain ⟨a0, k0, q0⟩ := argPr (hval 0 30 v0 rfl rfl) h0
      obtain ⟨a1, k1, q1⟩ := argTy (hval 1 25 v1 rfl rfl) h1
      exact ⟨⟨_, .two q0 q1, fun g d => mthVariables_calls a0 a1 k0 k1 g d⟩, rfl⟩)

theorem methodVariables_holds : Rows.MethodVariablesSaid :=
  OpenClaim.holds_of_wide 5 Tryz.f5 rfl rfl rfl rfl rfl rfl rfl ⟨rfl, rfl, rfl, rfl, rfl⟩ rfl rfl rfl rfl rfl (by kernel_rfl) Tryz.func5 (by kernel_rfl)
    (of_decide_eq_true (by kernel_rfl)) (by unfold Func.isWrapper; rw [if_neg (of_decide_eq_false (by kernel_rfl))]; exact ⟨rfl, rfl⟩)
    (fun os started H enc _ => methodVariables_lifted os started H enc)

end Go.Proofs.YtjhencaobpihnaaGreatDoor

