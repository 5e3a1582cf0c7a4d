/- In the model of the given program, BoundMatchesReference returns true at every input: the height and the bound of any right program are those of the reference. -/
import Derived.Test.YtmmfjicebmeamaaGreatZAT
import Derived.Test.YtmmfjicebmeamaaGreatZAF
import Derived.Test.YtmmfjicebmeamaaGreatRows
import Derived.JoinedOf
import Derived.MakeChecks
import Derived.LaidSub
import Derived.Deep.DeepLaidRun
namespace Go.Proofs.YtmmfjicebmeamaaGreat
open Go Go.Ab Go.RowKit Go.ChangeShapes Go.WideShapes Go.Proofs.T

theorem own : ownKnob Tryz.prog.godebug = none := by kernel_rfl
theorem laidOut : laidOutB Tryz.prog = true := by kernel_rfl
theorem isBool : Tryz.prog.underlying 4 = some .bool := by kernel_rfl

def laid : List (String × DataW Unit) := []
theorem laid_met (os : Os) (args : Array Value) : laidMetH Tryz.prog laid ((World.doorLaid Tryz.prog 400 os).forCall (fun _ _ => 0) ⟨#[], args, []⟩).memory :=
  laidMetH_of_parts3 (fuel := 8) (laidMet_nil _ _) (by kernel_rfl) (by kernel_rfl)
theorem laid_tab {W : World} (_ : laidMetH Tryz.prog laid W) : E.A W := trivial

set_option maxRecDepth 100000 in
theorem boundMatchesReference_lifted (os : Os) (started : os.Started) (H : Type) (enc : TypeId × Value → H) :
    ReturnsInHanded {} Tryz.checked os 3 .any (fun w args => (Rows.boundMatchesReferenceSpec.pre enc Tryz.prog Tryz.f3 [] false w args ∧ laidMetH Tryz.prog laid w) ∧ sizedMet enc Tryz.prog Tryz.f3 (OpenSpec.ofChange Rows.boundMatchesReferenceSpec) false w args)
      (Rows.boundMatchesReferenceSpec.post enc Tryz.prog Tryz.f3 false true false false) :=
  lifted (C := Tryz.checked) (E := E) rfl (fun _ h => laid_tab h) own started (by kernel_rfl) Tryz.func3
    (ChangeSpec.witness_shaped (enc := enc) (C := Tryz.checked) (os := os) (X := fun w _ => laidMetH Tryz.prog laid w) false (World.doorLaid Tryz.prog 400 os) #[zPrg] 8 rfl (World.shaped_of_RefB (by kernel_rfl) (by kernel_rfl)) (by kernel_rfl) (by kernel_rfl) (by kernel_rfl) (laid_met os _))
    rfl (by kernel_rfl) isBool laidOut (by kernel_rfl) (fun W base args ds p hval hA => by
      rw [show Tryz.f3.params.toList = [30] from rfl] at hA
      rw [show Tryz.f3.params = #[30] from rfl] at hval
      obtain ⟨v0, d0, rfl, rfl, h0⟩ := trodAll_one hA
      obtain ⟨a0, k0, q0⟩ := argPr (hval 0 30 v0 rfl rfl) h0
      exact ⟨⟨_, .one1 q0, fun g d => boundRef_calls a0 k0 g d⟩, rfl⟩)

theorem boundMatchesReference_holds : Rows.BoundMatchesReferenceSaid :=
  OpenClaim.holds_of_wide 3 Tryz.f3 rfl rfl rfl rfl rfl rfl rfl ⟨rfl, rfl, rfl, rfl, rfl⟩ rfl rfl rfl rfl rfl (by kernel_rfl) Tryz.func3 (by kernel_rfl)
    (of_decide_eq_true (by kernel_rfl)) (by unfold Func.isWrapper; rw [if_neg (of_decide_eq_false (by kernel_rfl))]; exact ⟨rfl, rfl⟩)
    (fun os started H enc _ => by
      have h := boundMatchesReference_lifted os started H enc
      have e : (fun (w : World) (args : Array Value) => (Rows.boundMatchesReferenceSpec.pre enc Tryz.prog Tryz.f3 [] false w args ∧ laidMetH Tryz.prog laid w) ∧ sizedMet enc Tryz.prog Tryz.f3 (OpenSpec.ofChange Rows.boundMatchesReferenceSpec) false w args) = fun w args => Rows.boundMatchesReferenceSpec.pre enc Tryz.prog Tryz.f3 [] false w args ∧ sizedMet enc Tryz.prog Tryz.f3 (OpenSpec.ofChange Rows.boundMatchesReferenceSpec) false w args := funext fun w => funext fun args => propext ⟨fun h => ⟨h.1.1, h.2⟩, fun h => ⟨⟨h.1, laidMet_nil _ _⟩, h.2⟩⟩
      rw [e] at h
      exact h)
#print axioms boundMatchesReference_holds

end Go.Proofs.YtmmfjicebmeamaaGreat

