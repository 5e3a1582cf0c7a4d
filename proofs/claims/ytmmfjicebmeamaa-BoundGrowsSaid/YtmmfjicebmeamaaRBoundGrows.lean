/- The number of types grows with each of its three numbers: the law holds at every input. -/
import Derived.Test.YtmmfjicebmeamaaL22
import Derived.Test.YtmmfjicebmeamaaO5
import Derived.Test.YtmmfjicebmeamaaXE
import Derived.Test.YtmmfjicebmeamaaRows
import Derived.JoinedOf
import Derived.MakeChecks
import Derived.LaidSub
import Derived.Deep.DeepLaidRun
namespace Go.Proofs.Ytmmfjicebmeamaa
open Go Go.Ab Go.RowKit Go.ChangeShapes Go.WideShapes Go.Proofs.T

theorem own : ownKnob Try.prog.godebug = none := by kernel_rfl
theorem laidOut : laidOutB Try.prog = true := by kernel_rfl
theorem isBool : Try.prog.underlying 4 = some .bool := by kernel_rfl

def laid : List (String × DataW Unit) := []
theorem laid_met (os : Os) (args : Array Value) : laidMetH Try.prog laid ((World.doorLaid Try.prog 400 os).forCall (fun _ _ => 0) ⟨#[], args, []⟩).memory :=
  laidMetH_of_parts3 (fuel := 8) (laidMet_nil _ _) (by kernel_rfl) (by kernel_rfl)
theorem laid_tab {W : World} (_ : laidMetH Try.prog laid W) : E.A W := trivial

set_option maxRecDepth 100000 in
theorem boundGrows_lifted (os : Os) (started : os.Started) (H : Type) (enc : TypeId × Value → H) :
    ReturnsInHanded {} Try.checked os 4 .any (fun w args => (Rows.boundGrowsSpec.pre enc Try.prog Try.f4 [] false w args ∧ laidMetH Try.prog laid w) ∧ sizedMet enc Try.prog Try.f4 (OpenSpec.ofChange Rows.boundGrowsSpec) false w args)
      (Rows.boundGrowsSpec.post enc Try.prog Try.f4 false true false false) :=
  lifted (C := Try.checked) (E := E) rfl (fun _ h => laid_tab h) own started (by kernel_rfl) Try.func4
    (ChangeSpec.witness_shaped (enc := enc) (C := Try.checked) (os := os) (X := fun w _ => laidMetH Try.prog laid w) false (World.doorLaid Try.prog 400 os) #[.int .u8 0, .int .u8 0, .int .u8 0] 8 rfl (World.shaped_of_RefB (by kernel_rfl) (by kernel_rfl)) (by kernel_rfl) (by kernel_rfl) (by kernel_rfl) (laid_met os _))
    rfl (by kernel_rfl) isBool laidOut (by kernel_rfl) (fun W base args ds p hval hA => by
      rw [show Try.f4.params.toList = [5, 5, 5] from rfl] at hA
      rw [show Try.f4.params = #[5, 5, 5] from rfl] at hval
      obtain ⟨v0, v1, v2, d0, d1, d2, p0, p1, p2, rfl, rfl, rfl, h0, h1, h2⟩ := trodAll_three hA
      obtain ⟨a0, k0, q0⟩ := argU8 (hval 0 5 v0 rfl rfl) h0
      obtain ⟨a1, k1, q1⟩ := argU8 (hval 1 5 v1 rfl rfl) h1
      obtain ⟨a2, k2, q2⟩ := argU8 (hval 2 5 v2 rfl rfl) h2
      exact ⟨⟨_, .three q0 q1 q2, fun g d => grows_calls a0 a1 a2 k0 k1 k2 g d⟩, rfl⟩)

theorem boundGrows_holds : Rows.BoundGrowsSaid :=
  OpenClaim.holds_of_wide 4 Try.f4 rfl rfl rfl rfl rfl rfl rfl ⟨rfl, rfl, rfl, rfl, rfl⟩ rfl rfl rfl rfl rfl (by kernel_rfl) Try.func4 (by kernel_rfl)
    (of_decide_eq_true (by kernel_rfl)) (by unfold Func.isWrapper; rw [if_neg (of_decide_eq_false (by kernel_rfl))]; exact ⟨rfl, rfl⟩)
    (fun os started H enc _ => by
      have h := boundGrows_lifted os started H enc
      have e : (fun (w : World) (args : Array Value) => (Rows.boundGrowsSpec.pre enc Try.prog Try.f4 [] false w args ∧ laidMetH Try.prog laid w) ∧ sizedMet enc Try.prog Try.f4 (OpenSpec.ofChange Rows.boundGrowsSpec) false w args) = fun w args => Rows.boundGrowsSpec.pre enc Try.prog Try.f4 [] false w args ∧ sizedMet enc Try.prog Try.f4 (OpenSpec.ofChange Rows.boundGrowsSpec) false w args := funext fun w => funext fun args => propext ⟨fun h => ⟨h.1.1, h.2⟩, fun h => ⟨⟨h.1, laidMet_nil _ _⟩, h.2⟩⟩
      rw [e] at h
      exact h)
#print axioms boundGrows_holds

end Go.Proofs.Ytmmfjicebmeamaa

