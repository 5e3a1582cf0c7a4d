/- In the model of the given program, BoundHolds returns true at every input: no instance set exceeds the bound of its program, and none of its types the height. -/
import Derived.Test.YtnkpcgpmgkaakaaGreatZBB
import Derived.Test.YtnkpcgpmgkaakaaGreatRows
import Derived.JoinedOf
import Derived.MakeChecks
import Derived.LaidSub
import Derived.Deep.DeepLaidRun
namespace Go.Proofs.YtnkpcgpmgkaakaaGreat
open Go Go.Ab Go.RowKit Go.ChangeShapes Go.WideShapes Go.Proofs.T
theorem own:ownKnob Tryz.prog.godebug=none:=by kernel_rfl
theorem abs:laidOutB Tryz.prog=true:=by kernel_rfl
theorem abR:Tryz.prog.underlying 4=some .bool:=by kernel_rfl
def laid:List (String × DataW Unit):=[]
theorem Z8 (os:Os) (args:Array Value):laidMetH Tryz.prog laid ((World.doorLaid Tryz.prog 400 os).forCall (fun _ _=>0) ⟨#[],args,[]⟩).memory :=
 laidMetH_of_parts3 (fuel:=8) (laidMet_nil _ _) (by kernel_rfl) (by kernel_rfl)
theorem Z9 {W:World} (_:laidMetH Tryz.prog laid W):E.A W:=trivial
set_option maxRecDepth 100000 in
theorem Np (os:Os) (started:os.Started) (H:Type) (enc:TypeId × Value→H) :
  ReturnsInHanded {} Tryz.checked os 3 .any (fun w args=>(Rows.boundHoldsSpec.pre enc Tryz.prog Tryz.f3 [] false w args∧laidMetH Tryz.prog laid w)∧sizedMet enc Tryz.prog Tryz.f3 (OpenSpec.ofChange Rows.boundHoldsSpec) false w args)
   (Rows.boundHoldsSpec.post enc Tryz.prog Tryz.f3 false true false false) :=
 lifted (C:=Tryz.checked) (E:=E) rfl (fun _ h=>Z9 h) own started (by kernel_rfl) Tryz.func3
  (ChangeSpec.witness_shaped (enc:=enc) (C:=Tryz.checked) (os:=os) (X:=fun w _=>laidMetH Tryz.prog laid w) false (World.doorLaid Tryz.prog 400 os) #[zPrg] 8 rfl (World.shaped_of_RefB (by kernel_rfl) (by kernel_rfl)) (by kernel_rfl) (by kernel_rfl) (by kernel_rfl) (Z8 os _))
  rfl (by kernel_rfl) abR abs (by kernel_rfl) (fun _ _ args _ _ hval hA=>by
   rw[show Tryz.f3.params.toList=[30] from rfl] at hA;rw[show Tryz.f3.params=#[30] from rfl] at hval;obtain ⟨v0,d0,rfl,rfl,h0⟩:=trodAll_one hA;obtain ⟨a0,k0,q0⟩:=acj (hval 0 30 v0 rfl rfl) h0;exact ⟨⟨_,.one1 q0,fun g d=>Sn a0 k0 (holds a0) g d⟩,rfl⟩)
theorem boundHolds_holds:Rows.BoundHoldsSaid :=
 OpenClaim.holds_of_wide 3 Tryz.f3 rfl rfl rfl rfl rfl rfl rfl ⟨rfl,rfl,rfl,rfl,rfl⟩ rfl rfl rfl rfl rfl (by kernel_rfl) Tryz.func3 (by kernel_rfl)
  (of_decide_eq_true (by kernel_rfl)) (by unfold Func.isWrapper; rw[if_neg (of_decide_eq_false (by kernel_rfl))]; exact ⟨rfl,rfl⟩)
  (fun os started H enc _=>by
   have h:=Np os started H enc;have e:(fun (w:World) (args:Array Value)=>(Rows.boundHoldsSpec.pre enc Tryz.prog Tryz.f3 [] false w args∧laidMetH Tryz.prog laid w)∧sizedMet enc Tryz.prog Tryz.f3 (OpenSpec.ofChange Rows.boundHoldsSpec) false w args)=fun w args=>Rows.boundHoldsSpec.pre enc Tryz.prog Tryz.f3 [] false w args∧sizedMet enc Tryz.prog Tryz.f3 (OpenSpec.ofChange Rows.boundHoldsSpec) false w args:=funext fun w=>funext fun args=>propext ⟨fun h=>⟨h.1.1,h.2⟩,fun h=>⟨⟨h.1,laidMet_nil _ _⟩,h.2⟩⟩;rw[e] at h;exact h)
#print axioms boundHolds_holds
end Go.Proofs.YtnkpcgpmgkaakaaGreat
