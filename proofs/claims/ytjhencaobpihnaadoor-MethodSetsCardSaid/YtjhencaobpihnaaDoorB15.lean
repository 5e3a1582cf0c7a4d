/- A part of the proof, under no conditions of its own: B15. -/
import Derived.Test.YtjhencaobpihnaaDoorB14
namespace Go.Proofs.T
open Go Go.Ab Go.RowKit

/-! ## The fixed results -/

def sP : Str := ⟨#[80]⟩
def sQ : Str := ⟨#[81]⟩
def sT1 : Str := ⟨#[84]⟩
def sA1 : Str := ⟨#[97]⟩
def sL1 : Str := ⟨#[108]⟩
def sAny : Str := ⟨#[65, 110, 121]⟩
def decP : Dec := ⟨1, sP, [⟨sA1, .mk sAny [] 0, 0⟩], [⟨sL1, .mk sA1 [] 0, 0⟩], [], ByteArray.empty, [], zeroSi, zeroEx, 0⟩
def prgP : Prg := ⟨[decP], zeroEx⟩
theorem sm1 (n : Str) (h : n.size ≤ 100) : smTy (.mk n [] 0) := (smTy_iff _).2 ⟨by show n.size ≤ _; omega, by simp [Ty.args], by simp [Ty.args]⟩
theorem sm_prgP : smPr prgP := by
  have hz := smDe_zero
  have he : smEx zeroEx := hz.2.2.2.2.2.2.2
  have hs : smSi zeroSi := hz.2.2.2.2.2.2.1
  refine ⟨⟨by simp [prgP], ?_⟩, he⟩
  intro e h
  simp only [prgP, List.mem_singleton] at h
  subst h
  refine ⟨by decide, ⟨by simp [decP], ?_⟩, ⟨by simp [decP], ?_⟩, ⟨by simp [decP], by simp [decP]⟩, by decide, ⟨by simp [decP], by simp [decP]⟩, hs, he⟩
  · intro f hf
    simp only [decP, List.mem_singleton] at hf
    subst hf
    exact ⟨by decide, sm1 _ (by decide)⟩
  · intro f hf
    simp only [decP, List.mem_singleton] at hf
    subst hf
    exact ⟨by decide, sm1 _ (by decide)⟩
theorem tyP : tyDe prgP sP = some decP := by simp [tyDe, tyFind, prgP, isDe, decP]
theorem tyQ : tyDe prgP sQ = none := by
  have : ¬ sP = sQ := by decide
  simp [tyDe, tyFind, prgP, isDe, decP, this]
def tyPT : Ty := .mk sP [.mk sT1 [] 0] 0
def fldT : Param := ⟨sL1, .mk sT1 [] 0, 0⟩
theorem fldP : fldsOf ((tyDe prgP tyPT.name).getD zeroDe) tyPT.args = [fldT] := by
  have h1 : tyPT.name = sP := rfl
  have h2 : tyPT.args = [.mk sT1 [] 0] := rfl
  rw [h1, h2, tyP]
  have h : substTy [sA1] [.mk sT1 [] 0] (.mk sA1 [] 0) = .mk sT1 [] 0 := by
    simp [substTy, look, isS, Ty.args, Ty.name, List.findIdx?_cons]
  simp [fldsOf, decP, mapPa, h, fldT]
theorem instP : instOf prgP tyPT 1 = true := by
  have h1 : tyPT.name = sP := rfl
  have h2 : tyPT.args = [.mk sT1 [] 0] := rfl
  simp [instOf, kindOf, fmsOf, h1, h2, tyP, decP]
theorem instP0 (k : Int) : instOf prgP (.mk sP [] 0) k = false := by
  simp [instOf, fmsOf, Ty.name, Ty.args, tyP, decP]
theorem at_zero'' (a : D) (rows : List D) : at? (a :: rows) 0 = some a := rfl

end Go.Proofs.T

