/- A part of the proof, under no conditions of its own: P1. -/
import Derived.Test.YtjhencaobpihnaaDoorA18
namespace Go.Proofs.T
open Go Go.Ab Go.RowKit

/-! ## Being the same is an equivalence -/

mutual
def strip : Ty → Ty
  | .mk n x _ => .mk n (strips x) 0
def strips : List Ty → List Ty
  | [] => []
  | t :: r => strip t :: strips r
end
mutual
theorem cmpTy_iff : ∀ (t u : Ty), cmpTy t u = 0 ↔ strip t = strip u
  | .mk a x p, .mk b y q => by
    simp only [cmpTy, strip, Ty.mk.injEq, and_true]
    rw [← cmpTys_iff x y, ← cmpS_zero]
    split
    · rename_i h; simp [h]
    · rename_i h; simp [h]
theorem cmpTys_iff : ∀ (x y : List Ty), cmpTys x y = 0 ↔ strips x = strips y
  | [], [] => by simp [cmpTys]
  | [], _ :: _ => by simp [cmpTys, strips]
  | _ :: _, [] => by simp [cmpTys, strips]
  | t :: x, u :: y => by
    simp only [cmpTys, strips, List.cons.injEq]
    rw [← cmpTys_iff x y, ← cmpTy_iff t u]
    split
    · rename_i h; simp [h]
    · rename_i h; simp [h]
end
theorem same_iff (t u : Ty) : same t u = true ↔ strip t = strip u := by simp [same, cmpTy_iff]
theorem cmpTy_self (t : Ty) : cmpTy t t = 0 := (cmpTy_iff t t).2 rfl
theorem same_self (t : Ty) : same t t = true := (same_iff t t).2 rfl

theorem allB_iff {α β : Type} {p : α → α → Bool} {k : α → β} (h : ∀ a b, p a b = true ↔ k a = k b) : ∀ x y : List α, allB p x y = true ↔ x.map k = y.map k
  | [], [] => by simp [allB]
  | [], _ :: _ => by simp [allB]
  | _ :: _, [] => by simp [allB]
  | a :: x, b :: y => by simp [allB, h, allB_iff h x y]

def keyFm (a : Formal) : Str × Ty := (a.name, strip a.bound)
def keyPa (a : Param) : Str × Ty := (a.name, strip a.type)
def keySi (s : Sig) : Str × List (Str × Ty) × List (Str × Ty) × Ty := (s.name, s.formals.map keyFm, s.params.map keyPa, strip s.result)
theorem sameSi_iff (s t : Sig) : sameSi s t = true ↔ keySi s = keySi t := by
  have h1 : ∀ a b, sameFm a b = true ↔ keyFm a = keyFm b := fun a b => by simp [sameFm, keyFm, same_iff]
  have h2 : ∀ a b, samePa a b = true ↔ keyPa a = keyPa b := fun a b => by simp [samePa, keyPa, same_iff]
  simp [sameSi, keySi, allB_iff h1, allB_iff h2, same_iff]
def key (s : Sig) := keySi (canonSi s)
theorem alike_iff (s t : Sig) : alike s t = true ↔ key s = key t := sameSi_iff _ _
theorem alike_dec (s t : Sig) : alike s t = @decide (key s = key t) (Classical.propDecidable _) := by
  rw [Bool.eq_iff_iff]; simp [alike_iff]

theorem allB_self {α : Type} {p : α → α → Bool} (h : ∀ a, p a a = true) : ∀ x : List α, allB p x x = true
  | [] => rfl
  | a :: x => by simp [allB, h, allB_self h x]
theorem eqTy_self (t : Ty) : eqTy t t = true := (eqTy_iff t t).2 rfl
theorem refSi_self (q : Bool) (s : Sig) : refSi q s s = true := by
  have h1 : ∀ a, refFm q a a = true := fun a => by simp [refFm, same_self, eqTy_self]
  have h2 : ∀ a, refPa q a a = true := fun a => by simp [refPa, same_self, eqTy_self]
  simp [refSi, allB_self h1, allB_self h2, same_self, eqTy_self]

/-! ## The canonical form of a canonical form -/

theorem loc_fix (n : Nat) : ∀ t, substTy ((List.range n).map localS) (locTys n) t = t := by
  refine Ty.ind fun t ih => ?_
  have hk : t.args.map (substTy ((List.range n).map localS) (locTys n)) = t.args := by
    have := List.map_congr_left (g := fun x => x) ih
    simpa using this
  rw [substTy_eq, hk]
  split
  · rename_i u he hl
    have he : t.args = [] := List.isEmpty_iff.1 he
    simp only [look, Option.bind_eq_some_iff] at hl
    obtain ⟨i, h1, h2⟩ := hl
    obtain ⟨hi, h3, _⟩ := List.findIdx?_eq_some_iff_getElem.1 h1
    have hi' : i < n := by simpa using hi
    have h4 : localS i = t.name := by simpa [isS] using h3
    have h5 : u = locTy i := by simpa [locTys, hi'] using h2.symm
    subst h5
    cases t
    simp only [Ty.args, Ty.name] at he h4
    simp [locTy, Ty.name, Ty.args, Ty.pos, h4, he]
  · cases t; rfl
theorem canonSi_idem (s : Sig) : canonSi (canonSi s) = canonSi s := by
  have hlen : (canonSi s).formals.length = s.formals.length := by simp [canonSi]
  have hn : (canonSi s).formals.map (·.name) = (List.range s.formals.length).map localS := by
    apply List.ext_getElem
    · simp [hlen]
    · intro i h1 h2
      simp [canonSi, toLoc]
  have hf : ownF (canonSi s) = fun t => t := by
    funext t
    rw [ownF, hn, hlen]
    exact loc_fix _ t
  have hF : mapFm (ownF (canonSi s)) = id := by rw [hf]; rfl
  have hP : mapPa (ownF (canonSi s)) = id := by rw [hf]; rfl
  have h1 : (canonSi s).formals.mapIdx toLoc = (canonSi s).formals := by
    apply List.ext_getElem
    · simp
    · intro i h1 h2
      simp [canonSi, toLoc]
  have h2 : (canonSi s).params.map noName = (canonSi s).params := by
    simp [canonSi, noName]
  generalize canonSi s = c at *
  rw [canonSi, hF, hP, hf]
  simp only [List.map_id, h1, h2]
end Go.Proofs.T

