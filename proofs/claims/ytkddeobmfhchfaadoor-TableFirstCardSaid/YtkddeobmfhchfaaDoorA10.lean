/- A part of the proof, under no conditions of its own: A10. -/
import Derived.Test.YtkddeobmfhchfaaDoorA9
namespace Go.Proofs.T
open Go Go.Ab Go.RowKit

/-! ## Signatures that are alike -/

/-- The lists of what is handed back are seen as lists that stay. -/
theorem frozenSi {f : FuncId} {args : List D} {g d : Nat} {s : Sig} (h : ACalls E f args [] g d (ownSi g d s) (newSi g d s)) : ACalls E f args [] g d (encSi s) [] := by
  refine h.sees ?_
  refine Sees.trans (sees_frz ⟨g, d, 1⟩ (K := fun st => st = ⟨[(0, .agg [.val (.string s.name), slFm s.formals, .own ⟨g, d, 2⟩ s.params.length, .val (.string s.result.name), .sl false (s.result.args.map encTy), .val (.int .i64 s.result.pos), .val (.int .i64 s.pos)])], [(⟨g, d, 2⟩, .arr 62 5 (s.params.map encPa))]⟩) ?_) ?_
  · simp only [go_sem, newSi, ownSi]
  · rintro _ rfl
    refine sees_frz ⟨g, d, 2⟩ ?_
    simp only [go_sem]
    exact ⟨rfl, fun p hp => nomatch hp⟩

theorem canonF_calls (s : Sig) (hs : smSi s) (g d : Nat) : ACalls E 37 [encSi s] [] g d (encSi (canonSi s)) [] := frozenSi (canon_calls s hs g d)
theorem refCanonF_calls (s : Sig) (hs : smSi s) (g d : Nat) : ACalls E 49 [encSi s] [] g d (encSi (canonSi s)) [] := frozenSi (refCanon_calls s hs g d)
theorem substSigF_calls (ns : List Str) (us : List Ty) (hns : ns.length ≤ 1000000) (hus : ∀ x ∈ us, smTy x) (s : Sig) (hs : smSi s) (g d : Nat) : ACalls E 36 [encSi s, slS ns, slTy us] [] g d (encSi (mapSi (substTy ns us) s)) [] := frozenSi (substSig_calls ns us hns hus s hs g d)
theorem refSubstSigF_calls (ns : List Str) (us : List Ty) (hns : ns.length ≤ 1000000) (hus : ∀ x ∈ us, smTy x) (s : Sig) (hs : smSi s) (g d : Nat) : ACalls E 48 [encSi s, slS ns, slTy us] [] g d (encSi (mapSi (substTy ns us) s)) [] := frozenSi (refSubstSig_calls ns us hns hus s hs g d)

def same (t u : Ty) : Bool := decide (cmpTy t u = 0)

/-- Two lists, element by element. -/
def allB {α : Type} (p : α → α → Bool) : List α → List α → Bool
  | [], [] => true
  | a :: x, b :: y => p a b && allB p x y
  | _, _ => false
theorem allB_length {α : Type} {p : α → α → Bool} : ∀ {x y : List α}, x.length ≠ y.length → allB p x y = false
  | [], [], h => absurd rfl h
  | [], _ :: _, _ => rfl
  | _ :: _, [], _ => rfl
  | a :: x, b :: y, h => by simp only [allB, allB_length (x := x) (y := y) (fun e => h (by simp [e])), Bool.and_false]

def sameFm (a b : Formal) : Bool := decide (a.name = b.name) && same a.bound b.bound
def samePa (a b : Param) : Bool := decide (a.name = b.name) && same a.type b.type
def sameSi (s t : Sig) : Bool := decide (s.name = t.name) && (allB sameFm s.formals t.formals && (allB samePa s.params t.params && same s.result t.result))


end Go.Proofs.T

