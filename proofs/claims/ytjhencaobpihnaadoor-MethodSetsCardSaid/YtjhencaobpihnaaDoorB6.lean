/- A part of the proof, under no conditions of its own: B6. -/
import Derived.Test.YtjhencaobpihnaaDoorB5
namespace Go.Proofs.T
open Go Go.Ab Go.RowKit

/-! ## The reference: declarations by name -/

theorem dot_ne (a : Str) : (ByteArray.empty : Str) ≠ ⟨#[46]⟩ ++ a := by
  intro h
  have := congrArg ByteArray.size h
  simp [ByteArray.size_append] at this
  have e : (⟨#[46]⟩ : ByteArray).size = 1 := rfl
  omega
theorem dot_inj {a b : Str} : (⟨#[46]⟩ ++ a : Str) = ⟨#[46]⟩ ++ b ↔ a = b := by
  constructor
  · intro h
    have := congrArg (fun x : ByteArray => x.data.toList) h
    simp [ByteArray.data_append] at this
    obtain ⟨⟨a⟩⟩ := a
    obtain ⟨⟨b⟩⟩ := b
    simpa using this
  · rintro rfl; rfl
def isDe (d : Dec) (n : Str) : Bool := decide ((d.kind = 1 ∨ d.kind = 2) ∧ d.name = n)
def isMe (d : Dec) (n m : Str) : Bool := decide (d.kind = 3 ∧ d.name = n ∧ d.sig.name = m)
theorem dKey_ty (d : Dec) (n : Str) : decide (dKey d = some (n, ByteArray.empty)) = isDe d n := by
  unfold dKey isDe
  by_cases h : d.kind = 1 ∨ d.kind = 2
  · simp [h]
  · simp only [h, if_false, false_and, decide_false]
    split
    · simp [Ne.symm (dot_ne d.sig.name)]
    · simp
theorem dKey_me (d : Dec) (n m : Str) : decide (dKey d = some (n, ⟨#[46]⟩ ++ m)) = isMe d n m := by
  unfold dKey isMe
  by_cases h : d.kind = 1 ∨ d.kind = 2
  · have : ¬ d.kind = 3 := by omega
    simp [h, this, dot_ne m]
  · simp only [h, if_false]
    by_cases h3 : d.kind = 3
    · simp [h3]
    · simp [h3]
def tyFind (p : Prg) (n : Str) : Option Nat := p.decls.findIdx? fun d => isDe d n
def meFind (p : Prg) (n m : Str) : Option Nat := p.decls.findIdx? fun d => isMe d n m
theorem tfind_ty (p : Prg) (n : Str) : tfind p.decls (n, ByteArray.empty) = tyFind p n := by
  unfold tfind tyFind
  congr 1
  funext d
  exact dKey_ty d n
theorem tfind_me (p : Prg) (n m : Str) : tfind p.decls (n, ⟨#[46]⟩ ++ m) = meFind p n m := by
  unfold tfind meFind
  congr 1
  funext d
  exact dKey_me d n m


end Go.Proofs.T

