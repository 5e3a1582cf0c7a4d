/- A part of the proof, under no conditions of its own: O5. -/
import Derived.Test.YtmmfjicebmeamaaF10
import Derived.Test.YtmmfjicebmeamaaXE
namespace Go.Proofs.T
open Go Go.Ab Go.RowKit

/-! # What the arguments denote -/

variable {H : Type} {enc : TypeId × Value → H} {w : World}

theorem opU64 (n : Nat) : Opens enc Try.prog w 22 (fun i : Int => [.val (.int .u64 i)]) (fun i => 0 ≤ i ∧ i ≤ 18446744073709551615) n := by
  intro cs x h
  obtain ⟨m, rfl, _, hw⟩ := DataW.trod_int (k := .u64) (show Try.prog.underlying 22 = some (.int .u64) by kernel_rfl) h
  simp [Lit.wf, IntKind.min, IntKind.max, IntKind.signed, IntKind.bits] at hw
  exact ⟨m, ⟨by omega, by omega⟩, rfl, one_seg (.val _)⟩
theorem opU8 (n : Nat) : Opens enc Try.prog w 5 (fun i : Nat => [.val (.int .u8 (i : Int))]) (fun i => i ≤ 255) n := by
  intro cs x h
  obtain ⟨m, rfl, _, hw⟩ := DataW.trod_int (k := .u8) (show Try.prog.underlying 5 = some (.int .u8) by kernel_rfl) h
  simp [Lit.wf, IntKind.min, IntKind.max, IntKind.signed, IntKind.bits] at hw
  obtain ⟨k, rfl⟩ : ∃ k : Nat, m = (k : Int) := ⟨m.toNat, by omega⟩
  exact ⟨k, by omega, rfl, one_seg (.val _)⟩
set_option maxRecDepth 100000
variable {b0 : Nat} {v : Value} {d : DataW H} {ps : List MemPlace}
theorem argU64 (hval : Value.okWide Try.prog w .any b0 22 v) (h : DataW.Trod enc Try.prog w 0 (fun _ => true) true 22 v d ps) : ∃ s : Int, (0 ≤ s ∧ s ≤ 18446744073709551615) ∧ V (G0 w) w v (.val (.int .u64 s)) :=
  open_cell (f := fun s : Int => D.val (.int .u64 s)) (not_agg_int (k := .u64) (by kernel_rfl)) opU64 hval h
theorem argU8 (hval : Value.okWide Try.prog w .any b0 5 v) (h : DataW.Trod enc Try.prog w 0 (fun _ => true) true 5 v d ps) : ∃ s : Nat, s ≤ 255 ∧ V (G0 w) w v (.val (.int .u8 (s : Int))) :=
  open_cell (f := fun s : Nat => D.val (.int .u8 (s : Int))) (not_agg_int (k := .u8) (by kernel_rfl)) opU8 hval h
end Go.Proofs.T

