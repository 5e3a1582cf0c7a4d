/- A part of the proof, under no conditions of its own: O2. -/
import Derived.Test.YtkddeobmfhchfaaDoorO1
namespace Go.Proofs.T
open Go Go.Ab Go.RowKit

/-! # What the arguments denote: programs -/

variable {H : Type} {enc : TypeId × Value → H} {w : World}

theorem encEx_cellsF : (fun a => (encEx a).cells) = exC := funext fun a => by rw [encEx_agg]; rfl
theorem opEx : ∀ n : Nat, Opens enc Tryd.prog w 28 exC okEx n := by
  intro n
  induction n using Nat.strongRecOn with
  | _ n ih =>
    cases n with
    | zero => exact Opens.zero
    | succ n =>
      intro cs x h
      obtain ⟨kd, _, s0⟩ := open_at 0 (show fieldAt Tryd.prog 28 0 = some (3, 0) by kernel_rfl) h (opInt n)
      obtain ⟨nm, k1, s1⟩ := open_at 1 (show fieldAt Tryd.prog 28 1 = some (9, 1) by kernel_rfl) h (opStr n)
      obtain ⟨ty, k2, s2⟩ := open_at 2 (show fieldAt Tryd.prog 28 2 = some (25, 2) by kernel_rfl) h (opTy n)
      obtain ⟨ars, k3, s3⟩ := open_at 3 (show fieldAt Tryd.prog 28 3 = some (23, 5) by kernel_rfl) h (opTys n)
      obtain ⟨kids, k4, s4⟩ := open_at 4 (show fieldAt Tryd.prog 28 4 = some (26, 6) by kernel_rfl) h
        (opens_slb (e := 28) (k := 8) (f := encEx) (by kernel_rfl) (by kernel_rfl) (by decide) (fun a => by rw [encEx_agg]; rfl)
          (fun m hm => by rw [encEx_cellsF]; exact ih m (by omega)))
      obtain ⟨ps, _, s5⟩ := open_at 5 (show fieldAt Tryd.prog 28 5 = some (3, 7) by kernel_rfl) h (opInt n)
      refine ⟨.mk kd nm ty ars kids ps, (okEx_iff _).2 ⟨k1, k2, k3, k4.1, k4.2⟩, (open_len (by kernel_rfl) h).trans (by kernel_rfl), ?_⟩
      exact ((((s0.app s1 rfl).app s2 rfl).app s3 rfl).app s4 rfl).app s5 rfl

theorem opSis (n : Nat) : Opens enc Tryd.prog w 39 (fun l : List Sig => [slSi l]) (fun l => l.length ≤ 9223372036854775807 ∧ ∀ a ∈ l, okSi a) n :=
  opens_slb (e := 50) (k := 7) (f := encSi) (by kernel_rfl) (by kernel_rfl) (by decide) (fun a => rfl) (fun m _ => opSi m)
theorem opDe (n : Nat) : Opens enc Tryd.prog w 52 (fun a => (encDe a).cells) okDe n := by
  cases n with
  | zero => exact Opens.zero
  | succ n =>
    intro cs x h
    obtain ⟨kd, _, s0⟩ := open_at 0 (show fieldAt Tryd.prog 52 0 = some (3, 0) by kernel_rfl) h (opInt n)
    obtain ⟨nm, k1, s1⟩ := open_at 1 (show fieldAt Tryd.prog 52 1 = some (9, 1) by kernel_rfl) h (opStr n)
    obtain ⟨fm, k2, s2⟩ := open_at 2 (show fieldAt Tryd.prog 52 2 = some (46, 2) by kernel_rfl) h (opFms n)
    obtain ⟨fd, k3, s3⟩ := open_at 3 (show fieldAt Tryd.prog 52 3 = some (36, 3) by kernel_rfl) h (opPas n)
    obtain ⟨sg, k4, s4⟩ := open_at 4 (show fieldAt Tryd.prog 52 4 = some (39, 4) by kernel_rfl) h (opSis n)
    obtain ⟨rc, k5, s5⟩ := open_at 5 (show fieldAt Tryd.prog 52 5 = some (9, 5) by kernel_rfl) h (opStr n)
    obtain ⟨vs, k6, s6⟩ := open_at 6 (show fieldAt Tryd.prog 52 6 = some (48, 6) by kernel_rfl) h (opStrs n)
    obtain ⟨si, k7, s7⟩ := open_at 7 (show fieldAt Tryd.prog 52 7 = some (50, 7) by kernel_rfl) h (opSi n)
    obtain ⟨bd, k8, s8⟩ := open_at 8 (show fieldAt Tryd.prog 52 8 = some (28, 14) by kernel_rfl) h (opEx n)
    obtain ⟨ps, _, s9⟩ := open_at 9 (show fieldAt Tryd.prog 52 9 = some (3, 22) by kernel_rfl) h (opInt n)
    refine ⟨⟨kd, nm, fm, fd, sg, rc, vs, si, bd, ps⟩, ⟨k1, k2, k3, k4, k5, k6, k7, k8⟩, (open_len (by kernel_rfl) h).trans (by kernel_rfl), ?_⟩
    exact ((((((((s0.app s1 rfl).app s2 rfl).app s3 rfl).app s4 rfl).app s5 rfl).app s6 rfl).app s7 rfl).app s8 rfl).app s9 rfl
theorem opDes (n : Nat) : Opens enc Tryd.prog w 22 (fun l : List Dec => [slDe l]) (fun l => l.length ≤ 9223372036854775807 ∧ ∀ a ∈ l, okDe a) n :=
  opens_slb (e := 52) (k := 23) (f := encDe) (by kernel_rfl) (by kernel_rfl) (by decide) (fun a => rfl) (fun m _ => opDe m)
theorem opPr (n : Nat) : Opens enc Tryd.prog w 30 prC okPr n := by
  cases n with
  | zero => exact Opens.zero
  | succ n =>
    intro cs x h
    obtain ⟨ds, k0, s0⟩ := open_at 0 (show fieldAt Tryd.prog 30 0 = some (22, 0) by kernel_rfl) h (opDes n)
    obtain ⟨mn, k1, s1⟩ := open_at 1 (show fieldAt Tryd.prog 30 1 = some (28, 1) by kernel_rfl) h (opEx n)
    exact ⟨⟨ds, mn⟩, ⟨k0, k1⟩, (open_len (by kernel_rfl) h).trans (by kernel_rfl), s0.app s1 rfl⟩

set_option maxRecDepth 100000
variable {b0 : Nat} {v : Value} {d : DataW H} {ps : List MemPlace}
theorem argPr (hval : Value.okWide Tryd.prog w .any b0 30 v) (h : DataW.Trod enc Tryd.prog w 0 (fun _ => true) true 30 v d ps) : ∃ s, okPr s ∧ V (G0 w) w v (encPr s) := open_agg (by kernel_rfl) opPr hval h
theorem argStr (hval : Value.okWide Tryd.prog w .any b0 9 v) (h : DataW.Trod enc Tryd.prog w 0 (fun _ => true) true 9 v d ps) : ∃ s : Str, s.size ≤ 9223372036854775807 ∧ V (G0 w) w v (encS s) :=
  open_cell (not_agg_string (by kernel_rfl)) opStr hval h
def zPrg : Value := .agg #[.slice none 0 0, .int .i64 0, .string ByteArray.empty, .string ByteArray.empty, .slice none 0 0, .int .i64 0, .slice none 0 0, .slice none 0 0, .int .i64 0]
end Go.Proofs.T

