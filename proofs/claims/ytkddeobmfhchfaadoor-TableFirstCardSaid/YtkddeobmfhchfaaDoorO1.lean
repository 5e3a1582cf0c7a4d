/- A part of the proof, under no conditions of its own: O1. -/
import Derived.Test.YtkddeobmfhchfaaDoorF10
import Derived.Test.YtkddeobmfhchfaaDoorXE
namespace Go.Proofs.T
open Go Go.Ab Go.RowKit

/-! # What the arguments denote -/

variable {H : Type} {enc : TypeId × Value → H} {w : World}



theorem opStr (n : Nat) : Opens enc Tryd.prog w 9 (fun s : Str => [.val (.string s)]) (fun s => s.size ≤ 9223372036854775807) n := opens_str (by kernel_rfl) n
theorem opInt (n : Nat) : Opens enc Tryd.prog w 3 (fun i : Int => [.val (.int .i64 i)]) (fun i => -9223372036854775808 ≤ i ∧ i ≤ 9223372036854775807) n := opens_int (by kernel_rfl) n

theorem encTy_cellsF : (fun a => (encTy a).cells) = tyC := funext fun a => by rw [encTy_agg]; rfl
theorem opTy : ∀ n : Nat, Opens enc Tryd.prog w 25 tyC okTy n := by
  intro n
  induction n using Nat.strongRecOn with
  | _ n ih =>
    cases n with
    | zero => exact Opens.zero
    | succ n =>
      intro cs x h
      obtain ⟨nm, k1, s1⟩ := open_at 0 (show fieldAt Tryd.prog 25 0 = some (9, 0) by kernel_rfl) h (opStr n)
      obtain ⟨ars, k2, s2⟩ := open_at 1 (show fieldAt Tryd.prog 25 1 = some (23, 1) by kernel_rfl) h
        (opens_slb (e := 25) (k := 3) (f := encTy) (by kernel_rfl) (by kernel_rfl) (by decide) (fun a => by rw [encTy_agg]; rfl)
          (fun m hm => by rw [encTy_cellsF]; exact ih m (by omega)))
      obtain ⟨ps, _, s3⟩ := open_at 2 (show fieldAt Tryd.prog 25 2 = some (3, 2) by kernel_rfl) h (opInt n)
      refine ⟨.mk nm ars ps, (okTy_iff _).2 ⟨k1, k2.1, k2.2⟩, (open_len (by kernel_rfl) h).trans (by kernel_rfl), ?_⟩
      exact (s1.app s2 rfl).app s3 rfl

theorem opTys (n : Nat) : Opens enc Tryd.prog w 23 (fun l : List Ty => [slTy l]) (fun l => l.length ≤ 9223372036854775807 ∧ ∀ a ∈ l, okTy a) n :=
  opens_slb (e := 25) (k := 3) (f := encTy) (by kernel_rfl) (by kernel_rfl) (by decide) (fun a => by rw [encTy_agg]; rfl) (fun m _ => by rw [encTy_cellsF]; exact opTy m)
theorem opStrs (n : Nat) : Opens enc Tryd.prog w 48 (fun l : List Str => [slS l]) (fun l => l.length ≤ 9223372036854775807 ∧ ∀ a ∈ l, a.size ≤ 9223372036854775807) n :=
  opens_slb (e := 9) (k := 1) (f := encS) (by kernel_rfl) (by kernel_rfl) (by decide) (fun a => rfl) (fun m _ => opStr m)

theorem opFm (n : Nat) : Opens enc Tryd.prog w 60 (fun f => (encFm f).cells) okFm n := by
  cases n with
  | zero => exact Opens.zero
  | succ n =>
    intro cs x h
    obtain ⟨nm, k1, s1⟩ := open_at 0 (show fieldAt Tryd.prog 60 0 = some (9, 0) by kernel_rfl) h (opStr n)
    obtain ⟨t, k2, s2⟩ := open_at 1 (show fieldAt Tryd.prog 60 1 = some (25, 1) by kernel_rfl) h (opTy n)
    obtain ⟨ps, _, s3⟩ := open_at 2 (show fieldAt Tryd.prog 60 2 = some (3, 4) by kernel_rfl) h (opInt n)
    exact ⟨⟨nm, t, ps⟩, ⟨k1, k2⟩, (open_len (by kernel_rfl) h).trans (by kernel_rfl), (s1.app s2 rfl).app s3 rfl⟩
theorem opPa (n : Nat) : Opens enc Tryd.prog w 62 (fun f => (encPa f).cells) okPa n := by
  cases n with
  | zero => exact Opens.zero
  | succ n =>
    intro cs x h
    obtain ⟨nm, k1, s1⟩ := open_at 0 (show fieldAt Tryd.prog 62 0 = some (9, 0) by kernel_rfl) h (opStr n)
    obtain ⟨t, k2, s2⟩ := open_at 1 (show fieldAt Tryd.prog 62 1 = some (25, 1) by kernel_rfl) h (opTy n)
    obtain ⟨ps, _, s3⟩ := open_at 2 (show fieldAt Tryd.prog 62 2 = some (3, 4) by kernel_rfl) h (opInt n)
    exact ⟨⟨nm, t, ps⟩, ⟨k1, k2⟩, (open_len (by kernel_rfl) h).trans (by kernel_rfl), (s1.app s2 rfl).app s3 rfl⟩
theorem opFms (n : Nat) : Opens enc Tryd.prog w 46 (fun l : List Formal => [slFm l]) (fun l => l.length ≤ 9223372036854775807 ∧ ∀ a ∈ l, okFm a) n :=
  opens_slb (e := 60) (k := 5) (f := encFm) (by kernel_rfl) (by kernel_rfl) (by decide) (fun a => rfl) (fun m _ => opFm m)
theorem opPas (n : Nat) : Opens enc Tryd.prog w 36 (fun l : List Param => [slPa l]) (fun l => l.length ≤ 9223372036854775807 ∧ ∀ a ∈ l, okPa a) n :=
  opens_slb (e := 62) (k := 5) (f := encPa) (by kernel_rfl) (by kernel_rfl) (by decide) (fun a => rfl) (fun m _ => opPa m)

theorem opSi (n : Nat) : Opens enc Tryd.prog w 50 siC okSi n := by
  cases n with
  | zero => exact Opens.zero
  | succ n =>
    intro cs x h
    obtain ⟨nm, k1, s1⟩ := open_at 0 (show fieldAt Tryd.prog 50 0 = some (9, 0) by kernel_rfl) h (opStr n)
    obtain ⟨fs, k2, s2⟩ := open_at 1 (show fieldAt Tryd.prog 50 1 = some (46, 1) by kernel_rfl) h (opFms n)
    obtain ⟨ars, k3, s3⟩ := open_at 2 (show fieldAt Tryd.prog 50 2 = some (36, 2) by kernel_rfl) h (opPas n)
    obtain ⟨t, k4, s4⟩ := open_at 3 (show fieldAt Tryd.prog 50 3 = some (25, 3) by kernel_rfl) h (opTy n)
    obtain ⟨ps, _, s5⟩ := open_at 4 (show fieldAt Tryd.prog 50 4 = some (3, 6) by kernel_rfl) h (opInt n)
    exact ⟨⟨nm, fs, ars, t, ps⟩, ⟨k1, k2, k3, k4⟩, (open_len (by kernel_rfl) h).trans (by kernel_rfl), (((s1.app s2 rfl).app s3 rfl).app s4 rfl).app s5 rfl⟩

/-! ## Whole arguments -/

set_option maxRecDepth 100000
variable {b0 : Nat} {v : Value} {d : DataW H} {ps : List MemPlace}

theorem argSi (hval : Value.okWide Tryd.prog w .any b0 50 v) (h : DataW.Trod enc Tryd.prog w 0 (fun _ => true) true 50 v d ps) : ∃ s, okSi s ∧ V (G0 w) w v (encSi s) := open_agg (by kernel_rfl) opSi hval h
theorem argTy (hval : Value.okWide Tryd.prog w .any b0 25 v) (h : DataW.Trod enc Tryd.prog w 0 (fun _ => true) true 25 v d ps) : ∃ s, okTy s ∧ V (G0 w) w v (encTy s) := by
  obtain ⟨t, h1, h2⟩ := open_agg (by kernel_rfl) opTy hval h
  exact ⟨t, h1, by rwa [encTy_agg]⟩
theorem argTys (hval : Value.okWide Tryd.prog w .any b0 23 v) (h : DataW.Trod enc Tryd.prog w 0 (fun _ => true) true 23 v d ps) : ∃ l, (l.length ≤ 9223372036854775807 ∧ ∀ a ∈ l, okTy a) ∧ V (G0 w) w v (slTy l) :=
  open_cell (not_agg_slice (e := 25) (by kernel_rfl)) opTys hval h
theorem argFms (hval : Value.okWide Tryd.prog w .any b0 46 v) (h : DataW.Trod enc Tryd.prog w 0 (fun _ => true) true 46 v d ps) : ∃ l, (l.length ≤ 9223372036854775807 ∧ ∀ a ∈ l, okFm a) ∧ V (G0 w) w v (slFm l) :=
  open_cell (not_agg_slice (e := 60) (by kernel_rfl)) opFms hval h
theorem argStrs (hval : Value.okWide Tryd.prog w .any b0 48 v) (h : DataW.Trod enc Tryd.prog w 0 (fun _ => true) true 48 v d ps) : ∃ l, (l.length ≤ 9223372036854775807 ∧ ∀ a ∈ l, a.size ≤ 9223372036854775807) ∧ V (G0 w) w v (slS l) :=
  open_cell (not_agg_slice (e := 9) (by kernel_rfl)) opStrs hval h
end Go.Proofs.T

