/- A part of the proof, under no conditions of its own: ZAO. -/
import Derived.Test.YtkddeobmfhchfaaDoorZAG
import Derived.Test.YtkddeobmfhchfaaDoorZAK
import Derived.Test.YtkddeobmfhchfaaDoorZAN
import Derived.Test.YtkddeobmfhchfaaDoorRows
import Derived.JoinedOf
import Derived.MakeChecks
import Derived.LaidSub
import Derived.Deep.DeepLaidRun
namespace Go.Proofs.T
open Go Go.Ab Go.RowKit

/-! # What the arguments denote -/

variable {H : Type} {enc : TypeId × Value → H} {w : World}



theorem opStr (n : Nat) : Opens enc Tryd.prog w 9 (fun s : Str => [.val (.string s)]) (fun s => s.size ≤ 9223372036854775807) n := opens_str (by kernel_rfl) n
theorem opInt (n : Nat) : Opens enc Tryd.prog w 3 (fun i : Int => [.val (.int .i64 i)]) (fun i => -9223372036854775808 ≤ i ∧ i ≤ 9223372036854775807) n := opens_int (by kernel_rfl) n

theorem encTy_cellsF : (fun a => (encTy a).cells) = tyC := funext fun a => by rw [encTy_agg]; rfl
theorem opTy : ∀ n : Nat, Opens enc Tryd.prog w 25 tyC okTy n := by
  intro n
  induction n using Nat.strongRecOn with
  | _ n ih =>
    cases n with
    | zero => exact Opens.zero
    | succ n =>
      intro cs x h
      obtain ⟨nm, k1, s1⟩ := open_at 0 (show fieldAt Tryd.prog 25 0 = some (9, 0) by kernel_rfl) h (opStr n)
      obtain ⟨ars, k2, s2⟩ := open_at 1 (show fieldAt Tryd.prog 25 1 = some (23, 1) by kernel_rfl) h
        (opens_slb (e := 25) (k := 3) (f := encTy) (by kernel_rfl) (by kernel_rfl) (by decide) (fun a => by rw [encTy_agg]; rfl)
          (fun m hm => by rw [encTy_cellsF]; exact ih m (by omega)))
      obtain ⟨ps, _, s3⟩ := open_at 2 (show fieldAt Tryd.prog 25 2 = some (3, 2) by kernel_rfl) h (opInt n)
      refine ⟨.mk nm ars ps, (okTy_iff _).2 ⟨k1, k2.1, k2.2⟩, (open_len (by kernel_rfl) h).trans (by kernel_rfl), ?_⟩
      exact (s1.app s2 rfl).app s3 rfl

theorem opTys (n : Nat) : Opens enc Tryd.prog w 23 (fun l : List Ty => [slTy l]) (fun l => l.length ≤ 9223372036854775807 ∧ ∀ a ∈ l, okTy a) n :=
  opens_slb (e := 25) (k := 3) (f := encTy) (by kernel_rfl) (by kernel_rfl) (by decide) (fun a => by rw [encTy_agg]; rfl) (fun m _ => by rw [encTy_cellsF]; exact opTy m)
theorem opStrs (n : Nat) : Opens enc Tryd.prog w 48 (fun l : List Str => [slS l]) (fun l => l.length ≤ 9223372036854775807 ∧ ∀ a ∈ l, a.size ≤ 9223372036854775807) n :=
  opens_slb (e := 9) (k := 1) (f := encS) (by kernel_rfl) (by kernel_rfl) (by decide) (fun a => rfl) (fun m _ => opStr m)

theorem opFm (n : Nat) : Opens enc Tryd.prog w 60 (fun f => (encFm f).cells) okFm n := by
  cases n with
  | zero => exact Opens.zero
  | succ n =>
    intro cs x h
    obtain ⟨nm, k1, s1⟩ := open_at 0 (show fieldAt Tryd.prog 60 0 = some (9, 0) by kernel_rfl) h (opStr n)
    obtain ⟨t, k2, s2⟩ := open_at 1 (show fieldAt Tryd.prog 60 1 = some (25, 1) by kernel_rfl) h (opTy n)
    obtain ⟨ps, _, s3⟩ := open_at 2 (show fieldAt Tryd.prog 60 2 = some (3, 4) by kernel_rfl) h (opInt n)
    exact ⟨⟨nm, t, ps⟩, ⟨k1, k2⟩, (open_len (by kernel_rfl) h).trans (by kernel_rfl), (s1.app s2 rfl).app s3 rfl⟩
theorem opPa (n : Nat) : Opens enc Tryd.prog w 62 (fun f => (encPa f).cells) okPa n := by
  cases n with
  | zero => exact Opens.zero
  | succ n =>
    intro cs x h
    obtain ⟨nm, k1, s1⟩ := open_at 0 (show fieldAt Tryd.prog 62 0 = some (9, 0) by kernel_rfl) h (opStr n)
    obtain ⟨t, k2, s2⟩ := open_at 1 (show fieldAt Tryd.prog 62 1 = some (25, 1) by kernel_rfl) h (opTy n)
    obtain ⟨ps, _, s3⟩ := open_at 2 (show fieldAt Tryd.prog 62 2 = some (3, 4) by kernel_rfl) h (opInt n)
    exact ⟨⟨nm, t, ps⟩, ⟨k1, k2⟩, (open_len (by kernel_rfl) h).trans (by kernel_rfl), (s1.app s2 rfl).app s3 rfl⟩
theorem opFms (n : Nat) : Opens enc Tryd.prog w 46 (fun l : List Formal => [slFm l]) (fun l => l.length ≤ 9223372036854775807 ∧ ∀ a ∈ l, okFm a) n :=
  opens_slb (e := 60) (k := 5) (f := encFm) (by kernel_rfl) (by kernel_rfl) (by decide) (fun a => rfl) (fun m _ => opFm m)
theorem opPas (n : Nat) : Opens enc Tryd.prog w 36 (fun l : List Param => [slPa l]) (fun l => l.length ≤ 9223372036854775807 ∧ ∀ a ∈ l, okPa a) n :=
  opens_slb (e := 62) (k := 5) (f := encPa) (by kernel_rfl) (by kernel_rfl) (by decide) (fun a => rfl) (fun m _ => opPa m)

theorem opSi (n : Nat) : Opens enc Tryd.prog w 50 siC okSi n := by
  cases n with
  | zero => exact Opens.zero
  | succ n =>
    intro cs x h
    obtain ⟨nm, k1, s1⟩ := open_at 0 (show fieldAt Tryd.prog 50 0 = some (9, 0) by kernel_rfl) h (opStr n)
    obtain ⟨fs, k2, s2⟩ := open_at 1 (show fieldAt Tryd.prog 50 1 = some (46, 1) by kernel_rfl) h (opFms n)
    obtain ⟨ars, k3, s3⟩ := open_at 2 (show fieldAt Tryd.prog 50 2 = some (36, 2) by kernel_rfl) h (opPas n)
    obtain ⟨t, k4, s4⟩ := open_at 3 (show fieldAt Tryd.prog 50 3 = some (25, 3) by kernel_rfl) h (opTy n)
    obtain ⟨ps, _, s5⟩ := open_at 4 (show fieldAt Tryd.prog 50 4 = some (3, 6) by kernel_rfl) h (opInt n)
    exact ⟨⟨nm, fs, ars, t, ps⟩, ⟨k1, k2, k3, k4⟩, (open_len (by kernel_rfl) h).trans (by kernel_rfl), (((s1.app s2 rfl).app s3 rfl).app s4 rfl).app s5 rfl⟩

/-! ## Whole arguments -/

set_option maxRecDepth 100000
variable {b0 : Nat} {v : Value} {d : DataW H} {ps : List MemPlace}

theorem argTy (hval : Value.okWide Tryd.prog w .any b0 25 v) (h : DataW.Trod enc Tryd.prog w 0 (fun _ => true) true 25 v d ps) : ∃ s, okTy s ∧ V (G0 w) w v (encTy s) := by
  obtain ⟨t, h1, h2⟩ := open_agg (by kernel_rfl) opTy hval h
  exact ⟨t, h1, by rwa [encTy_agg]⟩
end Go.Proofs.T


namespace Go.Proofs.T
open Go Go.Ab Go.RowKit

/-! # What the arguments denote: programs -/

variable {H : Type} {enc : TypeId × Value → H} {w : World}

theorem encEx_cellsF : (fun a => (encEx a).cells) = exC := funext fun a => by rw [encEx_agg]; rfl
theorem opEx : ∀ n : Nat, Opens enc Tryd.prog w 28 exC okEx n := by
  intro n
  induction n using Nat.strongRecOn with
  | _ n ih =>
    cases n with
    | zero => exact Opens.zero
    | succ n =>
      intro cs x h
      obtain ⟨kd, _, s0⟩ := open_at 0 (show fieldAt Tryd.prog 28 0 = some (3, 0) by kernel_rfl) h (opInt n)
      obtain ⟨nm, k1, s1⟩ := open_at 1 (show fieldAt Tryd.prog 28 1 = some (9, 1) by kernel_rfl) h (opStr n)
      obtain ⟨ty, k2, s2⟩ := open_at 2 (show fieldAt Tryd.prog 28 2 = some (25, 2) by kernel_rfl) h (opTy n)
      obtain ⟨ars, k3, s3⟩ := open_at 3 (show fieldAt Tryd.prog 28 3 = some (23, 5) by kernel_rfl) h (opTys n)
      obtain ⟨kids, k4, s4⟩ := open_at 4 (show fieldAt Tryd.prog 28 4 = some (26, 6) by kernel_rfl) h
        (opens_slb (e := 28) (k := 8) (f := encEx) (by kernel_rfl) (by kernel_rfl) (by decide) (fun a => by rw [encEx_agg]; rfl)
          (fun m hm => by rw [encEx_cellsF]; exact ih m (by omega)))
      obtain ⟨ps, _, s5⟩ := open_at 5 (show fieldAt Tryd.prog 28 5 = some (3, 7) by kernel_rfl) h (opInt n)
      refine ⟨.mk kd nm ty ars kids ps, (okEx_iff _).2 ⟨k1, k2, k3, k4.1, k4.2⟩, (open_len (by kernel_rfl) h).trans (by kernel_rfl), ?_⟩
      exact ((((s0.app s1 rfl).app s2 rfl).app s3 rfl).app s4 rfl).app s5 rfl

theorem opSis (n : Nat) : Opens enc Tryd.prog w 39 (fun l : List Sig => [slSi l]) (fun l => l.length ≤ 9223372036854775807 ∧ ∀ a ∈ l, okSi a) n :=
  opens_slb (e := 50) (k := 7) (f := encSi) (by kernel_rfl) (by kernel_rfl) (by decide) (fun a => rfl) (fun m _ => opSi m)
theorem opDe (n : Nat) : Opens enc Tryd.prog w 52 (fun a => (encDe a).cells) okDe n := by
  cases n with
  | zero => exact Opens.zero
  | succ n =>
    intro cs x h
    obtain ⟨kd, _, s0⟩ := open_at 0 (show fieldAt Tryd.prog 52 0 = some (3, 0) by kernel_rfl) h (opInt n)
    obtain ⟨nm, k1, s1⟩ := open_at 1 (show fieldAt Tryd.prog 52 1 = some (9, 1) by kernel_rfl) h (opStr n)
    obtain ⟨fm, k2, s2⟩ := open_at 2 (show fieldAt Tryd.prog 52 2 = some (46, 2) by kernel_rfl) h (opFms n)
    obtain ⟨fd, k3, s3⟩ := open_at 3 (show fieldAt Tryd.prog 52 3 = some (36, 3) by kernel_rfl) h (opPas n)
    obtain ⟨sg, k4, s4⟩ := open_at 4 (show fieldAt Tryd.prog 52 4 = some (39, 4) by kernel_rfl) h (opSis n)
    obtain ⟨rc, k5, s5⟩ := open_at 5 (show fieldAt Tryd.prog 52 5 = some (9, 5) by kernel_rfl) h (opStr n)
    obtain ⟨vs, k6, s6⟩ := open_at 6 (show fieldAt Tryd.prog 52 6 = some (48, 6) by kernel_rfl) h (opStrs n)
    obtain ⟨si, k7, s7⟩ := open_at 7 (show fieldAt Tryd.prog 52 7 = some (50, 7) by kernel_rfl) h (opSi n)
    obtain ⟨bd, k8, s8⟩ := open_at 8 (show fieldAt Tryd.prog 52 8 = some (28, 14) by kernel_rfl) h (opEx n)
    obtain ⟨ps, _, s9⟩ := open_at 9 (show fieldAt Tryd.prog 52 9 = some (3, 22) by kernel_rfl) h (opInt n)
    refine ⟨⟨kd, nm, fm, fd, sg, rc, vs, si, bd, ps⟩, ⟨k1, k2, k3, k4, k5, k6, k7, k8⟩, (open_len (by kernel_rfl) h).trans (by kernel_rfl), ?_⟩
    exact ((((((((s0.app s1 rfl).app s2 rfl).app s3 rfl).app s4 rfl).app s5 rfl).app s6 rfl).app s7 rfl).app s8 rfl).app s9 rfl
theorem opDes (n : Nat) : Opens enc Tryd.prog w 22 (fun l : List Dec => [slDe l]) (fun l => l.length ≤ 9223372036854775807 ∧ ∀ a ∈ l, okDe a) n :=
  opens_slb (e := 52) (k := 23) (f := encDe) (by kernel_rfl) (by kernel_rfl) (by decide) (fun a => rfl) (fun m _ => opDe m)
theorem opPr (n : Nat) : Opens enc Tryd.prog w 30 prC okPr n := by
  cases n with
  | zero => exact Opens.zero
  | succ n =>
    intro cs x h
    obtain ⟨ds, k0, s0⟩ := open_at 0 (show fieldAt Tryd.prog 30 0 = some (22, 0) by kernel_rfl) h (opDes n)
    obtain ⟨mn, k1, s1⟩ := open_at 1 (show fieldAt Tryd.prog 30 1 = some (28, 1) by kernel_rfl) h (opEx n)
    exact ⟨⟨ds, mn⟩, ⟨k0, k1⟩, (open_len (by kernel_rfl) h).trans (by kernel_rfl), s0.app s1 rfl⟩

set_option maxRecDepth 100000
variable {b0 : Nat} {v : Value} {d : DataW H} {ps : List MemPlace}
theorem argPr (hval : Value.okWide Tryd.prog w .any b0 30 v) (h : DataW.Trod enc Tryd.prog w 0 (fun _ => true) true 30 v d ps) : ∃ s, okPr s ∧ V (G0 w) w v (encPr s) := open_agg (by kernel_rfl) opPr hval h
def zPrg : Value := .agg #[.slice none 0 0, .int .i64 0, .string ByteArray.empty, .string ByteArray.empty, .slice none 0 0, .int .i64 0, .slice none 0 0, .slice none 0 0, .int .i64 0]
end Go.Proofs.T


namespace Go.Proofs.YtkddeobmfhchfaaDoor
open Go Go.Ab Go.RowKit Go.ChangeShapes Go.WideShapes Go.Proofs.T

theorem own : ownKnob Tryd.prog.godebug = none := by kernel_rfl
theorem laidOut : laidOutB Tryd.prog = true := by kernel_rfl
theorem isBool : Tryd.prog.underlying 4 = some .bool := by kernel_rfl

def laid : List (String × DataW Unit) := [("math/bits.deBruijn32tab", Rows.laid_math_bits_deBruijn32tab), ("math/bits.deBruijn64tab", Rows.laid_math_bits_deBruijn64tab), ("internal/strconv.uint64pow10", Rows.laid_internal_strconv_uint64pow10)]
theorem laid_met (os : Os) (args : Array Value) : laidMetH Tryd.prog laid ((World.doorLaid Tryd.prog 400 os).forCall (fun _ _ => 0) ⟨#[], args, []⟩).memory :=
  laidMetH_of_parts3 (fuel := 8) (laidMet_of_run3 8 (by kernel_rfl) (by kernel_rfl) (by kernel_rfl)) (by kernel_rfl) (by kernel_rfl)
theorem laid_tab {W : World} (h : laidMetH Tryd.prog laid W) : E.A W := by
  rw [MakeChecks.laidMetH_plain _ _ _ (by kernel_rfl)] at h
  have h2 : laidMet Tryd.prog [("internal/strconv.uint64pow10", Lib.tabData .u64 Lib.pow10Tab)] W := h.filter (fun x => x.1 == "internal/strconv.uint64pow10")
  exact Lib.tabIs_of_head (g := 0) (t := 130) (e := 123) (n := 20) (by kernel_rfl) (by kernel_rfl) (by kernel_rfl) (by kernel_rfl) (by kernel_rfl) (by kernel_rfl) h2

set_option maxRecDepth 100000 in
theorem tableKeeps_lifted (os : Os) (started : os.Started) (H : Type) (enc : TypeId × Value → H) :
    ReturnsInHanded {} Tryd.checked os 4 .any (fun w args => (Rows.tableKeepsSpec.pre enc Tryd.prog Tryd.f4 [] false w args ∧ laidMetH Tryd.prog laid w) ∧ sizedMet enc Tryd.prog Tryd.f4 (OpenSpec.ofChange Rows.tableKeepsSpec) false w args)
      (Rows.tableKeepsSpec.post enc Tryd.prog Tryd.f4 false true false false) :=
  lifted (C := Tryd.checked) (E := E) rfl (fun _ h => laid_tab h) own started (by kernel_rfl) Tryd.func4
    (ChangeSpec.witness_shaped (enc := enc) (C := Tryd.checked) (os := os) (X := fun w _ => laidMetH Tryd.prog laid w) false (World.doorLaid Tryd.prog 400 os) #[zPrg, zType] 8 rfl (World.shaped_of_RefB (by kernel_rfl) (by kernel_rfl)) (by kernel_rfl) (by kernel_rfl) (by kernel_rfl) (laid_met os _))
    rfl (by kernel_rfl) isBool laidOut (by kernel_rfl) (fun W base args ds p hval hA => by
      rw [show Tryd.f4.params.toList = [30, 25] from rfl] at hA
      rw [show Tryd.f4.params = #[30, 25] from rfl] at hval
      obtain ⟨v0, v1, d0, d1, p0, p1, rfl, rfl, rfl, h0, h1⟩ := trodAll_two hA
      obtain ⟨a0, k0, q0⟩ := argPr (hval 0 30 v0 rfl rfl) h0
      obtain ⟨a1, k1, q1⟩ := argTy (hval 1 25 v1 rfl rfl) h1
      exact ⟨⟨_, .two q0 q1, fun g d => tableKeeps_calls a0 a1 k0 k1 g d⟩, rfl⟩)

theorem tableKeeps_holds : Rows.TableKeepsSaid :=
  OpenClaim.holds_of_wide 4 Tryd.f4 rfl rfl rfl rfl rfl rfl rfl ⟨rfl, rfl, rfl, rfl, rfl⟩ rfl rfl rfl rfl rfl (by kernel_rfl) Tryd.func4 (by kernel_rfl)
    (of_decide_eq_true (by kernel_rfl)) (by unfold Func.isWrapper; rw [if_neg (of_decide_eq_false (by kernel_rfl))]; exact ⟨rfl, rfl⟩)
    (fun os started H enc _ => tableKeeps_lifted os started H enc)

end Go.Proofs.YtkddeobmfhchfaaDoor

