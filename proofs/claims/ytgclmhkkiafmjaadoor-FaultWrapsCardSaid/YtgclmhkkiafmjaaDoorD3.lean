/- A part of the proof, under no conditions of its own: D3. -/
import Derived.Test.YtgclmhkkiafmjaaDoorD2
import Derived.Test.YtgclmhkkiafmjaaDoorXH
namespace Go.Proofs.T
open Go Go.Ab Go.RowKit

/-! ## Texts -/

theorem m59 (v : Value) (w : World) : (method (Tryd.prog.types.size + Made.depth) 59 v "Error").run Tryd.prog w = .ok (68, v) w := by kernel_rfl
theorem m50 (v : Value) (w : World) : (method (Tryd.prog.types.size + Made.depth) 50 v "Error").run Tryd.prog w = .ok (65, v) w := by kernel_rfl
theorem m30 (v : Value) (w : World) : (method (Tryd.prog.types.size + Made.depth) 30 v "Error").run Tryd.prog w = .ok (64, v) w := by kernel_rfl

def sErr : Str := ⟨#[101, 114, 114, 111, 114, 32]⟩
def sSep : Str := ⟨#[58, 32]⟩
def textE (c : Int) : Str := sErr ++ decI c
def textL (c : Int) : List Str → Str
  | [] => textE c
  | p :: r => p ++ sSep ++ textL c r
theorem decI_size {c : Int} (h : okI c) : (decI c).size ≤ 21 := by
  obtain ⟨h1, h2⟩ := h
  by_cases h0 : c < 0
  · obtain ⟨u, rfl⟩ : ∃ u : Nat, c = -(u : Int) := ⟨c.natAbs, by omega⟩
    rw [decI_neg u (by omega), ByteArray.size_append]
    have := decS_size u (by omega)
    have : (⟨#[45]⟩ : ByteArray).size = 1 := rfl
    omega
  · obtain ⟨u, rfl⟩ : ∃ u : Nat, c = (u : Int) := ⟨c.toNat, by omega⟩
    rw [decI_nat]
    have := decS_size u (by omega)
    omega
theorem textE_size {c : Int} (h : okI c) : (textE c).size ≤ 27 := by
  have := decI_size h
  unfold textE
  rw [ByteArray.size_append]
  have : sErr.size = 6 := rfl
  omega
theorem textL_size {c : Int} (h : okI c) : ∀ l : List Str, (∀ s ∈ l, s.size ≤ 50) → (textL c l).size ≤ 27 + 52 * l.length
  | [], _ => textE_size h
  | p :: r, hl => by
    have ih := textL_size h r fun s hs => hl s (List.mem_cons_of_mem _ hs)
    have hp := hl p List.mem_cons_self
    have : sSep.size = 2 := rfl
    simp only [textL, ByteArray.size_append, List.length_cons]
    omega
theorem codeErr_calls (c : Int) (h : okI c) (g d : Nat) : ACalls E 64 [dI c] [] g d (encS (textE c)) [] := by
  have hz : 6 + (decI c).size ≤ 9223372036854775807 := by
    have := decI_size h
    omega
  refine acalls_of_awp (fn := Tryd.f64) (N := 6) Tryd.call64 Tryd.func64 rfl rfl (by simp) ?_
  simp only [go_sem]
  refine awp_seq_k (fun K1 hK1 => ?_)
  refine awp_plain 1 (by kernel_rfl) rfl (fun g0 hg0 => ?_)
  simp only [go_sem]
  refine hK1 _ ?_
  refine awp_seq_k (fun K2 hK2 => ?_)
  refine awp_ops (by kernel_rfl) rfl (fun g1 hg1 ops1 KR1 hops1 hKR1 => ?_)
  refine aops_eval 1 hops1 ?_
  simp only [go_sem]
  refine aops_pure hops1 rfl rfl rfl (itoa2_calls c h _ _) (CoL.refl _) ?_
  refine aops_last 2 hops1 ?_
  simp only [go_sem, hz]
  try simp (disch := omega) only [wrapN, wrapB, Int.tdiv_eq_ediv_of_nonneg, Int.tmod_eq_emod_of_nonneg]
  refine hKR1 _ ?_
  refine hK2 _ ?_
  refine awp_ret ?_
  refine ends_ev rfl ?_
  simp only [go_sem]
  exact Co.refl _
theorem faultErr_calls (c a : Int) (h : okI c) (g d : Nat) : ACalls E 65 [.agg [dI c, dI a]] [] g d (encS (textE c)) [] := by
  refine acalls_of_awp (fn := Tryd.f65) (N := 6) Tryd.call65 Tryd.func65 rfl rfl (by simp) ?_
  simp only [go_sem]
  refine awp_seq_k (fun K1 hK1 => ?_)
  refine awp_plain 2 (by kernel_rfl) rfl (fun g0 hg0 => ?_)
  simp only [go_sem]
  refine hK1 _ ?_
  refine awp_seq_k (fun K2 hK2 => ?_)
  refine awp_ops (by kernel_rfl) rfl (fun g1 hg1 ops1 KR1 hops1 hKR1 => ?_)
  refine aops_eval 2 hops1 ?_
  simp only [go_sem]
  refine aops_pure hops1 rfl rfl rfl (codeErr_calls c h _ _) (CoL.refl _) ?_
  refine aops_last 1 hops1 ?_
  simp only [go_sem]
  refine hKR1 _ ?_
  refine hK2 _ ?_
  refine awp_ret ?_
  refine ends_ev rfl ?_
  simp only [go_sem]
  exact Co.refl _

/-- What the method Error says of an error. -/
def Says (x : D) (s : Str) : Prop := ∃ t y f, x = .iface t y ∧ Recv Tryd.prog t "Error" y f y ∧ ∀ g d, ACalls E f [y] [] g d (encS s) []
theorem innerErr_calls (p : Str) (x : D) (s : Str) (hp : p.size ≤ 50) (hs : s.size ≤ 1000000) (hx : Says x s) (g d : Nat) : ACalls E 68 [.agg [encS p, x]] [] g d (encS (p ++ sSep ++ s)) [] := by
  obtain ⟨t, y, f, rfl, hr, hc⟩ := hx
  have hz : p.size + 2 ≤ 9223372036854775807 := by omega
  have hz2 : p.size + 2 + s.size ≤ 9223372036854775807 := by omega
  refine acalls_of_awp (fn := Tryd.f68) (N := 10) Tryd.call68 Tryd.func68 rfl rfl (by simp) ?_
  simp only [go_sem]
  refine awp_seq_k (fun K1 hK1 => ?_)
  refine awp_plain 2 (by kernel_rfl) rfl (fun g0 hg0 => ?_)
  simp only [go_sem]
  refine hK1 _ ?_
  refine awp_seq_k (fun K2 hK2 => ?_)
  refine awp_any 7 (by kernel_rfl) (by kernel_rfl) rfl (fun g1 hg1 ops1 KR1 hops1 hKR1 => ?_)
  refine qrun_eval 5 hops1 ?_
  simp only [go_sem, hz]
  try simp (disch := omega) only [wrapN, wrapB, Int.tdiv_eq_ediv_of_nonneg, Int.tmod_eq_emod_of_nonneg]
  refine qrun_inv0 hops1 rfl rfl (leads_method rfl rfl rfl (hr)) (hc _ _) (CoL.refl _) rfl ?_
  refine qrun_last 1 hops1 ?_
  simp only [go_sem, hz2]
  try simp (disch := omega) only [wrapN, wrapB, Int.tdiv_eq_ediv_of_nonneg, Int.tmod_eq_emod_of_nonneg]
  refine aops_last 1 hops1 ?_
  simp only [go_sem]
  refine hKR1 _ ?_
  refine hK2 _ ?_
  refine awp_ret ?_
  refine ends_ev rfl ?_
  simp only [go_sem]
  exact Co.refl _
theorem says_chain (f : Bool) (c a : Int) (h : okI c) : ∀ l : List Str, (∀ s ∈ l, s.size ≤ 50) → l.length ≤ 1000 → Says (chain f c a l) (textL c l)
  | [], _, _ => by
    cases f with
    | false => exact ⟨_, _, _, rfl, Recv.same m30 _, codeErr_calls c h⟩
    | true => exact ⟨_, _, _, rfl, Recv.same m50 _, faultErr_calls c a h⟩
  | p :: r, hl, hn => by
    have hr := fun s hs => hl s (List.mem_cons_of_mem _ hs)
    have ih := says_chain f c a h r hr (by simp at hn; omega)
    have hz := textL_size h r hr
    exact ⟨_, _, _, rfl, Recv.same m59 _, innerErr_calls p _ _ (hl p List.mem_cons_self) (by simp at hn; omega) ih⟩
end Go.Proofs.T

