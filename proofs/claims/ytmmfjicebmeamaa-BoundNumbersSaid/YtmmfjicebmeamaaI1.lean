/- A part of the proof, under no conditions of its own: I1. -/
import Derived.Test.YtmmfjicebmeamaaA5
namespace Go.Proofs.T
open Go Go.Ab Go.RowKit

/-! ## The iterator over an expression and its kids -/

mutual
def nodesEx : Ex → List Ex
  | .mk k n t a c p => .mk k n t a c p :: nodesExs c
def nodesExs : List Ex → List Ex
  | [] => []
  | t :: r => nodesEx t ++ nodesExs r
end
theorem nodesEx_eq (e : Ex) : nodesEx e = e :: nodesExs e.kids := by cases e; rfl
theorem nodesExs_app : ∀ a b : List Ex, nodesExs (a ++ b) = nodesExs a ++ nodesExs b
  | [], b => rfl
  | x :: a, b => by simp [nodesExs, nodesExs_app a b]
theorem nodesExs_take (c : List Ex) (i : Nat) (h : i < c.length) : nodesExs (c.take (i + 1)) = nodesExs (c.take i) ++ nodesEx c[i] := by
  rw [List.take_add_one, List.getElem?_eq_getElem h, nodesExs_app]
  simp [nodesExs]
theorem nodesExs_get (c : List Ex) (i : Nat) (h : i < c.length) (j : Nat) (x : Ex) (hx : (nodesEx c[i])[j]? = some x) : (nodesExs c)[(nodesExs (c.take i)).length + j]? = some x := by
  have hj := (List.getElem?_eq_some_iff.1 hx).1
  have e : nodesExs c = (nodesExs (c.take i) ++ nodesEx c[i]) ++ nodesExs (c.drop (i + 1)) := by rw [← nodesExs_take c i h, ← nodesExs_app, List.take_append_drop]
  rw [e, List.getElem?_append_left (by simp; omega), List.getElem?_append_right (by omega)]
  simpa using hx

theorem yld_cells (n : Nm) : (D.yld n).cells = [.yld n] := rfl
theorem yld_one (n : Nm) : (D.yld n).one = true := rfl
attribute [go_sem] yld_cells yld_one
/-- The closure that visits a kid. -/
abbrev stopD (q : Nat) : D := .func (.func 59) [] [.ptr ⟨q, 3, 0⟩ 0]
/-- Beside the box that holds yield. -/
def bx (n : Nm) (q : Nat) (P : Sto → Prop) (τ : Sto) : Prop := ∃ τ0, τ = (⟨q, 3, 0⟩, .box 87 [.yld n]) :: τ0 ∧ P τ0 ∧ get τ0 ⟨q, 3, 0⟩ = none

set_option maxRecDepth 100000 in
theorem indexK_calls (c : List Ex) (hc : c.length ≤ 9223372036854775807) (q : Nat) (I : Nat → Sto → Prop) (h : ∀ i (hi : i < c.length), IC E 59 [encEx c[i], .ptr ⟨q, 3, 0⟩ 0] (I i) (I (i + 1)) (dB false)) :
    IC E 67 [slEx c, stopD q] (I 0) (I c.length) (dI (-1)) := by
  refine icalls_of_awp (fn := Try.f67) (N := 19) Try.call67 Try.func67 rfl rfl (by simp) (fun g d τ hτ => ?_)
  simp only [go_sem]
  refine awp_seq_k (fun K1 hK1 => ?_)
  refine awp_plain 1 (by kernel_rfl) rfl (fun g0 hg0 => ?_)
  simp only [go_sem]
  refine hK1 _ ?_
  refine awp_seq_k (fun K2 hK2 => ?_)
  refine awp_seq_k (fun K3 hK3 => ?_)
  refine awp_plain 3 (by kernel_rfl) rfl (fun g1 hg1 => ?_)
  simp only [go_sem]
  refine hK3 _ ?_
  refine awp_block ?_
  refine awp_loop (fun m s => ∃ k τ', k ≤ c.length ∧ m = c.length - k ∧ I k τ' ∧ LeT { env := [(0, slEx c), (1, stopD q), (7, dN c.length), (8, dN k)], σ := τ' } s) c.length ?_ ?_
  · refine ⟨0, τ, Nat.zero_le _, rfl, hτ, let_of rfl ?_⟩
    simp only [go_sem]
    trivial
  · rintro m s ⟨k, τ', hk, rfl, hI, hle⟩
    refine awp_keepT hle ?_
    clear hle
    by_cases hlt : k < c.length
    · refine awp_seq_k (fun K4 hK4 => ?_)
      refine awp_plain 1 (by kernel_rfl) rfl (fun g2 hg2 => ?_)
      simp only [go_sem, hlt]
      refine hK4 _ ?_
      refine awp_seq_k (fun K5 hK5 => ?_)
      refine awp_t rfl ?_
      refine awp_skip ?_
      refine hK5 _ ?_
      refine awp_seq_k (fun K6 hK6 => ?_)
      refine awp_block ?_
      refine awp_seq_k (fun K7 hK7 => ?_)
      refine awp_plain 2 (by kernel_rfl) rfl (fun g3 hg3 => ?_)
      simp only [go_sem]
      refine hK7 _ ?_
      refine awp_seq_k (fun K8 hK8 => ?_)
      refine awp_ops (by kernel_rfl) rfl (fun g4 hg4 ops4 KR4 hops4 hKR4 => ?_)
      refine aops_eval 5 hops4 ?_
      simp only [go_sem, getM hlt]
      refine aops_icall (own := []) (τ := τ') hops4 rfl rfl rfl (h k hlt) (CoL.refl _) rfl (fun p hp => nomatch hp) hI (fun τ2 hI2 _ => ?_)
      refine aops_last 0 hops4 ?_
      simp only [go_sem]
      refine hKR4 _ ?_
      refine hK8 _ ?_
      refine awp_f rfl ?_
      refine awp_skip ?_
      refine hK6 _ ?_
      refine awp_plain 2 (by kernel_rfl) rfl (fun g6 hg6 => ?_)
      simp only [go_sem]
      try simp (disch := omega) only [wrapN]
      refine ⟨_, ?_, k + 1, τ2, hlt, rfl, hI2, let_of rfl ?_⟩
      · omega
      simp only [go_sem]
      omega
    · have : k = c.length := by omega
      subst this
      refine awp_seq_k (fun K9 hK9 => ?_)
      refine awp_plain 1 (by kernel_rfl) rfl (fun g2 hg2 => ?_)
      simp only [go_sem, hlt]
      refine hK9 _ ?_
      refine awp_seq_k (fun K10 hK10 => ?_)
      refine awp_f rfl ?_
      refine awp_exit ?_
      refine hK2 _ ?_
      refine awp_seq_k (fun K11 hK11 => ?_)
      refine awp_plain 1 (by kernel_rfl) rfl (fun g7 hg7 => ?_)
      simp only [go_sem]
      refine hK11 _ ?_
      refine awp_ret ?_
      refine ends_tail (own := []) rfl rfl (by simp [go_sem]) (hI) ?_
      simp only [go_sem]
      exact Co.refl _
theorem containsK_calls (c : List Ex) (hc : c.length ≤ 9223372036854775807) (q : Nat) (I : Nat → Sto → Prop) (h : ∀ i (hi : i < c.length), IC E 59 [encEx c[i], .ptr ⟨q, 3, 0⟩ 0] (I i) (I (i + 1)) (dB false)) :
    IC E 60 [slEx c, stopD q] (I 0) (I c.length) (dB false) := by
  refine icalls_of_awp (fn := Try.f60) (N := 9) Try.call60 Try.func60 rfl rfl (by simp) (fun g d τ hτ => ?_)
  simp only [go_sem]
  refine awp_seq_k (fun K1 hK1 => ?_)
  refine awp_plain 1 (by kernel_rfl) rfl (fun g0 hg0 => ?_)
  simp only [go_sem]
  refine hK1 _ ?_
  refine awp_seq_k (fun K2 hK2 => ?_)
  refine awp_ops (by kernel_rfl) rfl (fun g1 hg1 ops1 KR1 hops1 hKR1 => ?_)
  refine aops_eval 2 hops1 ?_
  simp only [go_sem]
  refine aops_icall (own := []) (τ := τ) hops1 rfl rfl rfl (indexK_calls c hc q I h) (CoL.refl _) rfl (fun p hp => nomatch hp) hτ (fun τ2 hI2 _ => ?_)
  refine aops_last 2 hops1 ?_
  simp only [go_sem]
  refine hKR1 _ ?_
  refine hK2 _ ?_
  refine awp_ret ?_
  refine ends_tail (own := []) rfl rfl (by simp [go_sem]) (hI2) ?_
  simp only [go_sem]
  exact Co.of_eq rfl
theorem stop_calls (e : Ex) (n : Nm) (q : Nat) (Pre Post : Sto → Prop) (h : IC E 44 [encEx e, .yld n] Pre Post (dB true)) :
    IC E 59 [encEx e, .ptr ⟨q, 3, 0⟩ 0] (bx n q Pre) (bx n q Post) (dB false) := by
  refine icalls_of_awp (fn := Try.f59) (N := 8) Try.call59 Try.func59 rfl rfl (by simp) (fun g d τ hτ => ?_)
  simp only [go_sem]
  refine awp_seq_k (fun K1 hK1 => ?_)
  obtain ⟨τ0, rfl, hP, hq⟩ := hτ
  refine awp_plain 2 (by kernel_rfl) rfl (fun g0 hg0 => ?_)
  simp only [go_sem]
  refine hK1 _ ?_
  refine awp_seq_k (fun K2 hK2 => ?_)
  refine awp_ops (by kernel_rfl) rfl (fun g1 hg1 ops1 KR1 hops1 hKR1 => ?_)
  refine aops_eval 2 hops1 ?_
  simp only [go_sem]
  have hf : get τ0 ⟨g0, 2, 0⟩ = none := by simpa [go_sem] using hg0 2 0
  refine aops_icall (own := [_, _]) (τ := τ0) hops1 rfl rfl rfl h (CoL.refl _) rfl (fun p hp => ?_) hP (fun τ2 hP2 hX => ?_)
  · rcases List.mem_cons.1 hp with rfl | hp
    · exact hf
    · rw [List.mem_singleton.1 hp]; exact hq
  refine aops_last 2 hops1 ?_
  simp only [go_sem]
  refine hKR1 _ ?_
  refine hK2 _ ?_
  refine awp_ret ?_
  have h2 := hX _ List.mem_cons_self
  have h3 := hX _ (List.mem_cons_of_mem _ List.mem_cons_self)
  refine ends_tail (own := [_]) rfl rfl (fun p hp => ?_) ⟨τ2, rfl, hP2, h3⟩ ?_
  · rw [List.mem_singleton.1 hp]
    simpa [go_sem] using h2
  simp only [go_sem]
  exact Co.of_eq rfl
end Go.Proofs.T

