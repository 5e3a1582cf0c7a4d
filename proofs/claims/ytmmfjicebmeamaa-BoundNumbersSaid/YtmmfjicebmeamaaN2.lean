/- A part of the proof, under no conditions of its own: N2. -/
import Derived.Test.YtmmfjicebmeamaaN1
namespace Go.Proofs.T
open Go Go.Ab Go.RowKit

theorem pow_calls (a : Int) (n : Nat) (ha : inR a) (hn : n ≤ 1000000) (g d : Nat) : ACalls E 10 [dI a, dN n] [] g d (dI (powS a n)) [] := by
  refine acalls_of_awp (fn := Try.f10) (N := 14) Try.call10 Try.func10 rfl rfl (by simp) ?_
  simp only [go_sem]
  refine awp_seq_k (fun K1 hK1 => ?_)
  refine awp_plain 1 (by kernel_rfl) rfl (fun g0 hg0 => ?_)
  simp only [go_sem]
  refine hK1 _ ?_
  refine awp_seq_k (fun K2 hK2 => ?_)
  refine awp_plain 1 (by kernel_rfl) rfl (fun g1 hg1 => ?_)
  simp only [go_sem]
  refine hK2 _ ?_
  refine awp_seq_k (fun K3 hK3 => ?_)
  refine awp_seq_k (fun K4 hK4 => ?_)
  refine awp_plain 2 (by kernel_rfl) rfl (fun g2 hg2 => ?_)
  simp only [go_sem]
  refine hK4 _ ?_
  refine awp_block ?_
  refine awp_loop (fun m s => ∃ k, k ≤ n ∧ m = n - k ∧ Le { env := [(0, dI a), (6, dN n), (7, dN k), (5, dI (powS a k))], σ := [] } s) n ?_ ?_
  · refine ⟨0, Nat.zero_le _, rfl, le_of ?_⟩
    simp only [go_sem]
    exact ⟨rfl, rfl⟩
  · rintro m s ⟨k, hk, rfl, hle⟩
    refine awp_keep hle ?_
    clear hle
    refine awp_seq_k (fun K5 hK5 => ?_)
    by_cases hlt : k < n
    · refine awp_plain 1 (by kernel_rfl) rfl (fun g3 hg3 => ?_)
      simp only [go_sem, hlt]
      refine hK5 _ ?_
      refine awp_seq_k (fun K6 hK6 => ?_)
      refine awp_t rfl ?_
      refine awp_skip ?_
      refine hK6 _ ?_
      refine awp_seq_k (fun K7 hK7 => ?_)
      refine awp_block ?_
      refine awp_ops (by kernel_rfl) rfl (fun g4 hg4 ops4 KR4 hops4 hKR4 => ?_)
      refine aops_eval 2 hops4 ?_
      simp only [go_sem]
      refine aops_pure hops4 rfl rfl rfl (mul_calls _ _ (powS_in ha k) ha _ _) (CoL.refl _) ?_
      refine aops_last 1 hops4 ?_
      simp only [go_sem]
      refine hKR4 _ ?_
      refine hK7 _ ?_
      refine awp_plain 2 (by kernel_rfl) rfl (fun g5 hg5 => ?_)
      simp only [go_sem]
      try simp (disch := omega) only [wrapN]
      refine ⟨_, ?_, k + 1, hlt, rfl, le_of ?_⟩
      · omega
      simp only [go_sem]
      exact ⟨rfl, rfl⟩
    · have : k = n := by omega
      subst this
      refine awp_plain 1 (by kernel_rfl) rfl (fun g3 hg3 => ?_)
      simp only [go_sem, hlt]
      refine hK5 _ ?_
      refine awp_seq_k (fun K8 hK8 => ?_)
      refine awp_f rfl ?_
      refine awp_exit ?_
      refine hK3 _ ?_
      refine awp_seq_k (fun K9 hK9 => ?_)
      refine awp_plain 2 (by kernel_rfl) rfl (fun g6 hg6 => ?_)
      simp only [go_sem]
      refine hK9 _ ?_
      refine awp_ret ?_
      refine ends_ev rfl ?_
      simp only [go_sem]
      exact Co.refl _
theorem types_calls (x : Int) (a h : Nat) (hx : inR x) (ha : a ≤ 1000000) (hh : h ≤ 1000000) (g d : Nat) : ACalls E 12 [dI x, dN a, dN h] [] g d (dI (typS x a h)) [] := by
  refine acalls_of_awp (fn := Try.f12) (N := 19) Try.call12 Try.func12 rfl rfl (by simp) ?_
  simp only [go_sem]
  refine awp_seq_k (fun K1 hK1 => ?_)
  refine awp_plain 1 (by kernel_rfl) rfl (fun g0 hg0 => ?_)
  simp only [go_sem]
  refine hK1 _ ?_
  refine awp_seq_k (fun K2 hK2 => ?_)
  refine awp_plain 1 (by kernel_rfl) rfl (fun g1 hg1 => ?_)
  simp only [go_sem]
  refine hK2 _ ?_
  refine awp_seq_k (fun K3 hK3 => ?_)
  refine awp_seq_k (fun K4 hK4 => ?_)
  refine awp_plain 2 (by kernel_rfl) rfl (fun g2 hg2 => ?_)
  simp only [go_sem]
  refine hK4 _ ?_
  refine awp_block ?_
  refine awp_loop (fun m s => ∃ k, k ≤ h ∧ m = h - k ∧ Le { env := [(0, dI x), (1, dN a), (8, dN h), (9, dN k), (7, dI (typS x a k))], σ := [] } s) h ?_ ?_
  · refine ⟨0, Nat.zero_le _, rfl, le_of ?_⟩
    simp only [go_sem]
    exact ⟨rfl, rfl⟩
  · rintro m s ⟨k, hk, rfl, hle⟩
    refine awp_keep hle ?_
    clear hle
    refine awp_seq_k (fun K5 hK5 => ?_)
    by_cases hlt : k < h
    · have i1 := typS_in hx a k
      have i2 := addS_in i1 one_in
      refine awp_plain 1 (by kernel_rfl) rfl (fun g3 hg3 => ?_)
      simp only [go_sem, hlt]
      refine hK5 _ ?_
      refine awp_seq_k (fun K6 hK6 => ?_)
      refine awp_t rfl ?_
      refine awp_skip ?_
      refine hK6 _ ?_
      refine awp_seq_k (fun K7 hK7 => ?_)
      refine awp_block ?_
      refine awp_ops (by kernel_rfl) rfl (fun g4 hg4 ops4 KR4 hops4 hKR4 => ?_)
      refine aops_eval 2 hops4 ?_
      simp only [go_sem]
      refine aops_pure hops4 rfl rfl rfl (add_calls _ 1 i1 one_in _ _) (CoL.refl _) ?_
      refine aops_eval 1 hops4 ?_
      simp only [go_sem]
      refine aops_pure hops4 rfl rfl rfl (pow_calls _ a i2 ha _ _) (CoL.refl _) ?_
      refine aops_pure hops4 rfl rfl rfl (mul_calls _ _ hx (powS_in i2 a) _ _) (CoL.refl _) ?_
      refine aops_last 1 hops4 ?_
      simp only [go_sem]
      refine hKR4 _ ?_
      refine hK7 _ ?_
      refine awp_plain 2 (by kernel_rfl) rfl (fun g5 hg5 => ?_)
      simp only [go_sem]
      try simp (disch := omega) only [wrapN]
      refine ⟨_, ?_, k + 1, hlt, rfl, le_of ?_⟩
      · omega
      simp only [go_sem]
      exact ⟨rfl, rfl⟩
    · have : k = h := by omega
      subst this
      refine awp_plain 1 (by kernel_rfl) rfl (fun g3 hg3 => ?_)
      simp only [go_sem, hlt]
      refine hK5 _ ?_
      refine awp_seq_k (fun K8 hK8 => ?_)
      refine awp_f rfl ?_
      refine awp_exit ?_
      refine hK3 _ ?_
      refine awp_seq_k (fun K9 hK9 => ?_)
      refine awp_plain 2 (by kernel_rfl) rfl (fun g6 hg6 => ?_)
      simp only [go_sem]
      refine hK9 _ ?_
      refine awp_ret ?_
      refine ends_ev rfl ?_
      simp only [go_sem]
      exact Co.refl _
set_option maxRecDepth 100000 in
theorem refPow_calls (a : Int) (ha : inR a) : ∀ (n : Nat), n ≤ 1000000 → ∀ g d, ACalls E 11 [dI a, dN n] [] g d (dI (powS a n)) []
  | 0, _, g, d => by
    refine acalls_of_awp (fn := Try.f11) (N := 13) Try.call11 Try.func11 rfl rfl (by simp) ?_
    simp only [go_sem]
    refine awp_seq_k (fun K1 hK1 => ?_)
    refine awp_plain 1 (by kernel_rfl) rfl (fun g0 hg0 => ?_)
    simp only [go_sem]
    refine hK1 _ ?_
    refine awp_seq_k (fun K2 hK2 => ?_)
    refine awp_seq_k (fun K3 hK3 => ?_)
    refine awp_plain 2 (by kernel_rfl) rfl (fun g1 hg1 => ?_)
    simp only [go_sem, show (((0 : Nat) : Int) = 0) = True from eq_true rfl, decide_true]
    refine hK3 _ ?_
    refine awp_t rfl ?_
    refine awp_seq_k (fun K4 hK4 => ?_)
    refine awp_plain 1 (by kernel_rfl) rfl (fun g2 hg2 => ?_)
    simp only [go_sem]
    refine hK4 _ ?_
    refine awp_ret ?_
    refine ends_ev rfl ?_
    simp only [go_sem]
    exact Co.of_eq rfl
  | n + 1, hn, g, d => by
    have h0 : ¬ (((n + 1 : Nat) : Int) = 0) := by omega
    have h1 : ((n + 1 : Nat) : Int) - 1 = (n : Int) := by omega
    have hw : IntKind.i64.wrap (((n + 1 : Nat) : Int) - 1) = (n : Int) := by rw [h1]; exact wrapN _ (by omega) (by omega)
    refine acalls_of_awp (fn := Try.f11) (N := 13) Try.call11 Try.func11 rfl rfl (by simp) ?_
    simp only [go_sem]
    refine awp_seq_k (fun K1 hK1 => ?_)
    refine awp_plain 1 (by kernel_rfl) rfl (fun g0 hg0 => ?_)
    simp only [go_sem]
    refine hK1 _ ?_
    refine awp_seq_k (fun K2 hK2 => ?_)
    refine awp_seq_k (fun K3 hK3 => ?_)
    refine awp_plain 2 (by kernel_rfl) rfl (fun g1 hg1 => ?_)
    simp only [go_sem, h0, decide_false]
    refine hK3 _ ?_
    refine awp_f rfl ?_
    refine awp_skip ?_
    refine hK2 _ ?_
    refine awp_seq_k (fun K4 hK4 => ?_)
    refine awp_ops (by kernel_rfl) rfl (fun g3 hg3 ops3 KR3 hops3 hKR3 => ?_)
    refine aops_eval 3 hops3 ?_
    simp only [go_sem, hw]
    try simp (disch := omega) only [wrapN, wrapB, Int.tdiv_eq_ediv_of_nonneg, Int.tmod_eq_emod_of_nonneg]
    refine aops_pure hops3 rfl rfl rfl (refPow_calls a ha n (by omega) _ _) (CoL.refl _) ?_
    refine aops_eval 1 hops3 ?_
    simp only [go_sem]
    refine aops_pure hops3 rfl rfl rfl (refMul_calls _ _ (powS_in ha n) ha _ _) (CoL.refl _) ?_
    refine aops_last 1 hops3 ?_
    simp only [go_sem]
    refine hKR3 _ ?_
    refine hK4 _ ?_
    refine awp_ret ?_
    refine ends_ev rfl ?_
    simp only [go_sem]
    exact Co.of_eq rfl
set_option maxRecDepth 100000 in
theorem refTypes_calls (x : Int) (a : Nat) (hx : inR x) (ha : a ≤ 1000000) : ∀ (h : Nat), h ≤ 1000000 → ∀ g d, ACalls E 13 [dI x, dN a, dN h] [] g d (dI (typS x a h)) []
  | 0, _, g, d => by
    refine acalls_of_awp (fn := Try.f13) (N := 19) Try.call13 Try.func13 rfl rfl (by simp) ?_
    simp only [go_sem]
    refine awp_seq_k (fun K1 hK1 => ?_)
    refine awp_plain 1 (by kernel_rfl) rfl (fun g0 hg0 => ?_)
    simp only [go_sem]
    refine hK1 _ ?_
    refine awp_seq_k (fun K2 hK2 => ?_)
    refine awp_seq_k (fun K3 hK3 => ?_)
    refine awp_plain 2 (by kernel_rfl) rfl (fun g1 hg1 => ?_)
    simp only [go_sem, show (((0 : Nat) : Int) = 0) = True from eq_true rfl, decide_true]
    refine hK3 _ ?_
    refine awp_t rfl ?_
    refine awp_seq_k (fun K4 hK4 => ?_)
    refine awp_plain 1 (by kernel_rfl) rfl (fun g2 hg2 => ?_)
    simp only [go_sem]
    refine hK4 _ ?_
    refine awp_ret ?_
    refine ends_ev rfl ?_
    simp only [go_sem]
    exact Co.of_eq rfl
  | n + 1, hn, g, d => by
    have h0 : ¬ (((n + 1 : Nat) : Int) = 0) := by omega
    have h1 : ((n + 1 : Nat) : Int) - 1 = (n : Int) := by omega
    have hw : IntKind.i64.wrap (((n + 1 : Nat) : Int) - 1) = (n : Int) := by rw [h1]; exact wrapN _ (by omega) (by omega)
    have i1 := typS_in hx a n
    have i2 := addS_in i1 one_in
    refine acalls_of_awp (fn := Try.f13) (N := 19) Try.call13 Try.func13 rfl rfl (by simp) ?_
    simp only [go_sem]
    refine awp_seq_k (fun K1 hK1 => ?_)
    refine awp_plain 1 (by kernel_rfl) rfl (fun g0 hg0 => ?_)
    simp only [go_sem]
    refine hK1 _ ?_
    refine awp_seq_k (fun K2 hK2 => ?_)
    refine awp_seq_k (fun K3 hK3 => ?_)
    refine awp_plain 2 (by kernel_rfl) rfl (fun g1 hg1 => ?_)
    simp only [go_sem, h0, decide_false]
    refine hK3 _ ?_
    refine awp_f rfl ?_
    refine awp_skip ?_
    refine hK2 _ ?_
    refine awp_seq_k (fun K4 hK4 => ?_)
    refine awp_ops (by kernel_rfl) rfl (fun g3 hg3 ops3 KR3 hops3 hKR3 => ?_)
    refine aops_eval 5 hops3 ?_
    simp only [go_sem, hw]
    try simp (disch := omega) only [wrapN, wrapB, Int.tdiv_eq_ediv_of_nonneg, Int.tmod_eq_emod_of_nonneg]
    refine aops_pure hops3 rfl rfl rfl (refTypes_calls x a hx ha n (by omega) _ _) (CoL.refl _) ?_
    refine aops_pure hops3 rfl rfl rfl (refAdd_calls _ 1 i1 one_in _ _) (CoL.refl _) ?_
    refine aops_eval 1 hops3 ?_
    simp only [go_sem]
    refine aops_pure hops3 rfl rfl rfl (refPow_calls _ i2 a ha _ _) (CoL.refl _) ?_
    refine aops_pure hops3 rfl rfl rfl (refMul_calls _ _ hx (powS_in i2 a) _ _) (CoL.refl _) ?_
    refine aops_last 1 hops3 ?_
    simp only [go_sem]
    refine hKR3 _ ?_
    refine hK4 _ ?_
    refine awp_ret ?_
    refine ends_ev rfl ?_
    simp only [go_sem]
    exact Co.of_eq rfl
end Go.Proofs.T

