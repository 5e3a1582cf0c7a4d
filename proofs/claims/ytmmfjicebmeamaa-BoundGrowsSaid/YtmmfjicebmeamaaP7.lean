/- A part of the proof, under no conditions of its own: P7. -/
import Derived.Test.YtmmfjicebmeamaaP6
namespace Go.Proofs.T
open Go Go.Ab Go.RowKit

/-! ## Sorting nothing -/

theorem len_0 (g d : Nat) : ACalls E 36 [.val (.int .u64 0)] [] g d (dI 0) [] := by
  refine acalls_of_awp (fn := Try.f36) (N := 8) Try.call36 Try.func36 rfl rfl (by simp) ?_
  simp only [go_sem]
  refine awp_seq_k (fun K1 hK1 => ?_)
  refine awp_plain 1 (by kernel_rfl) rfl (fun g0 hg0 => ?_)
  simp only [go_sem]
  refine hK1 _ ?_
  refine awp_seq_k (fun K2 hK2 => ?_)
  refine awp_f rfl ?_
  refine awp_skip ?_
  refine hK2 _ ?_
  refine awp_seq_k (fun K3 hK3 => ?_)
  refine awp_ops (by kernel_rfl) rfl (fun g2 hg2 ops2 KR2 hops2 hKR2 => ?_)
  refine aops_eval 1 hops2 ?_
  simp only [go_sem]
  refine aops_pure hops2 rfl rfl rfl (len64_0 _ _) (CoL.refl _) ?_
  refine aops_last 1 hops2 ?_
  simp only [go_sem]
  refine hKR2 _ ?_
  refine hK3 _ ?_
  refine awp_ret ?_
  refine ends_ev rfl ?_
  simp only [go_sem]
  exact Co.refl _
set_option maxRecDepth 100000 in
theorem insertion_none (cmp : D) (g d : Nat) : ACalls E 45 [nilS, dI 0, dI 0, cmp] [] g d (.tup []) [] := by
  have a01 : (0 : Int) + 1 = 1 := rfl
  have w1 : IntKind.i64.wrap 1 = 1 := by decide
  have l10 : ((1 : Int) < 0) = False := eq_false (by decide)
  refine acalls_of_awp (fn := Try.f45) (N := 53) Try.call45 Try.func45 rfl rfl (by simp) ?_
  simp only [go_sem]
  refine awp_seq_k (fun K1 hK1 => ?_)
  refine awp_plain 3 (by kernel_rfl) rfl (fun g0 hg0 => ?_)
  simp only [go_sem, a01, w1]
  try simp (disch := omega) only [wrapN, wrapB, Int.tdiv_eq_ediv_of_nonneg, Int.tmod_eq_emod_of_nonneg]
  refine hK1 _ ?_
  refine awp_block ?_
  refine awp_loop (fun m s => m = 0 ∧ Le { env := [(2, dI 0), (8, dI 1)], σ := [] } s) 0 ?_ ?_
  · refine ⟨rfl, le_of ?_⟩
    simp only [go_sem]
    all_goals first | exact rfl | exact ⟨rfl, rfl⟩ | trivial
  · rintro m s ⟨rfl, hle⟩
    refine awp_keep hle ?_
    clear hle
    refine awp_seq_k (fun K2 hK2 => ?_)
    refine awp_seq_k (fun K3 hK3 => ?_)
    refine awp_plain 3 (by kernel_rfl) rfl (fun g1 hg1 => ?_)
    simp only [go_sem, l10, decide_false]
    refine hK3 _ ?_
    refine awp_f rfl ?_
    refine awp_exit ?_
    refine ends_ev rfl ?_
    simp only [go_sem]
    exact Co.refl _
set_option maxRecDepth 100000 in
theorem pdq_none (x cmp : D) (g d : Nat) : ACalls E 35 [nilS, dI 0, dI 0, x, cmp] [] g d (.tup []) [] := by
  have s00 : (0 : Int) - 0 = 0 := rfl
  have w0' : IntKind.i64.wrap 0 = 0 := by decide
  have l12 : ((0 : Int) ≤ 12) = True := eq_true (by decide)
  refine acalls_of_awp (fn := Try.f35) (N := 148) Try.call35 Try.func35 rfl rfl (by simp) ?_
  simp only [go_sem]
  refine awp_seq_k (fun K1 hK1 => ?_)
  refine awp_plain 1 (by kernel_rfl) rfl (fun g0 hg0 => ?_)
  simp only [go_sem]
  refine hK1 _ ?_
  refine awp_seq_k (fun K2 hK2 => ?_)
  refine awp_plain 1 (by kernel_rfl) rfl (fun g1 hg1 => ?_)
  simp only [go_sem]
  refine hK2 _ ?_
  refine awp_block ?_
  refine awp_loop (fun m s => m = 0 ∧ Le { env := [(0, nilS), (1, dI 0), (2, dI 0), (4, cmp)], σ := [] } s) 0 ?_ ?_
  · refine ⟨rfl, le_of ?_⟩
    simp only [go_sem]
    all_goals first | exact rfl | exact ⟨rfl, rfl⟩ | trivial
  · rintro m s ⟨rfl, hle⟩
    refine awp_keep hle ?_
    clear hle
    refine awp_block ?_
    refine awp_seq_k (fun K3 hK3 => ?_)
    refine awp_plain 4 (by kernel_rfl) rfl (fun g2 hg2 => ?_)
    simp only [go_sem, s00, w0']
    try simp (disch := omega) only [wrapN, wrapB, Int.tdiv_eq_ediv_of_nonneg, Int.tmod_eq_emod_of_nonneg]
    refine hK3 _ ?_
    refine awp_seq_k (fun K4 hK4 => ?_)
    refine awp_seq_k (fun K5 hK5 => ?_)
    refine awp_plain 2 (by kernel_rfl) rfl (fun g3 hg3 => ?_)
    simp only [go_sem, l12, decide_true]
    refine hK5 _ ?_
    refine awp_t rfl ?_
    refine awp_seq_k (fun K6 hK6 => ?_)
    refine awp_ops (by kernel_rfl) rfl (fun g4 hg4 ops4 KR4 hops4 hKR4 => ?_)
    refine aops_eval 4 hops4 ?_
    simp only [go_sem]
    refine aops_pure hops4 rfl rfl rfl (insertion_none cmp _ _) (CoL.refl _) ?_
    refine aops_last 0 hops4 ?_
    simp only [go_sem]
    refine hKR4 _ ?_
    refine hK6 _ ?_
    refine awp_ret ?_
    refine ends_ev rfl ?_
    simp only [go_sem]
    exact Co.refl _
theorem sort_none (cmp : D) (g d : Nat) : ACalls E 24 [nilS, cmp] [] g d (.tup []) [] := by
  have wu : IntKind.u64.wrap 0 = 0 := by decide
  have c0 : ((0 : Nat) : Int) = 0 := rfl
  refine acalls_of_awp (fn := Try.f24) (N := 14) Try.call24 Try.func24 rfl rfl (by simp) ?_
  simp only [go_sem]
  refine awp_seq_k (fun K1 hK1 => ?_)
  refine awp_plain 3 (by kernel_rfl) rfl (fun g0 hg0 => ?_)
  simp only [go_sem, c0]
  refine hK1 _ ?_
  refine awp_ops (by kernel_rfl) rfl (fun g1 hg1 ops1 KR1 hops1 hKR1 => ?_)
  refine aops_eval 4 hops1 ?_
  simp only [go_sem, wu]
  try simp (disch := omega) only [wrapN, wrapB, Int.tdiv_eq_ediv_of_nonneg, Int.tmod_eq_emod_of_nonneg]
  refine aops_pure hops1 rfl rfl rfl (len_0 _ _) (CoL.refl _) ?_
  refine aops_eval 1 hops1 ?_
  simp only [go_sem]
  refine aops_pure hops1 rfl rfl rfl (pdq_none _ cmp _ _) (CoL.refl _) ?_
  refine aops_last 0 hops1 ?_
  simp only [go_sem]
  refine hKR1 _ ?_
  refine ends_ev rfl ?_
  simp only [go_sem]
  exact Co.refl _
theorem compact_none (g d : Nat) : ACalls E 26 [nilS] [] g d nilS [] := by
  refine acalls_of_awp (fn := Try.f26) (N := 61) Try.call26 Try.func26 rfl rfl (by simp) ?_
  simp only [go_sem]
  refine awp_seq_k (fun K1 hK1 => ?_)
  refine awp_plain 1 (by kernel_rfl) rfl (fun g0 hg0 => ?_)
  simp only [go_sem]
  refine hK1 _ ?_
  refine awp_seq_k (fun K2 hK2 => ?_)
  refine awp_seq_k (fun K3 hK3 => ?_)
  refine awp_plain 3 (by kernel_rfl) rfl (fun g1 hg1 => ?_)
  simp only [go_sem, show (((0 : Nat) : Int) < 2) = True from eq_true (by decide), decide_true]
  refine hK3 _ ?_
  refine awp_t rfl ?_
  refine awp_seq_k (fun K4 hK4 => ?_)
  refine awp_plain 2 (by kernel_rfl) rfl (fun g2 hg2 => ?_)
  simp only [go_sem]
  refine hK4 _ ?_
  refine awp_ret ?_
  refine ends_ev rfl ?_
  simp only [go_sem]
  exact Co.refl _
end Go.Proofs.T

