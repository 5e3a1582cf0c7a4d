/- A part of the proof, under no conditions of its own: P9. -/
import Derived.Test.YtmmfjicebmeamaaP8
namespace Go.Proofs.T
open Go Go.Ab Go.RowKit

theorem m12 : mulS 1 2 = 2 := by decide
theorem in1 : inR 1 := by unfold inR; omega
theorem in2 : inR 2 := by unfold inR; omega
theorem in0 : inR 0 := by unfold inR; omega
theorem height_p0 (g d : Nat) : ACalls E 16 [.agg p0c, .agg (nC 1 (.fmap ksS []))] [] g d (dI 2) [] := by
  have c0 : ((0 : Nat) : Int) + 2 = 2 := rfl
  have w2 : IntKind.i64.wrap 2 = 2 := by decide
  refine acalls_of_awp (fn := Try.f16) (N := 12) Try.call16 Try.func16 rfl rfl (by simp) ?_
  simp only [go_sem]
  refine awp_seq_k (fun K1 hK1 => ?_)
  refine awp_plain 3 (by kernel_rfl) rfl (fun g0 hg0 => ?_)
  simp only [go_sem]
  refine hK1 _ ?_
  refine awp_seq_k (fun K2 hK2 => ?_)
  refine awp_any 7 (by kernel_rfl) (by kernel_rfl) rfl (fun g1 hg1 ops1 KR1 hops1 hKR1 => ?_)
  refine qrun_eval 3 hops1 ?_
  simp only [go_sem]
  refine qrun_pure hops1 rfl rfl rfl (nodes_p0 _ _) (CoL.refl _) rfl ?_
  refine qrun_eval 2 hops1 ?_
  simp only [go_sem, c0, w2]
  try simp (disch := omega) only [wrapN, wrapB, Int.tdiv_eq_ediv_of_nonneg, Int.tmod_eq_emod_of_nonneg]
  refine qrun_pure hops1 rfl rfl rfl (mul_calls 1 2 in1 in2 _ _) (CoL.refl _) rfl ?_
  refine qrun_last 0 hops1 ?_
  simp only [go_sem, m12]
  refine aops_last 1 hops1 ?_
  simp only [go_sem]
  refine hKR1 _ ?_
  refine hK2 _ ?_
  refine awp_ret ?_
  refine ends_ev rfl ?_
  simp only [go_sem]
  exact Co.refl _
theorem Height_p0 (g d : Nat) : ACalls E 14 [.agg p0c] [] g d (dI 2) [] := by
  refine acalls_of_awp (fn := Try.f14) (N := 7) Try.call14 Try.func14 rfl rfl (by simp) ?_
  simp only [go_sem]
  refine awp_seq_k (fun K1 hK1 => ?_)
  refine awp_plain 2 (by kernel_rfl) rfl (fun g0 hg0 => ?_)
  simp only [go_sem]
  refine hK1 _ ?_
  refine awp_seq_k (fun K2 hK2 => ?_)
  refine awp_any 4 (by kernel_rfl) (by kernel_rfl) rfl (fun g1 hg1 ops1 KR1 hops1 hKR1 => ?_)
  refine qrun_eval 2 hops1 ?_
  simp only [go_sem]
  refine qrun_pure hops1 rfl rfl rfl (count_p0 _ _) (CoL.refl _) rfl ?_
  refine qrun_pure hops1 rfl rfl rfl (height_p0 _ _) (CoL.refl _) rfl ?_
  refine qrun_last 0 hops1 ?_
  simp only [go_sem]
  refine aops_last 1 hops1 ?_
  simp only [go_sem]
  refine hKR1 _ ?_
  refine hK2 _ ?_
  refine awp_ret ?_
  refine ends_ev rfl ?_
  simp only [go_sem]
  exact Co.refl _
theorem t102 : typS 1 0 2 = 1 := by decide
theorem Of_p0 (g d : Nat) : ACalls E 15 [.agg p0c] [] g d (dI 1) [] := by
  have e1 : mulS 1 0 = 0 := by decide
  have e2 : addS 1 1 = 2 := by decide
  have e3 : powS 2 0 = 1 := by decide
  have e4 : mulS 0 1 = 0 := by decide
  have e5 : addS 1 0 = 1 := by decide
  have c0 : ((0 : Nat) : Int) = 0 := rfl
  refine acalls_of_awp (fn := Try.f15) (N := 28) Try.call15 Try.func15 rfl rfl (by simp) ?_
  simp only [go_sem]
  refine awp_seq_k (fun K1 hK1 => ?_)
  refine awp_plain 2 (by kernel_rfl) rfl (fun g0 hg0 => ?_)
  simp only [go_sem]
  refine hK1 _ ?_
  refine awp_seq_k (fun K2 hK2 => ?_)
  refine awp_ops (by kernel_rfl) rfl (fun g1 hg1 ops1 KR1 hops1 hKR1 => ?_)
  refine aops_eval 1 hops1 ?_
  simp only [go_sem]
  refine aops_pure hops1 rfl rfl rfl (count_p0 _ _) (CoL.refl _) ?_
  refine aops_last 2 hops1 ?_
  simp only [go_sem]
  refine hKR1 _ ?_
  refine hK2 _ ?_
  refine awp_seq_k (fun K3 hK3 => ?_)
  refine awp_any 8 (by kernel_rfl) (by kernel_rfl) rfl (fun g2 hg2 ops2 KR2 hops2 hKR2 => ?_)
  refine qrun_eval 6 hops2 ?_
  simp only [go_sem]
  refine qrun_pure hops2 rfl rfl rfl (height_p0 _ _) (CoL.refl _) rfl ?_
  refine qrun_pure hops2 rfl rfl rfl (types_calls 1 0 2 in1 (by decide) (by decide) _ _) (CoL.refl _) rfl ?_
  refine qrun_last 0 hops2 ?_
  simp only [go_sem, t102]
  refine aops_last 1 hops2 ?_
  simp only [go_sem]
  refine hKR2 _ ?_
  refine hK3 _ ?_
  refine awp_seq_k (fun K4 hK4 => ?_)
  refine awp_any 13 (by kernel_rfl) (by kernel_rfl) rfl (fun g3 hg3 ops3 KR3 hops3 hKR3 => ?_)
  refine qrun_eval 5 hops3 ?_
  simp only [go_sem, c0, List.length_nil]
  refine qrun_pure hops3 rfl rfl rfl (mul_calls 1 0 in1 in0 _ _) (CoL.refl _) rfl ?_
  refine qrun_eval 1 hops3 ?_
  simp only [go_sem, e1]
  refine qrun_pure hops3 rfl rfl rfl (add_calls 1 1 in1 in1 _ _) (CoL.refl _) rfl ?_
  refine qrun_eval 2 hops3 ?_
  simp only [go_sem, e2]
  refine qrun_pure hops3 rfl rfl rfl (pow_calls 2 0 in2 (by decide) _ _) (CoL.refl _) rfl ?_
  refine qrun_pure hops3 rfl rfl rfl (mul_calls 0 1 in0 in1 _ _) (CoL.refl _) rfl ?_
  refine qrun_pure hops3 rfl rfl rfl (add_calls 1 0 in1 in0 _ _) (CoL.refl _) rfl ?_
  refine qrun_last 0 hops3 ?_
  simp only [go_sem, e5]
  refine aops_last 1 hops3 ?_
  simp only [go_sem]
  refine hKR3 _ ?_
  refine hK4 _ ?_
  refine awp_ret ?_
  refine ends_ev rfl ?_
  simp only [go_sem]
  exact Co.refl _
set_option maxRecDepth 100000 in
theorem awake22_calls (g d : Nat) : ACalls E 5 [] [] g d (dB true) [] := by
  have e1 : typS 2 1 2 = 6 := by decide
  have e2 : addS 2305843009213693952 2305843009213693952 = 4611686018427387903 := by decide
  have e3 : mulS 3 4 = 12 := by decide
  have e4 : mulS 1099511627776 1099511627776 = 4611686018427387903 := by decide
  have e5 : powS 2 10 = 1024 := by decide
  have i1 : inR 2305843009213693952 := by unfold inR; omega
  have i2 : inR 3 := by unfold inR; omega
  have i3 : inR 4 := by unfold inR; omega
  have i4 : inR 1099511627776 := by unfold inR; omega
  refine acalls_of_awp (fn := Try.f5) (N := 35) Try.call5 Try.func5 rfl rfl (by simp) ?_
  simp only [go_sem]
  refine awp_seq_k (fun K1 hK1 => ?_)
  refine awp_plain 1 (by kernel_rfl) rfl (fun g0 hg0 => ?_)
  simp only [go_sem]
  refine hK1 _ ?_
  refine awp_seq_k (fun K2 hK2 => ?_)
  refine awp_plain 7 (by kernel_rfl) rfl (fun g1 hg1 => ?_)
  simp only [go_sem]
  refine hK2 _ ?_
  refine awp_seq_k (fun K3 hK3 => ?_)
  refine awp_ops (by kernel_rfl) rfl (fun g2 hg2 ops2 KR2 hops2 hKR2 => ?_)
  refine aops_eval 0 hops2 ?_
  simp only [go_sem]
  refine aops_pure hops2 rfl rfl rfl (types_calls 2 1 2 in2 (by decide) (by decide) _ _) (CoL.refl _) ?_
  refine aops_eval 2 hops2 ?_
  simp only [go_sem, e1, decide_true]
  refine aops_pure hops2 rfl rfl rfl (add_calls _ _ i1 i1 _ _) (CoL.refl _) ?_
  refine aops_eval 3 hops2 ?_
  simp only [go_sem, e2, decide_true]
  refine aops_pure hops2 rfl rfl rfl (mul_calls 3 4 i2 i3 _ _) (CoL.refl _) ?_
  refine aops_eval 3 hops2 ?_
  simp only [go_sem, e3, decide_true]
  refine aops_pure hops2 rfl rfl rfl (mul_calls _ _ i4 i4 _ _) (CoL.refl _) ?_
  refine aops_eval 3 hops2 ?_
  simp only [go_sem, e4, decide_true]
  refine aops_pure hops2 rfl rfl rfl (pow_calls 2 10 in2 (by decide) _ _) (CoL.refl _) ?_
  refine aops_eval 4 hops2 ?_
  simp only [go_sem, e5, decide_true]
  refine aops_pure hops2 rfl rfl rfl (Height_p0 _ _) (CoL.refl _) ?_
  refine aops_eval 4 hops2 ?_
  simp only [go_sem, decide_true]
  refine aops_pure hops2 rfl rfl rfl (Of_p0 _ _) (CoL.refl _) ?_
  refine aops_last 3 hops2 ?_
  simp only [go_sem, decide_true]
  refine hKR2 _ ?_
  refine hK3 _ ?_
  refine awp_ret ?_
  refine ends_ev rfl ?_
  simp only [go_sem]
  exact Co.refl _
end Go.Proofs.T

