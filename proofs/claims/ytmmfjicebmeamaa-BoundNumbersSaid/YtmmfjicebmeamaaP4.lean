/- A part of the proof, under no conditions of its own: P4. -/
import Derived.Test.YtmmfjicebmeamaaP3
namespace Go.Proofs.T
open Go Go.Ab Go.RowKit

/-! ## The numbers of the program -/

set_option maxRecDepth 100000 in
theorem cexpr_e0 (m : Nm) (g d : Nat) : ACalls E 21 [.ptr m 0, .agg e0c] [] g d (.tup []) [] := by
  refine acalls_of_awp (fn := Try.f21) (N := 28) Try.call21 Try.func21 rfl rfl (by simp) ?_
  simp only [go_sem]
  refine awp_seq_k (fun K1 hK1 => ?_)
  refine awp_plain 2 (by kernel_rfl) rfl (fun g0 hg0 => ?_)
  simp only [go_sem]
  refine hK1 _ ?_
  refine awp_seq_k (fun K2 hK2 => ?_)
  refine awp_ops (by kernel_rfl) rfl (fun g1 hg1 ops1 KR1 hops1 hKR1 => ?_)
  refine aops_eval 1 hops1 ?_
  simp only [go_sem]
  refine aops_pure hops1 rfl rfl rfl (allX_calls e0 _ _) (.cons coE0 .nil) ?_
  refine aops_last 0 hops1 ?_
  simp only [go_sem]
  refine hKR1 _ ?_
  refine hK2 _ ?_
  refine awp_block ?_
  refine awp_range_k rfl rfl (by decide) ((nodesEx e0).map encEx) (fun _ _ => True) trivial (fun n I hY => all1_calls e0 okE0 n I hY) (fun k hk σ hJ KA hKA => ?_) (fun σ hJ => ?_)
  · have hk0 : k = 0 := by simpa [nodesE0] using hk
    subst hk0
    refine awp_keepT (st' := { env := [(7, encEx e0)], σ := [] }) ⟨leE_spec ?_, fun n o h => by cases h⟩ ?_
    · simp only [go_sem, nodesE0]
      try trivial
    refine awp_plain 2 (by kernel_rfl) rfl (fun g2 hg2 => ?_)
    simp only [go_sem, e0, tT]
    refine hKA _ (fun KB hKB => ?_)
    refine awp_block ?_
    refine awp_seq_k (fun K3 hK3 => ?_)
    refine awp_plain 3 (by kernel_rfl) rfl (fun g3 hg3 => ?_)
    simp only [go_sem, show ((3 : Int) = 2) = False from eq_false (by decide), decide_false]
    refine hK3 _ ?_
    refine awp_f rfl ?_
    refine awp_skip ?_
    refine hKB _ ?_
    try trivial
  · have _hd := hJ
    refine ends_ev rfl ?_
    simp only [go_sem]
    exact Co.refl _
end Go.Proofs.T

