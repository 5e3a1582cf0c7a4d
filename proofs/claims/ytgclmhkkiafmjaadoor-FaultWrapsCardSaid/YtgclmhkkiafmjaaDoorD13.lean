/- A part of the proof, under no conditions of its own: D13. -/
import Derived.Test.YtgclmhkkiafmjaaDoorD12
namespace Go.Proofs.T
open Go Go.Ab Go.RowKit Go.Extern.Stop Go.Stop Go.Extern

/-! ## errors.As -/

set_option maxRecDepth 100000 in
theorem As_C (c a : Int) (q : Nat) (l : List Str) (g d : Nat) : ACalls E 23 [chain false c a l, .iface 52 (.ptr ⟨q, 4, 0⟩ 0)] [(⟨q, 4, 0⟩, .box 30 [dI 0])] g d (dB true) [(⟨q, 4, 0⟩, .box 30 [dI c])] := by
  obtain ⟨t, y, hy⟩ := chain_iface false c a l
  rw [hy]
  refine acalls_of_awp (fn := Tryd.f23) (N := 42) Tryd.call23 Tryd.func23 rfl rfl (by simp) ?_
  simp only [go_sem]
  refine awp_seq_k (fun K1 hK1 => ?_)
  refine awp_plain 1 (by kernel_rfl) rfl (fun g0 hg0 => ?_)
  simp only [go_sem]
  refine hK1 _ ?_
  refine awp_seq_k (fun K2 hK2 => ?_)
  refine awp_seq_k (fun K3 hK3 => ?_)
  refine awp_plain 2 (by kernel_rfl) rfl (fun g1 hg1 => ?_)
  simp only [go_sem]
  refine hK3 _ ?_
  refine awp_f rfl ?_
  refine awp_skip ?_
  refine hK2 _ ?_
  refine awp_seq_k (fun K4 hK4 => ?_)
  refine awp_seq_k (fun K5 hK5 => ?_)
  refine awp_plain 2 (by kernel_rfl) rfl (fun g3 hg3 => ?_)
  simp only [go_sem]
  refine hK5 _ ?_
  refine awp_f rfl ?_
  refine awp_skip ?_
  refine hK4 _ ?_
  refine awp_seq_k (fun K6 hK6 => ?_)
  refine awp_ops (by kernel_rfl) rfl (fun g5 hg5 ops5 KR5 hops5 hKR5 => ?_)
  refine aops_eval 1 hops5 ?_
  simp only [go_sem]
  refine aops_entry0 hops5 rfl rfl (leads_fn rfl rfl rfl) (valOfP52 ⟨q, 4, 0⟩ _ _) (CoL.refl _) ?_
  refine aops_last 2 hops5 ?_
  simp only [go_sem, hd]
  refine hKR5 _ ?_
  refine hK6 _ ?_
  refine awp_seq_k (fun K7 hK7 => ?_)
  refine awp_ops (by kernel_rfl) rfl (fun g6 hg6 ops6 KR6 hops6 hKR6 => ?_)
  refine aops_eval 1 hops6 ?_
  simp only [go_sem]
  refine aops_entry0 hops6 rfl rfl (leads_fn rfl rfl rfl) (vType52 ⟨g5, 14, 0⟩ _ _) (CoL.refl _) ?_
  refine aops_last 1 hops6 ?_
  simp only [go_sem, hd, rtD]
  refine hKR6 _ ?_
  refine hK7 _ ?_
  refine awp_seq_k (fun K8 hK8 => ?_)
  refine awp_seq_k (fun K9 hK9 => ?_)
  refine awp_ops (by kernel_rfl) rfl (fun g7 hg7 ops7 KR7 hops7 hKR7 => ?_)
  refine aops_eval 1 hops7 ?_
  simp only [go_sem]
  refine aops_entry0 hops7 rfl rfl (leads_method rfl rfl rfl (recvKind _)) (kind_calls kind52 _ _) (CoL.refl _) ?_
  refine aops_eval 3 hops7 ?_
  simp only [go_sem]
  refine aops_entry hops7 rfl rfl (leads_fn rfl rfl rfl) (vIsNil52 ⟨g5, 14, 0⟩ ⟨q, 4, 0⟩ _ _) (CoL.refl _) (by simp [go_sem]) ?_
  refine aops_last 1 hops7 ?_
  simp only [go_sem]
  refine hKR7 _ ?_
  refine hK9 _ ?_
  refine awp_f rfl ?_
  refine awp_skip ?_
  refine hK8 _ ?_
  refine awp_seq_k (fun K10 hK10 => ?_)
  refine awp_ops (by kernel_rfl) rfl (fun g9 hg9 ops9 KR9 hops9 hKR9 => ?_)
  refine aops_eval 1 hops9 ?_
  simp only [go_sem]
  refine aops_entry0 hops9 rfl rfl (leads_method rfl rfl rfl (recvElem _)) (elem_calls elem52 _ _) (CoL.refl _) ?_
  refine aops_last 1 hops9 ?_
  simp only [go_sem, hd, rtD]
  refine hKR9 _ ?_
  refine hK10 _ ?_
  refine awp_seq_k (fun K11 hK11 => ?_)
  refine awp_seq_k (fun K12 hK12 => ?_)
  refine awp_ops (by kernel_rfl) rfl (fun g10 hg10 ops10 KR10 hops10 hKR10 => ?_)
  refine aops_eval 1 hops10 ?_
  simp only [go_sem]
  refine aops_entry0 hops10 rfl rfl (leads_method rfl rfl rfl (recvKind _)) (kind_calls kind30 _ _) (CoL.refl _) ?_
  refine aops_eval 4 hops10 ?_
  simp only [go_sem, errT]
  refine aops_entry0 hops10 rfl rfl (leads_method rfl rfl rfl (recvImpl _)) (impl_calls impl30 _ _) (CoL.refl _) ?_
  refine aops_last 2 hops10 ?_
  simp only [go_sem]
  refine hKR10 _ ?_
  refine hK12 _ ?_
  refine awp_f rfl ?_
  refine awp_skip ?_
  refine hK11 _ ?_
  refine awp_seq_k (fun K13 hK13 => ?_)
  refine awp_ops (by kernel_rfl) rfl (fun g12 hg12 ops12 KR12 hops12 hKR12 => ?_)
  refine aops_eval 4 hops12 ?_
  simp only [go_sem]
  refine aops_call hops12 rfl rfl rfl ((hy ▸ as_hitC c a g5 q l _ _)) (CoL.refl _) (by simp [go_sem]) ?_
  refine aops_last 1 hops12 ?_
  simp only [go_sem]
  refine hKR12 _ ?_
  refine hK13 _ ?_
  refine awp_ret ?_
  refine ends_keep rfl (by simp [go_sem]) ?_
  simp only [go_sem]
  exact Co.refl _
set_option maxRecDepth 100000 in
theorem As_CF (c a : Int) (q : Nat) (l : List Str) (g d : Nat) : ACalls E 23 [chain true c a l, .iface 52 (.ptr ⟨q, 4, 0⟩ 0)] [(⟨q, 4, 0⟩, .box 30 [dI 0])] g d (dB true) [(⟨q, 4, 0⟩, .box 30 [dI c])] := by
  obtain ⟨t, y, hy⟩ := chain_iface true c a l
  rw [hy]
  refine acalls_of_awp (fn := Tryd.f23) (N := 42) Tryd.call23 Tryd.func23 rfl rfl (by simp) ?_
  simp only [go_sem]
  refine awp_seq_k (fun K1 hK1 => ?_)
  refine awp_plain 1 (by kernel_rfl) rfl (fun g0 hg0 => ?_)
  simp only [go_sem]
  refine hK1 _ ?_
  refine awp_seq_k (fun K2 hK2 => ?_)
  refine awp_seq_k (fun K3 hK3 => ?_)
  refine awp_plain 2 (by kernel_rfl) rfl (fun g1 hg1 => ?_)
  simp only [go_sem]
  refine hK3 _ ?_
  refine awp_f rfl ?_
  refine awp_skip ?_
  refine hK2 _ ?_
  refine awp_seq_k (fun K4 hK4 => ?_)
  refine awp_seq_k (fun K5 hK5 => ?_)
  refine awp_plain 2 (by kernel_rfl) rfl (fun g3 hg3 => ?_)
  simp only [go_sem]
  refine hK5 _ ?_
  refine awp_f rfl ?_
  refine awp_skip ?_
  refine hK4 _ ?_
  refine awp_seq_k (fun K6 hK6 => ?_)
  refine awp_ops (by kernel_rfl) rfl (fun g5 hg5 ops5 KR5 hops5 hKR5 => ?_)
  refine aops_eval 1 hops5 ?_
  simp only [go_sem]
  refine aops_entry0 hops5 rfl rfl (leads_fn rfl rfl rfl) (valOfP52 ⟨q, 4, 0⟩ _ _) (CoL.refl _) ?_
  refine aops_last 2 hops5 ?_
  simp only [go_sem, hd]
  refine hKR5 _ ?_
  refine hK6 _ ?_
  refine awp_seq_k (fun K7 hK7 => ?_)
  refine awp_ops (by kernel_rfl) rfl (fun g6 hg6 ops6 KR6 hops6 hKR6 => ?_)
  refine aops_eval 1 hops6 ?_
  simp only [go_sem]
  refine aops_entry0 hops6 rfl rfl (leads_fn rfl rfl rfl) (vType52 ⟨g5, 14, 0⟩ _ _) (CoL.refl _) ?_
  refine aops_last 1 hops6 ?_
  simp only [go_sem, hd, rtD]
  refine hKR6 _ ?_
  refine hK7 _ ?_
  refine awp_seq_k (fun K8 hK8 => ?_)
  refine awp_seq_k (fun K9 hK9 => ?_)
  refine awp_ops (by kernel_rfl) rfl (fun g7 hg7 ops7 KR7 hops7 hKR7 => ?_)
  refine aops_eval 1 hops7 ?_
  simp only [go_sem]
  refine aops_entry0 hops7 rfl rfl (leads_method rfl rfl rfl (recvKind _)) (kind_calls kind52 _ _) (CoL.refl _) ?_
  refine aops_eval 3 hops7 ?_
  simp only [go_sem]
  refine aops_entry hops7 rfl rfl (leads_fn rfl rfl rfl) (vIsNil52 ⟨g5, 14, 0⟩ ⟨q, 4, 0⟩ _ _) (CoL.refl _) (by simp [go_sem]) ?_
  refine aops_last 1 hops7 ?_
  simp only [go_sem]
  refine hKR7 _ ?_
  refine hK9 _ ?_
  refine awp_f rfl ?_
  refine awp_skip ?_
  refine hK8 _ ?_
  refine awp_seq_k (fun K10 hK10 => ?_)
  refine awp_ops (by kernel_rfl) rfl (fun g9 hg9 ops9 KR9 hops9 hKR9 => ?_)
  refine aops_eval 1 hops9 ?_
  simp only [go_sem]
  refine aops_entry0 hops9 rfl rfl (leads_method rfl rfl rfl (recvElem _)) (elem_calls elem52 _ _) (CoL.refl _) ?_
  refine aops_last 1 hops9 ?_
  simp only [go_sem, hd, rtD]
  refine hKR9 _ ?_
  refine hK10 _ ?_
  refine awp_seq_k (fun K11 hK11 => ?_)
  refine awp_seq_k (fun K12 hK12 => ?_)
  refine awp_ops (by kernel_rfl) rfl (fun g10 hg10 ops10 KR10 hops10 hKR10 => ?_)
  refine aops_eval 1 hops10 ?_
  simp only [go_sem]
  refine aops_entry0 hops10 rfl rfl (leads_method rfl rfl rfl (recvKind _)) (kind_calls kind30 _ _) (CoL.refl _) ?_
  refine aops_eval 4 hops10 ?_
  simp only [go_sem, errT]
  refine aops_entry0 hops10 rfl rfl (leads_method rfl rfl rfl (recvImpl _)) (impl_calls impl30 _ _) (CoL.refl _) ?_
  refine aops_last 2 hops10 ?_
  simp only [go_sem]
  refine hKR10 _ ?_
  refine hK12 _ ?_
  refine awp_f rfl ?_
  refine awp_skip ?_
  refine hK11 _ ?_
  refine awp_seq_k (fun K13 hK13 => ?_)
  refine awp_ops (by kernel_rfl) rfl (fun g12 hg12 ops12 KR12 hops12 hKR12 => ?_)
  refine aops_eval 4 hops12 ?_
  simp only [go_sem]
  refine aops_call hops12 rfl rfl rfl ((hy ▸ as_hitCF c a g5 q l _ _)) (CoL.refl _) (by simp [go_sem]) ?_
  refine aops_last 1 hops12 ?_
  simp only [go_sem]
  refine hKR12 _ ?_
  refine hK13 _ ?_
  refine awp_ret ?_
  refine ends_keep rfl (by simp [go_sem]) ?_
  simp only [go_sem]
  exact Co.refl _
set_option maxRecDepth 100000 in
theorem As_F (c a : Int) (q : Nat) (l : List Str) (g d : Nat) : ACalls E 23 [chain true c a l, .iface 53 (.ptr ⟨q, 4, 0⟩ 0)] [(⟨q, 4, 0⟩, .box 50 [dI 0, dI 0])] g d (dB true) [(⟨q, 4, 0⟩, .box 50 [dI c, dI a])] := by
  obtain ⟨t, y, hy⟩ := chain_iface true c a l
  rw [hy]
  refine acalls_of_awp (fn := Tryd.f23) (N := 42) Tryd.call23 Tryd.func23 rfl rfl (by simp) ?_
  simp only [go_sem]
  refine awp_seq_k (fun K1 hK1 => ?_)
  refine awp_plain 1 (by kernel_rfl) rfl (fun g0 hg0 => ?_)
  simp only [go_sem]
  refine hK1 _ ?_
  refine awp_seq_k (fun K2 hK2 => ?_)
  refine awp_seq_k (fun K3 hK3 => ?_)
  refine awp_plain 2 (by kernel_rfl) rfl (fun g1 hg1 => ?_)
  simp only [go_sem]
  refine hK3 _ ?_
  refine awp_f rfl ?_
  refine awp_skip ?_
  refine hK2 _ ?_
  refine awp_seq_k (fun K4 hK4 => ?_)
  refine awp_seq_k (fun K5 hK5 => ?_)
  refine awp_plain 2 (by kernel_rfl) rfl (fun g3 hg3 => ?_)
  simp only [go_sem]
  refine hK5 _ ?_
  refine awp_f rfl ?_
  refine awp_skip ?_
  refine hK4 _ ?_
  refine awp_seq_k (fun K6 hK6 => ?_)
  refine awp_ops (by kernel_rfl) rfl (fun g5 hg5 ops5 KR5 hops5 hKR5 => ?_)
  refine aops_eval 1 hops5 ?_
  simp only [go_sem]
  refine aops_entry0 hops5 rfl rfl (leads_fn rfl rfl rfl) (valOfP53 ⟨q, 4, 0⟩ _ _) (CoL.refl _) ?_
  refine aops_last 2 hops5 ?_
  simp only [go_sem, hd]
  refine hKR5 _ ?_
  refine hK6 _ ?_
  refine awp_seq_k (fun K7 hK7 => ?_)
  refine awp_ops (by kernel_rfl) rfl (fun g6 hg6 ops6 KR6 hops6 hKR6 => ?_)
  refine aops_eval 1 hops6 ?_
  simp only [go_sem]
  refine aops_entry0 hops6 rfl rfl (leads_fn rfl rfl rfl) (vType53 ⟨g5, 14, 0⟩ _ _) (CoL.refl _) ?_
  refine aops_last 1 hops6 ?_
  simp only [go_sem, hd, rtD]
  refine hKR6 _ ?_
  refine hK7 _ ?_
  refine awp_seq_k (fun K8 hK8 => ?_)
  refine awp_seq_k (fun K9 hK9 => ?_)
  refine awp_ops (by kernel_rfl) rfl (fun g7 hg7 ops7 KR7 hops7 hKR7 => ?_)
  refine aops_eval 1 hops7 ?_
  simp only [go_sem]
  refine aops_entry0 hops7 rfl rfl (leads_method rfl rfl rfl (recvKind _)) (kind_calls kind53 _ _) (CoL.refl _) ?_
  refine aops_eval 3 hops7 ?_
  simp only [go_sem]
  refine aops_entry hops7 rfl rfl (leads_fn rfl rfl rfl) (vIsNil53 ⟨g5, 14, 0⟩ ⟨q, 4, 0⟩ _ _) (CoL.refl _) (by simp [go_sem]) ?_
  refine aops_last 1 hops7 ?_
  simp only [go_sem]
  refine hKR7 _ ?_
  refine hK9 _ ?_
  refine awp_f rfl ?_
  refine awp_skip ?_
  refine hK8 _ ?_
  refine awp_seq_k (fun K10 hK10 => ?_)
  refine awp_ops (by kernel_rfl) rfl (fun g9 hg9 ops9 KR9 hops9 hKR9 => ?_)
  refine aops_eval 1 hops9 ?_
  simp only [go_sem]
  refine aops_entry0 hops9 rfl rfl (leads_method rfl rfl rfl (recvElem _)) (elem_calls elem53 _ _) (CoL.refl _) ?_
  refine aops_last 1 hops9 ?_
  simp only [go_sem, hd, rtD]
  refine hKR9 _ ?_
  refine hK10 _ ?_
  refine awp_seq_k (fun K11 hK11 => ?_)
  refine awp_seq_k (fun K12 hK12 => ?_)
  refine awp_ops (by kernel_rfl) rfl (fun g10 hg10 ops10 KR10 hops10 hKR10 => ?_)
  refine aops_eval 1 hops10 ?_
  simp only [go_sem]
  refine aops_entry0 hops10 rfl rfl (leads_method rfl rfl rfl (recvKind _)) (kind_calls kind50 _ _) (CoL.refl _) ?_
  refine aops_eval 4 hops10 ?_
  simp only [go_sem, errT]
  refine aops_entry0 hops10 rfl rfl (leads_method rfl rfl rfl (recvImpl _)) (impl_calls impl50 _ _) (CoL.refl _) ?_
  refine aops_last 2 hops10 ?_
  simp only [go_sem]
  refine hKR10 _ ?_
  refine hK12 _ ?_
  refine awp_f rfl ?_
  refine awp_skip ?_
  refine hK11 _ ?_
  refine awp_seq_k (fun K13 hK13 => ?_)
  refine awp_ops (by kernel_rfl) rfl (fun g12 hg12 ops12 KR12 hops12 hKR12 => ?_)
  refine aops_eval 4 hops12 ?_
  simp only [go_sem]
  refine aops_call hops12 rfl rfl rfl ((hy ▸ as_hitF c a g5 q l _ _)) (CoL.refl _) (by simp [go_sem]) ?_
  refine aops_last 1 hops12 ?_
  simp only [go_sem]
  refine hKR12 _ ?_
  refine hK13 _ ?_
  refine awp_ret ?_
  refine ends_keep rfl (by simp [go_sem]) ?_
  simp only [go_sem]
  exact Co.refl _
end Go.Proofs.T

