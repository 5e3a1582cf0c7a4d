/- A part of the proof, under no conditions of its own: D12. -/
import Derived.Test.YtgclmhkkiafmjaaDoorD11
namespace Go.Proofs.T
open Go Go.Ab Go.RowKit Go.Extern.Stop Go.Stop Go.Extern

set_option maxRecDepth 100000 in
/-- The target is a variable of type Code, the innermost error is a Fault. -/
theorem as_hitCF (c a : Int) (p q : Nat) : ∀ (l : List Str) (g d : Nat), ACalls E 31 [chain true c a l, .iface 52 (.ptr ⟨q, 4, 0⟩ 0), valD 52 ⟨p, 14, 0⟩ 150, rtD 30]
    [(⟨p, 14, 0⟩, .box 52 [.ptr ⟨q, 4, 0⟩ 0]), (⟨q, 4, 0⟩, .box 30 [dI 0])] g d (dB true) [(⟨p, 14, 0⟩, .box 52 [.ptr ⟨q, 4, 0⟩ 0]), (⟨q, 4, 0⟩, .box 30 [dI c])] := by
  intro l g d
  refine acalls_of_awp (fn := Tryd.f31) (N := 62) Tryd.call31 Tryd.func31 rfl rfl (by simp) ?_
  simp only [go_sem]
  refine awp_seq_k (fun K1 hK1 => ?_)
  refine awp_plain 2 (by kernel_rfl) rfl (fun g0 hg0 => ?_)
  simp only [go_sem, hd]
  refine hK1 _ ?_
  refine awp_block ?_
  refine awp_loop (fun m s => ∃ X, ((∃ l', X = chain true c a l' ∧ m = l'.length + 1) ∨ (X = .iface 30 (dI c) ∧ m = 0)) ∧ Le { env := [(0, X), (1, .iface 52 (.ptr ⟨q, 4, 0⟩ 0)), (3, rtD 30), (6, .ptr ⟨g0, 6, 0⟩ 0)], σ := [(⟨g0, 6, 0⟩, .box 70 (valD 52 ⟨p, 14, 0⟩ 150).cells), (⟨p, 14, 0⟩, .box 52 [.ptr ⟨q, 4, 0⟩ 0]), (⟨q, 4, 0⟩, .box 30 [dI 0])] } s) (l.length + 1) ?_ ?_
  · refine ⟨_, .inl ⟨l, rfl, rfl⟩, le_of ?_⟩
    simp only [go_sem, hd]
    try trivial
  · rintro m s ⟨X, hX, hle⟩
    refine awp_keep hle ?_
    clear hle
    refine awp_block ?_
    refine awp_seq_k (fun K2 hK2 => ?_)
    refine awp_seq_k (fun K3 hK3 => ?_)
    rcases hX with ⟨l', rfl, rfl⟩ | ⟨rfl, rfl⟩
    · cases l' with
      | nil =>
        refine awp_ops (by kernel_rfl) rfl (fun g1 hg1 ops1 KR1 hops1 hKR1 => ?_)
        refine aops_eval 1 hops1 ?_
        simp only [go_sem, hd, chain, baseE, if_true]
        refine aops_entry0 hops1 rfl rfl (leads_fn rfl rfl rfl) (typeOf_calls typeOf50 _ _ _) (CoL.refl _) ?_
        refine aops_eval 1 hops1 ?_
        simp only [go_sem, if_true]
        refine aops_entry0 hops1 rfl rfl (leads_method rfl rfl rfl (recvAsg _)) (asg_calls asg50_30 _ _) (CoL.refl _) ?_
        refine aops_last 0 hops1 ?_
        simp only [go_sem]
        refine hKR1 _ ?_
        refine hK3 _ ?_
        refine awp_f rfl ?_
        refine awp_skip ?_
        refine hK2 _ ?_
        refine awp_seq_k (fun K4 hK4 => ?_)
        refine awp_seq_k (fun K5 hK5 => ?_)
        refine awp_ops (by kernel_rfl) rfl (fun g4 hg4 ops4 KR4 hops4 hKR4 => ?_)
        refine aops_eval 1 hops4 ?_
        simp only [go_sem, if_true]
        refine aops_lacks hops4 rfl rfl rfl rfl (noAs50) ?_
        refine aops_last 5 hops4 ?_
        simp only [go_sem, if_true]
        refine hKR4 _ ?_
        refine hK5 _ ?_
        refine awp_seq_k (fun K6 hK6 => ?_)
        refine awp_plain 6 (by kernel_rfl) rfl (fun g5 hg5 => ?_)
        simp only [go_sem, if_true]
        refine hK6 _ ?_
        refine awp_f rfl ?_
        refine awp_skip ?_
        refine hK4 _ ?_
        refine awp_seq_k (fun K7 hK7 => ?_)
        refine awp_plain 1 (by kernel_rfl) rfl (fun g7 hg7 => ?_)
        simp only [go_sem, if_true]
        refine hK7 _ ?_
        refine awp_block ?_
        refine awp_seq_k (fun K8 hK8 => ?_)
        refine awp_ops (by kernel_rfl) rfl (fun g10 hg10 ops10 KR10 hops10 hKR10 => ?_)
        refine aops_eval 0 hops10 ?_
        simp only [go_sem]
        refine aops_has hops10 rfl rfl rfl rfl (hasUn50) ?_
        refine aops_last 2 hops10 ?_
        simp only [go_sem, if_true]
        refine hKR10 _ ?_
        refine hK8 _ ?_
        refine awp_t rfl ?_
        refine awp_seq_k (fun K9 hK9 => ?_)
        refine awp_plain 1 (by kernel_rfl) rfl (fun g11 hg11 => ?_)
        simp only [go_sem, if_true]
        refine hK9 _ ?_
        refine awp_seq_k (fun K10 hK10 => ?_)
        refine awp_ops (by kernel_rfl) rfl (fun g12 hg12 ops12 KR12 hops12 hKR12 => ?_)
        refine aops_eval 1 hops12 ?_
        simp only [go_sem, if_true]
        refine aops_inv0 hops12 rfl rfl (leads_method rfl rfl rfl (Recv.same u50 _)) (unwrapF_calls c a _ _) (CoL.refl _) ?_
        refine aops_last 1 hops12 ?_
        simp only [go_sem, if_true]
        refine hKR12 _ ?_
        refine hK10 _ ?_
        refine awp_seq_k (fun K11 hK11 => ?_)
        refine awp_plain 2 (by kernel_rfl) rfl (fun g13 hg13 => ?_)
        simp only [go_sem, if_true]
        refine hK11 _ ?_
        refine awp_f rfl ?_
        refine awp_skip ?_
        refine ⟨_, ?_, _, .inr ⟨rfl, rfl⟩, le_of ?_⟩
        · simp
        simp only [go_sem, hd, if_true]
        try trivial
      | cons p' r =>
        obtain ⟨t, y, hy⟩ := chain_iface true c a r
        refine awp_ops (by kernel_rfl) rfl (fun g1 hg1 ops1 KR1 hops1 hKR1 => ?_)
        refine aops_eval 1 hops1 ?_
        simp only [go_sem, hd, chain, hy]
        refine aops_entry0 hops1 rfl rfl (leads_fn rfl rfl rfl) (typeOf_calls typeOf59 _ _ _) (CoL.refl _) ?_
        refine aops_eval 1 hops1 ?_
        simp only [go_sem]
        refine aops_entry0 hops1 rfl rfl (leads_method rfl rfl rfl (recvAsg _)) (asg_calls asg59_30 _ _) (CoL.refl _) ?_
        refine aops_last 0 hops1 ?_
        simp only [go_sem]
        refine hKR1 _ ?_
        refine hK3 _ ?_
        refine awp_f rfl ?_
        refine awp_skip ?_
        refine hK2 _ ?_
        refine awp_seq_k (fun K12 hK12 => ?_)
        refine awp_seq_k (fun K13 hK13 => ?_)
        refine awp_ops (by kernel_rfl) rfl (fun g4 hg4 ops4 KR4 hops4 hKR4 => ?_)
        refine aops_eval 1 hops4 ?_
        simp only [go_sem]
        refine aops_lacks hops4 rfl rfl rfl rfl (noAs59) ?_
        refine aops_last 5 hops4 ?_
        simp only [go_sem]
        refine hKR4 _ ?_
        refine hK13 _ ?_
        refine awp_seq_k (fun K14 hK14 => ?_)
        refine awp_plain 6 (by kernel_rfl) rfl (fun g5 hg5 => ?_)
        simp only [go_sem]
        refine hK14 _ ?_
        refine awp_f rfl ?_
        refine awp_skip ?_
        refine hK12 _ ?_
        refine awp_seq_k (fun K15 hK15 => ?_)
        refine awp_plain 1 (by kernel_rfl) rfl (fun g7 hg7 => ?_)
        simp only [go_sem]
        refine hK15 _ ?_
        refine awp_block ?_
        refine awp_seq_k (fun K16 hK16 => ?_)
        refine awp_ops (by kernel_rfl) rfl (fun g10 hg10 ops10 KR10 hops10 hKR10 => ?_)
        refine aops_eval 0 hops10 ?_
        simp only [go_sem]
        refine aops_has hops10 rfl rfl rfl rfl (hasUn59) ?_
        refine aops_last 2 hops10 ?_
        simp only [go_sem]
        refine hKR10 _ ?_
        refine hK16 _ ?_
        refine awp_t rfl ?_
        refine awp_seq_k (fun K17 hK17 => ?_)
        refine awp_plain 1 (by kernel_rfl) rfl (fun g11 hg11 => ?_)
        simp only [go_sem]
        refine hK17 _ ?_
        refine awp_seq_k (fun K18 hK18 => ?_)
        refine awp_ops (by kernel_rfl) rfl (fun g12 hg12 ops12 KR12 hops12 hKR12 => ?_)
        refine aops_eval 1 hops12 ?_
        simp only [go_sem]
        refine aops_inv0 hops12 rfl rfl (leads_method rfl rfl rfl (Recv.same u59 _)) (unwrapI_calls p' (.iface t y) rfl _ _) (CoL.refl _) ?_
        refine aops_last 1 hops12 ?_
        simp only [go_sem]
        refine hKR12 _ ?_
        refine hK18 _ ?_
        refine awp_seq_k (fun K19 hK19 => ?_)
        refine awp_plain 2 (by kernel_rfl) rfl (fun g13 hg13 => ?_)
        simp only [go_sem]
        refine hK19 _ ?_
        refine awp_f rfl ?_
        refine awp_skip ?_
        refine ⟨_, ?_, _, .inl ⟨r, rfl, rfl⟩, le_of ?_⟩
        · simp
        simp only [go_sem, hd, hy]
        try trivial
    · refine awp_ops (by kernel_rfl) rfl (fun g1 hg1 ops1 KR1 hops1 hKR1 => ?_)
      refine aops_eval 1 hops1 ?_
      simp only [go_sem, hd]
      refine aops_entry0 hops1 rfl rfl (leads_fn rfl rfl rfl) (typeOf_calls typeOf30 _ _ _) (CoL.refl _) ?_
      refine aops_eval 1 hops1 ?_
      simp only [go_sem]
      refine aops_entry0 hops1 rfl rfl (leads_method rfl rfl rfl (recvAsg _)) (asg_calls asg30_30 _ _) (CoL.refl _) ?_
      refine aops_last 0 hops1 ?_
      simp only [go_sem]
      refine hKR1 _ ?_
      refine hK3 _ ?_
      refine awp_t rfl ?_
      refine awp_seq_k (fun K20 hK20 => ?_)
      refine awp_ops (by kernel_rfl) rfl (fun g2 hg2 ops2 KR2 hops2 hKR2 => ?_)
      refine aops_eval 1 hops2 ?_
      simp only [go_sem]
      refine aops_entry hops2 rfl rfl (leads_fn rfl rfl rfl) (vElem52 ⟨p, 14, 0⟩ ⟨q, 4, 0⟩ _ _) (CoL.refl _) (by simp [go_sem]) ?_
      refine aops_eval 1 hops2 ?_
      simp only [go_sem]
      refine aops_entry0 hops2 rfl rfl (leads_fn rfl rfl rfl) (valOfC _ _ _) (CoL.refl _) ?_
      refine aops_entry hops2 rfl rfl (leads_fn rfl rfl rfl) (vSetC (m := ⟨q, 4, 0⟩) (k := ⟨g2, 23, 0⟩) (by simp) (dI 0) c _ _) (CoL.refl _) (by simp [go_sem]) ?_
      refine aops_last 0 hops2 ?_
      simp only [go_sem]
      refine hKR2 _ ?_
      refine hK20 _ ?_
      refine awp_seq_k (fun K21 hK21 => ?_)
      refine awp_plain 1 (by kernel_rfl) rfl (fun g3 hg3 => ?_)
      simp only [go_sem]
      refine hK21 _ ?_
      refine awp_ret ?_
      refine ends_keep rfl (by simp [go_sem]) ?_
      simp only [go_sem]
      exact Co.refl _
end Go.Proofs.T

