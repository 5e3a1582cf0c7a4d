/- A part of the proof, under no conditions of its own: D14. -/
import Derived.Test.YtgclmhkkiafmjaaDoorD13
namespace Go.Proofs.T
open Go Go.Ab Go.RowKit Go.Extern.Stop Go.Stop Go.Extern

/-! ## errors.As where it does not find; an error of another kind -/

theorem typeOf55 (v : Value) (w : World) : (ReflectliteType.typeOf #[.iface 55 v]).run Tryd.prog w = .ok (rt 55) w := by kernel_rfl
theorem asg55_30 (w : World) : (ReflectliteType.relation "AssignableTo" ReflectliteType.assignableTo #[.agg #[hd 55], rt 30]).run Tryd.prog w = .ok (.bool false) w := by kernel_rfl
theorem asg55_50 (w : World) : (ReflectliteType.relation "AssignableTo" ReflectliteType.assignableTo #[.agg #[hd 55], rt 50]).run Tryd.prog w = .ok (.bool false) w := by kernel_rfl
theorem noAs55 (v : Value) (w : World) : (Instr.typeAssert (.iface 55 v) 28 88 true).run Tryd.prog w = .ok (.tuple #[.nilIface, .bool false]) w :=
  run_typeAssert_lacksB Tryd.underlying88 (by kernel_rfl) (by kernel_rfl) v 28 w
theorem noUn55 (v : Value) (w : World) : (Instr.typeAssert (.iface 55 v) 28 60 true).run Tryd.prog w = .ok (.tuple #[.nilIface, .bool false]) w :=
  run_typeAssert_lacksB Tryd.underlying60 (by kernel_rfl) (by kernel_rfl) v 28 w
theorem noUs55 (v : Value) (w : World) : (Instr.typeAssert (.iface 55 v) 28 83 true).run Tryd.prog w = .ok (.tuple #[.nilIface, .bool false]) w :=
  run_typeAssert_lacksB Tryd.underlying83 (by kernel_rfl) (by kernel_rfl) v 28 w

set_option maxRecDepth 100000 in
theorem as_other30 (X tgt val : D) (_ : D.one tgt = true) (hv : val.cells.all D.one = true) (g d : Nat) : ACalls E 31 [.iface 55 X, tgt, val, rtD 30] [] g d (dB false) [] := by
  refine acalls_of_awp (fn := Tryd.f31) (N := 62) Tryd.call31 Tryd.func31 rfl rfl (by simp) ?_
  simp only [go_sem]
  refine awp_seq_k (fun K1 hK1 => ?_)
  refine awp_plain 2 (by kernel_rfl) rfl (fun g0 hg0 => ?_)
  simp only [go_sem, hv, if_true]
  refine hK1 _ ?_
  refine awp_block ?_
  refine awp_loop (fun m s => m = 0 ∧ Le { env := [(0, .iface 55 X), (1, tgt), (3, rtD 30), (6, .ptr ⟨g0, 6, 0⟩ 0)], σ := [(⟨g0, 6, 0⟩, .box 70 val.cells)] } s) 0 ?_ ?_
  · refine ⟨rfl, le_of ?_⟩
    simp only [go_sem, if_true]
    try trivial
  · rintro m s ⟨rfl, hle⟩
    refine awp_keep hle ?_
    clear hle
    refine awp_block ?_
    refine awp_seq_k (fun K2 hK2 => ?_)
    refine awp_seq_k (fun K3 hK3 => ?_)
    refine awp_ops (by kernel_rfl) rfl (fun g1 hg1 ops1 KR1 hops1 hKR1 => ?_)
    refine aops_eval 1 hops1 ?_
    simp only [go_sem, if_true]
    refine aops_entry0 hops1 rfl rfl (leads_fn rfl rfl rfl) (typeOf_calls typeOf55 _ _ _) (CoL.refl _) ?_
    refine aops_eval 1 hops1 ?_
    simp only [go_sem, if_true]
    refine aops_entry0 hops1 rfl rfl (leads_method rfl rfl rfl (recvAsg _)) (asg_calls asg55_30 _ _) (CoL.refl _) ?_
    refine aops_last 0 hops1 ?_
    simp only [go_sem]
    refine hKR1 _ ?_
    refine hK3 _ ?_
    refine awp_f rfl ?_
    refine awp_skip ?_
    refine hK2 _ ?_
    refine awp_seq_k (fun K4 hK4 => ?_)
    refine awp_seq_k (fun K5 hK5 => ?_)
    refine awp_ops (by kernel_rfl) rfl (fun g4 hg4 ops4 KR4 hops4 hKR4 => ?_)
    refine aops_eval 1 hops4 ?_
    simp only [go_sem, if_true]
    refine aops_lacks hops4 rfl rfl rfl rfl (noAs55) ?_
    refine aops_last 5 hops4 ?_
    simp only [go_sem, if_true]
    refine hKR4 _ ?_
    refine hK5 _ ?_
    refine awp_seq_k (fun K6 hK6 => ?_)
    refine awp_plain 6 (by kernel_rfl) rfl (fun g5 hg5 => ?_)
    simp only [go_sem, if_true]
    refine hK6 _ ?_
    refine awp_f rfl ?_
    refine awp_skip ?_
    refine hK4 _ ?_
    refine awp_seq_k (fun K7 hK7 => ?_)
    refine awp_plain 1 (by kernel_rfl) rfl (fun g7 hg7 => ?_)
    simp only [go_sem, if_true]
    refine hK7 _ ?_
    refine awp_block ?_
    refine awp_seq_k (fun K8 hK8 => ?_)
    refine awp_ops (by kernel_rfl) rfl (fun g10 hg10 ops10 KR10 hops10 hKR10 => ?_)
    refine aops_eval 0 hops10 ?_
    simp only [go_sem]
    refine aops_lacks hops10 rfl rfl rfl rfl (noUn55) ?_
    refine aops_last 2 hops10 ?_
    simp only [go_sem, if_true]
    refine hKR10 _ ?_
    refine hK8 _ ?_
    refine awp_f rfl ?_
    refine awp_seq_k (fun K9 hK9 => ?_)
    refine awp_ops (by kernel_rfl) rfl (fun g15 hg15 ops15 KR15 hops15 hKR15 => ?_)
    refine aops_eval 0 hops15 ?_
    simp only [go_sem]
    refine aops_lacks hops15 rfl rfl rfl rfl (noUs55) ?_
    refine aops_last 2 hops15 ?_
    simp only [go_sem, if_true]
    refine hKR15 _ ?_
    refine hK9 _ ?_
    refine awp_f rfl ?_
    refine awp_seq_k (fun K10 hK10 => ?_)
    refine awp_plain 1 (by kernel_rfl) rfl (fun g8 hg8 => ?_)
    simp only [go_sem, if_true]
    refine hK10 _ ?_
    refine awp_seq_k (fun K11 hK11 => ?_)
    refine awp_plain 1 (by kernel_rfl) rfl (fun g9 hg9 => ?_)
    simp only [go_sem]
    refine hK11 _ ?_
    refine awp_ret ?_
    refine ends_ev rfl ?_
    simp only [go_sem, if_true]
    exact Co.refl _
set_option maxRecDepth 100000 in
theorem as_other50 (X tgt val : D) (_ : D.one tgt = true) (hv : val.cells.all D.one = true) (g d : Nat) : ACalls E 31 [.iface 55 X, tgt, val, rtD 50] [] g d (dB false) [] := by
  refine acalls_of_awp (fn := Tryd.f31) (N := 62) Tryd.call31 Tryd.func31 rfl rfl (by simp) ?_
  simp only [go_sem]
  refine awp_seq_k (fun K1 hK1 => ?_)
  refine awp_plain 2 (by kernel_rfl) rfl (fun g0 hg0 => ?_)
  simp only [go_sem, hv, if_true]
  refine hK1 _ ?_
  refine awp_block ?_
  refine awp_loop (fun m s => m = 0 ∧ Le { env := [(0, .iface 55 X), (1, tgt), (3, rtD 50), (6, .ptr ⟨g0, 6, 0⟩ 0)], σ := [(⟨g0, 6, 0⟩, .box 70 val.cells)] } s) 0 ?_ ?_
  · refine ⟨rfl, le_of ?_⟩
    simp only [go_sem, if_true]
    try trivial
  · rintro m s ⟨rfl, hle⟩
    refine awp_keep hle ?_
    clear hle
    refine awp_block ?_
    refine awp_seq_k (fun K2 hK2 => ?_)
    refine awp_seq_k (fun K3 hK3 => ?_)
    refine awp_ops (by kernel_rfl) rfl (fun g1 hg1 ops1 KR1 hops1 hKR1 => ?_)
    refine aops_eval 1 hops1 ?_
    simp only [go_sem, if_true]
    refine aops_entry0 hops1 rfl rfl (leads_fn rfl rfl rfl) (typeOf_calls typeOf55 _ _ _) (CoL.refl _) ?_
    refine aops_eval 1 hops1 ?_
    simp only [go_sem, if_true]
    refine aops_entry0 hops1 rfl rfl (leads_method rfl rfl rfl (recvAsg _)) (asg_calls asg55_50 _ _) (CoL.refl _) ?_
    refine aops_last 0 hops1 ?_
    simp only [go_sem]
    refine hKR1 _ ?_
    refine hK3 _ ?_
    refine awp_f rfl ?_
    refine awp_skip ?_
    refine hK2 _ ?_
    refine awp_seq_k (fun K4 hK4 => ?_)
    refine awp_seq_k (fun K5 hK5 => ?_)
    refine awp_ops (by kernel_rfl) rfl (fun g4 hg4 ops4 KR4 hops4 hKR4 => ?_)
    refine aops_eval 1 hops4 ?_
    simp only [go_sem, if_true]
    refine aops_lacks hops4 rfl rfl rfl rfl (noAs55) ?_
    refine aops_last 5 hops4 ?_
    simp only [go_sem, if_true]
    refine hKR4 _ ?_
    refine hK5 _ ?_
    refine awp_seq_k (fun K6 hK6 => ?_)
    refine awp_plain 6 (by kernel_rfl) rfl (fun g5 hg5 => ?_)
    simp only [go_sem, if_true]
    refine hK6 _ ?_
    refine awp_f rfl ?_
    refine awp_skip ?_
    refine hK4 _ ?_
    refine awp_seq_k (fun K7 hK7 => ?_)
    refine awp_plain 1 (by kernel_rfl) rfl (fun g7 hg7 => ?_)
    simp only [go_sem, if_true]
    refine hK7 _ ?_
    refine awp_block ?_
    refine awp_seq_k (fun K8 hK8 => ?_)
    refine awp_ops (by kernel_rfl) rfl (fun g10 hg10 ops10 KR10 hops10 hKR10 => ?_)
    refine aops_eval 0 hops10 ?_
    simp only [go_sem]
    refine aops_lacks hops10 rfl rfl rfl rfl (noUn55) ?_
    refine aops_last 2 hops10 ?_
    simp only [go_sem, if_true]
    refine hKR10 _ ?_
    refine hK8 _ ?_
    refine awp_f rfl ?_
    refine awp_seq_k (fun K9 hK9 => ?_)
    refine awp_ops (by kernel_rfl) rfl (fun g15 hg15 ops15 KR15 hops15 hKR15 => ?_)
    refine aops_eval 0 hops15 ?_
    simp only [go_sem]
    refine aops_lacks hops15 rfl rfl rfl rfl (noUs55) ?_
    refine aops_last 2 hops15 ?_
    simp only [go_sem, if_true]
    refine hKR15 _ ?_
    refine hK9 _ ?_
    refine awp_f rfl ?_
    refine awp_seq_k (fun K10 hK10 => ?_)
    refine awp_plain 1 (by kernel_rfl) rfl (fun g8 hg8 => ?_)
    simp only [go_sem, if_true]
    refine hK10 _ ?_
    refine awp_seq_k (fun K11 hK11 => ?_)
    refine awp_plain 1 (by kernel_rfl) rfl (fun g9 hg9 => ?_)
    simp only [go_sem]
    refine hK11 _ ?_
    refine awp_ret ?_
    refine ends_ev rfl ?_
    simp only [go_sem, if_true]
    exact Co.refl _

theorem As_nil (tgt : D) (g d : Nat) : ACalls E 23 [.val .nilIface, tgt] [] g d (dB false) [] := by
  refine acalls_of_awp (fn := Tryd.f23) (N := 42) Tryd.call23 Tryd.func23 rfl rfl (by simp) ?_
  simp only [go_sem]
  refine awp_seq_k (fun K1 hK1 => ?_)
  refine awp_plain 1 (by kernel_rfl) rfl (fun g0 hg0 => ?_)
  simp only [go_sem]
  refine hK1 _ ?_
  refine awp_seq_k (fun K2 hK2 => ?_)
  refine awp_seq_k (fun K3 hK3 => ?_)
  refine awp_plain 2 (by kernel_rfl) rfl (fun g1 hg1 => ?_)
  simp only [go_sem]
  refine hK3 _ ?_
  refine awp_t rfl ?_
  refine awp_seq_k (fun K4 hK4 => ?_)
  refine awp_plain 1 (by kernel_rfl) rfl (fun g2 hg2 => ?_)
  simp only [go_sem]
  refine hK4 _ ?_
  refine awp_ret ?_
  refine ends_ev rfl ?_
  simp only [go_sem]
  exact Co.refl _
theorem As_miss (c a : Int) (q : Nat) (l : List Str) (g d : Nat) : ACalls E 23 [chain false c a l, .iface 53 (.ptr ⟨q, 4, 0⟩ 0)] [] g d (dB false) [] := by
  obtain ⟨t, y, hy⟩ := chain_iface false c a l
  rw [hy]
  refine acalls_of_awp (fn := Tryd.f23) (N := 42) Tryd.call23 Tryd.func23 rfl rfl (by simp) ?_
  simp only [go_sem]
  refine awp_seq_k (fun K1 hK1 => ?_)
  refine awp_plain 1 (by kernel_rfl) rfl (fun g0 hg0 => ?_)
  simp only [go_sem]
  refine hK1 _ ?_
  refine awp_seq_k (fun K2 hK2 => ?_)
  refine awp_seq_k (fun K3 hK3 => ?_)
  refine awp_plain 2 (by kernel_rfl) rfl (fun g1 hg1 => ?_)
  simp only [go_sem]
  refine hK3 _ ?_
  refine awp_f rfl ?_
  refine awp_skip ?_
  refine hK2 _ ?_
  refine awp_seq_k (fun K4 hK4 => ?_)
  refine awp_seq_k (fun K5 hK5 => ?_)
  refine awp_plain 2 (by kernel_rfl) rfl (fun g3 hg3 => ?_)
  simp only [go_sem]
  refine hK5 _ ?_
  refine awp_f rfl ?_
  refine awp_skip ?_
  refine hK4 _ ?_
  refine awp_seq_k (fun K6 hK6 => ?_)
  refine awp_ops (by kernel_rfl) rfl (fun g5 hg5 ops5 KR5 hops5 hKR5 => ?_)
  refine aops_eval 1 hops5 ?_
  simp only [go_sem]
  refine aops_entry0 hops5 rfl rfl (leads_fn rfl rfl rfl) (valOfP53 ⟨q, 4, 0⟩ _ _) (CoL.refl _) ?_
  refine aops_last 2 hops5 ?_
  simp only [go_sem, hd]
  refine hKR5 _ ?_
  refine hK6 _ ?_
  refine awp_seq_k (fun K7 hK7 => ?_)
  refine awp_ops (by kernel_rfl) rfl (fun g6 hg6 ops6 KR6 hops6 hKR6 => ?_)
  refine aops_eval 1 hops6 ?_
  simp only [go_sem]
  refine aops_entry0 hops6 rfl rfl (leads_fn rfl rfl rfl) (vType53 ⟨g5, 14, 0⟩ _ _) (CoL.refl _) ?_
  refine aops_last 1 hops6 ?_
  simp only [go_sem, hd, rtD]
  refine hKR6 _ ?_
  refine hK7 _ ?_
  refine awp_seq_k (fun K8 hK8 => ?_)
  refine awp_seq_k (fun K9 hK9 => ?_)
  refine awp_ops (by kernel_rfl) rfl (fun g7 hg7 ops7 KR7 hops7 hKR7 => ?_)
  refine aops_eval 1 hops7 ?_
  simp only [go_sem]
  refine aops_entry0 hops7 rfl rfl (leads_method rfl rfl rfl (recvKind _)) (kind_calls kind53 _ _) (CoL.refl _) ?_
  refine aops_eval 3 hops7 ?_
  simp only [go_sem]
  refine aops_entry hops7 rfl rfl (leads_fn rfl rfl rfl) (vIsNil53 ⟨g5, 14, 0⟩ ⟨q, 4, 0⟩ _ _) (CoL.refl _) (by simp [go_sem]) ?_
  refine aops_last 1 hops7 ?_
  simp only [go_sem]
  refine hKR7 _ ?_
  refine hK9 _ ?_
  refine awp_f rfl ?_
  refine awp_skip ?_
  refine hK8 _ ?_
  refine awp_seq_k (fun K10 hK10 => ?_)
  refine awp_ops (by kernel_rfl) rfl (fun g9 hg9 ops9 KR9 hops9 hKR9 => ?_)
  refine aops_eval 1 hops9 ?_
  simp only [go_sem]
  refine aops_entry0 hops9 rfl rfl (leads_method rfl rfl rfl (recvElem _)) (elem_calls elem53 _ _) (CoL.refl _) ?_
  refine aops_last 1 hops9 ?_
  simp only [go_sem, hd, rtD]
  refine hKR9 _ ?_
  refine hK10 _ ?_
  refine awp_seq_k (fun K11 hK11 => ?_)
  refine awp_seq_k (fun K12 hK12 => ?_)
  refine awp_ops (by kernel_rfl) rfl (fun g10 hg10 ops10 KR10 hops10 hKR10 => ?_)
  refine aops_eval 1 hops10 ?_
  simp only [go_sem]
  refine aops_entry0 hops10 rfl rfl (leads_method rfl rfl rfl (recvKind _)) (kind_calls kind50 _ _) (CoL.refl _) ?_
  refine aops_eval 4 hops10 ?_
  simp only [go_sem, errT]
  refine aops_entry0 hops10 rfl rfl (leads_method rfl rfl rfl (recvImpl _)) (impl_calls impl50 _ _) (CoL.refl _) ?_
  refine aops_last 2 hops10 ?_
  simp only [go_sem]
  refine hKR10 _ ?_
  refine hK12 _ ?_
  refine awp_f rfl ?_
  refine awp_skip ?_
  refine hK11 _ ?_
  refine awp_seq_k (fun K13 hK13 => ?_)
  refine awp_ops (by kernel_rfl) rfl (fun g12 hg12 ops12 KR12 hops12 hKR12 => ?_)
  refine aops_eval 4 hops12 ?_
  simp only [go_sem]
  refine aops_pure hops12 rfl rfl rfl ((hy ▸ as_miss c a _ _ rfl rfl l _ _)) (CoL.refl _) ?_
  refine aops_last 1 hops12 ?_
  simp only [go_sem]
  refine hKR12 _ ?_
  refine hK13 _ ?_
  refine awp_ret ?_
  refine ends_ev rfl ?_
  simp only [go_sem]
  exact Co.refl _
theorem As_otherC (X : D) (q : Nat) (g d : Nat) : ACalls E 23 [.iface 55 X, .iface 52 (.ptr ⟨q, 4, 0⟩ 0)] [] g d (dB false) [] := by
  refine acalls_of_awp (fn := Tryd.f23) (N := 42) Tryd.call23 Tryd.func23 rfl rfl (by simp) ?_
  simp only [go_sem]
  refine awp_seq_k (fun K1 hK1 => ?_)
  refine awp_plain 1 (by kernel_rfl) rfl (fun g0 hg0 => ?_)
  simp only [go_sem]
  refine hK1 _ ?_
  refine awp_seq_k (fun K2 hK2 => ?_)
  refine awp_seq_k (fun K3 hK3 => ?_)
  refine awp_plain 2 (by kernel_rfl) rfl (fun g1 hg1 => ?_)
  simp only [go_sem]
  refine hK3 _ ?_
  refine awp_f rfl ?_
  refine awp_skip ?_
  refine hK2 _ ?_
  refine awp_seq_k (fun K4 hK4 => ?_)
  refine awp_seq_k (fun K5 hK5 => ?_)
  refine awp_plain 2 (by kernel_rfl) rfl (fun g3 hg3 => ?_)
  simp only [go_sem]
  refine hK5 _ ?_
  refine awp_f rfl ?_
  refine awp_skip ?_
  refine hK4 _ ?_
  refine awp_seq_k (fun K6 hK6 => ?_)
  refine awp_ops (by kernel_rfl) rfl (fun g5 hg5 ops5 KR5 hops5 hKR5 => ?_)
  refine aops_eval 1 hops5 ?_
  simp only [go_sem]
  refine aops_entry0 hops5 rfl rfl (leads_fn rfl rfl rfl) (valOfP52 ⟨q, 4, 0⟩ _ _) (CoL.refl _) ?_
  refine aops_last 2 hops5 ?_
  simp only [go_sem, hd]
  refine hKR5 _ ?_
  refine hK6 _ ?_
  refine awp_seq_k (fun K7 hK7 => ?_)
  refine awp_ops (by kernel_rfl) rfl (fun g6 hg6 ops6 KR6 hops6 hKR6 => ?_)
  refine aops_eval 1 hops6 ?_
  simp only [go_sem]
  refine aops_entry0 hops6 rfl rfl (leads_fn rfl rfl rfl) (vType52 ⟨g5, 14, 0⟩ _ _) (CoL.refl _) ?_
  refine aops_last 1 hops6 ?_
  simp only [go_sem, hd, rtD]
  refine hKR6 _ ?_
  refine hK7 _ ?_
  refine awp_seq_k (fun K8 hK8 => ?_)
  refine awp_seq_k (fun K9 hK9 => ?_)
  refine awp_ops (by kernel_rfl) rfl (fun g7 hg7 ops7 KR7 hops7 hKR7 => ?_)
  refine aops_eval 1 hops7 ?_
  simp only [go_sem]
  refine aops_entry0 hops7 rfl rfl (leads_method rfl rfl rfl (recvKind _)) (kind_calls kind52 _ _) (CoL.refl _) ?_
  refine aops_eval 3 hops7 ?_
  simp only [go_sem]
  refine aops_entry hops7 rfl rfl (leads_fn rfl rfl rfl) (vIsNil52 ⟨g5, 14, 0⟩ ⟨q, 4, 0⟩ _ _) (CoL.refl _) (by simp [go_sem]) ?_
  refine aops_last 1 hops7 ?_
  simp only [go_sem]
  refine hKR7 _ ?_
  refine hK9 _ ?_
  refine awp_f rfl ?_
  refine awp_skip ?_
  refine hK8 _ ?_
  refine awp_seq_k (fun K10 hK10 => ?_)
  refine awp_ops (by kernel_rfl) rfl (fun g9 hg9 ops9 KR9 hops9 hKR9 => ?_)
  refine aops_eval 1 hops9 ?_
  simp only [go_sem]
  refine aops_entry0 hops9 rfl rfl (leads_method rfl rfl rfl (recvElem _)) (elem_calls elem52 _ _) (CoL.refl _) ?_
  refine aops_last 1 hops9 ?_
  simp only [go_sem, hd, rtD]
  refine hKR9 _ ?_
  refine hK10 _ ?_
  refine awp_seq_k (fun K11 hK11 => ?_)
  refine awp_seq_k (fun K12 hK12 => ?_)
  refine awp_ops (by kernel_rfl) rfl (fun g10 hg10 ops10 KR10 hops10 hKR10 => ?_)
  refine aops_eval 1 hops10 ?_
  simp only [go_sem]
  refine aops_entry0 hops10 rfl rfl (leads_method rfl rfl rfl (recvKind _)) (kind_calls kind30 _ _) (CoL.refl _) ?_
  refine aops_eval 4 hops10 ?_
  simp only [go_sem, errT]
  refine aops_entry0 hops10 rfl rfl (leads_method rfl rfl rfl (recvImpl _)) (impl_calls impl30 _ _) (CoL.refl _) ?_
  refine aops_last 2 hops10 ?_
  simp only [go_sem]
  refine hKR10 _ ?_
  refine hK12 _ ?_
  refine awp_f rfl ?_
  refine awp_skip ?_
  refine hK11 _ ?_
  refine awp_seq_k (fun K13 hK13 => ?_)
  refine awp_ops (by kernel_rfl) rfl (fun g12 hg12 ops12 KR12 hops12 hKR12 => ?_)
  refine aops_eval 4 hops12 ?_
  simp only [go_sem]
  refine aops_pure hops12 rfl rfl rfl (as_other30 X _ _ rfl rfl _ _) (CoL.refl _) ?_
  refine aops_last 1 hops12 ?_
  simp only [go_sem]
  refine hKR12 _ ?_
  refine hK13 _ ?_
  refine awp_ret ?_
  refine ends_ev rfl ?_
  simp only [go_sem]
  exact Co.refl _
theorem As_otherF (X : D) (q : Nat) (g d : Nat) : ACalls E 23 [.iface 55 X, .iface 53 (.ptr ⟨q, 4, 0⟩ 0)] [] g d (dB false) [] := by
  refine acalls_of_awp (fn := Tryd.f23) (N := 42) Tryd.call23 Tryd.func23 rfl rfl (by simp) ?_
  simp only [go_sem]
  refine awp_seq_k (fun K1 hK1 => ?_)
  refine awp_plain 1 (by kernel_rfl) rfl (fun g0 hg0 => ?_)
  simp only [go_sem]
  refine hK1 _ ?_
  refine awp_seq_k (fun K2 hK2 => ?_)
  refine awp_seq_k (fun K3 hK3 => ?_)
  refine awp_plain 2 (by kernel_rfl) rfl (fun g1 hg1 => ?_)
  simp only [go_sem]
  refine hK3 _ ?_
  refine awp_f rfl ?_
  refine awp_skip ?_
  refine hK2 _ ?_
  refine awp_seq_k (fun K4 hK4 => ?_)
  refine awp_seq_k (fun K5 hK5 => ?_)
  refine awp_plain 2 (by kernel_rfl) rfl (fun g3 hg3 => ?_)
  simp only [go_sem]
  refine hK5 _ ?_
  refine awp_f rfl ?_
  refine awp_skip ?_
  refine hK4 _ ?_
  refine awp_seq_k (fun K6 hK6 => ?_)
  refine awp_ops (by kernel_rfl) rfl (fun g5 hg5 ops5 KR5 hops5 hKR5 => ?_)
  refine aops_eval 1 hops5 ?_
  simp only [go_sem]
  refine aops_entry0 hops5 rfl rfl (leads_fn rfl rfl rfl) (valOfP53 ⟨q, 4, 0⟩ _ _) (CoL.refl _) ?_
  refine aops_last 2 hops5 ?_
  simp only [go_sem, hd]
  refine hKR5 _ ?_
  refine hK6 _ ?_
  refine awp_seq_k (fun K7 hK7 => ?_)
  refine awp_ops (by kernel_rfl) rfl (fun g6 hg6 ops6 KR6 hops6 hKR6 => ?_)
  refine aops_eval 1 hops6 ?_
  simp only [go_sem]
  refine aops_entry0 hops6 rfl rfl (leads_fn rfl rfl rfl) (vType53 ⟨g5, 14, 0⟩ _ _) (CoL.refl _) ?_
  refine aops_last 1 hops6 ?_
  simp only [go_sem, hd, rtD]
  refine hKR6 _ ?_
  refine hK7 _ ?_
  refine awp_seq_k (fun K8 hK8 => ?_)
  refine awp_seq_k (fun K9 hK9 => ?_)
  refine awp_ops (by kernel_rfl) rfl (fun g7 hg7 ops7 KR7 hops7 hKR7 => ?_)
  refine aops_eval 1 hops7 ?_
  simp only [go_sem]
  refine aops_entry0 hops7 rfl rfl (leads_method rfl rfl rfl (recvKind _)) (kind_calls kind53 _ _) (CoL.refl _) ?_
  refine aops_eval 3 hops7 ?_
  simp only [go_sem]
  refine aops_entry hops7 rfl rfl (leads_fn rfl rfl rfl) (vIsNil53 ⟨g5, 14, 0⟩ ⟨q, 4, 0⟩ _ _) (CoL.refl _) (by simp [go_sem]) ?_
  refine aops_last 1 hops7 ?_
  simp only [go_sem]
  refine hKR7 _ ?_
  refine hK9 _ ?_
  refine awp_f rfl ?_
  refine awp_skip ?_
  refine hK8 _ ?_
  refine awp_seq_k (fun K10 hK10 => ?_)
  refine awp_ops (by kernel_rfl) rfl (fun g9 hg9 ops9 KR9 hops9 hKR9 => ?_)
  refine aops_eval 1 hops9 ?_
  simp only [go_sem]
  refine aops_entry0 hops9 rfl rfl (leads_method rfl rfl rfl (recvElem _)) (elem_calls elem53 _ _) (CoL.refl _) ?_
  refine aops_last 1 hops9 ?_
  simp only [go_sem, hd, rtD]
  refine hKR9 _ ?_
  refine hK10 _ ?_
  refine awp_seq_k (fun K11 hK11 => ?_)
  refine awp_seq_k (fun K12 hK12 => ?_)
  refine awp_ops (by kernel_rfl) rfl (fun g10 hg10 ops10 KR10 hops10 hKR10 => ?_)
  refine aops_eval 1 hops10 ?_
  simp only [go_sem]
  refine aops_entry0 hops10 rfl rfl (leads_method rfl rfl rfl (recvKind _)) (kind_calls kind50 _ _) (CoL.refl _) ?_
  refine aops_eval 4 hops10 ?_
  simp only [go_sem, errT]
  refine aops_entry0 hops10 rfl rfl (leads_method rfl rfl rfl (recvImpl _)) (impl_calls impl50 _ _) (CoL.refl _) ?_
  refine aops_last 2 hops10 ?_
  simp only [go_sem]
  refine hKR10 _ ?_
  refine hK12 _ ?_
  refine awp_f rfl ?_
  refine awp_skip ?_
  refine hK11 _ ?_
  refine awp_seq_k (fun K13 hK13 => ?_)
  refine awp_ops (by kernel_rfl) rfl (fun g12 hg12 ops12 KR12 hops12 hKR12 => ?_)
  refine aops_eval 4 hops12 ?_
  simp only [go_sem]
  refine aops_pure hops12 rfl rfl rfl (as_other50 X _ _ rfl rfl _ _) (CoL.refl _) ?_
  refine aops_last 1 hops12 ?_
  simp only [go_sem]
  refine hKR12 _ ?_
  refine hK13 _ ?_
  refine awp_ret ?_
  refine ends_ev rfl ?_
  simp only [go_sem]
  exact Co.refl _
end Go.Proofs.T

