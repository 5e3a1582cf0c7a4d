/- A part of the proof, under no conditions of its own: D7. -/
import Derived.Test.YtgclmhkkiafmjaaDoorD6
namespace Go.Proofs.T
open Go Go.Ab Go.RowKit Go.Extern.Stop Go.Stop Go.Extern

/-! ## The entries, as contracts of the layer -/

theorem vs_one {G : Gh} {w : World} {vs : Array Value} {d : D} (h : Vs G w vs [d]) : ∃ v, vs = #[v] ∧ V G w v d := by
  have hs : vs.size = 1 := h.1
  refine ⟨vs[0], Array.ext (by simp [hs]) fun i h1 h2 => ?_, h.2 0 _ _ (by simp [hs]) rfl⟩
  have : i = 0 := by simp at h2; omega
  subst this
  rfl
theorem vs_two {G : Gh} {w : World} {vs : Array Value} {d d' : D} (h : Vs G w vs [d, d']) : ∃ v v', vs = #[v, v'] ∧ V G w v d ∧ V G w v' d' := by
  have hs : vs.size = 2 := h.1
  refine ⟨vs[0], vs[1], Array.ext (by simp [hs]) fun i h1 h2 => ?_, h.2 0 _ _ (by simp [hs]) rfl, h.2 1 _ _ (by simp [hs]) rfl⟩
  match i with
  | 0 => rfl
  | 1 => rfl
  | n + 2 => exact absurd h2 (by simp)
theorem V.agg1 {G : Gh} {w : World} {v : Value} {x : Value} (h : V G w v (.agg [.val x])) : v = .agg #[x] := by
  cases h with
  | agg h1 h2 =>
    rename_i cs
    have hs : cs.size = 1 := h1
    congr 1
    refine Array.ext (by simp [hs]) fun i hi h3 => ?_
    have : i = 0 := by simp at h3; omega
    subst this
    exact V.of_val (h2 0 _ _ (by simp [hs]) rfl)
def rtD (t : TypeId) : D := .iface 78 (.agg [.val (hd t)])
theorem ofRt {G : Gh} {w : World} {v : Value} {t : TypeId} (h : V G w v (rtD t)) : v = rt t := by
  unfold rtD at h
  cases h with
  | iface h1 => rw [V.agg1 h1]; rfl
theorem rtV (G : Gh) (w : World) (t : TypeId) : V G w (rt t) (rtD t) := .iface (.agg rfl fun i c d hc hd => by
  match i, hc, hd with
  | 0, hc, hd => cases hc; cases hd; exact .val _)

theorem typeOf_calls {t : TypeId} (h : ∀ v w, (ReflectliteType.typeOf #[.iface t v]).run Tryd.prog w = .ok (rt t) w) (y : D) (g d : Nat) : XCalls E 26 [.iface t y] [] g d (rtD t) [] := by
  have hx := @run_callFunc_extern Tryd.prog 26 _ ReflectliteType.typeOf Tryd.func26 (by kernel_rfl) (by kernel_rfl) (by kernel_rfl) (by kernel_rfl)
  refine xcalls_pure fun w0 hA G w vs hw hvs => ?_
  obtain ⟨v, rfl, hv⟩ := vs_one hvs
  cases hv with
  | iface h1 => exact ⟨rt t, by rw [E_P, hx, h]; rfl, rtV G w t⟩
theorem asg_calls {t u : TypeId} {b : Bool} (h : ∀ w, (ReflectliteType.relation "AssignableTo" ReflectliteType.assignableTo #[.agg #[hd t], rt u]).run Tryd.prog w = .ok (.bool b) w) (g d : Nat) :
    XCalls E 74 [.agg [.val (hd t)], rtD u] [] g d (dB b) [] := by
  have hx := @run_callFunc_extern Tryd.prog 74 _ (ReflectliteType.relation "AssignableTo" ReflectliteType.assignableTo) Tryd.func74 (by kernel_rfl) (by kernel_rfl) (by kernel_rfl) (by kernel_rfl)
  refine xcalls_pure fun w0 hA G w vs hw hvs => ?_
  obtain ⟨v, v', rfl, hv, hv'⟩ := vs_two hvs
  rw [V.agg1 hv, ofRt hv']
  exact ⟨.bool b, by rw [E_P, hx, h]; rfl, .val _⟩
theorem recvAsg (t : TypeId) : Recv Tryd.prog 78 "AssignableTo" (.agg [.val (hd t)]) 74 (.agg [.val (hd t)]) := fun _ w v hv => ⟨v, by rw [V.agg1 hv]; exact mAsg _ w, hv⟩

set_option maxRecDepth 100000 in
/-- A chain in which no error is of the wanted type: not found; nothing turns. -/
theorem as_miss (c a : Int) (tgt val : D) (_ : D.one tgt = true) (hv : val.cells.all D.one = true) : ∀ (l : List Str) (g d : Nat), ACalls E 31 [chain false c a l, tgt, val, rtD 50] [] g d (dB false) [] := by
  intro l g d
  refine acalls_of_awp (fn := Tryd.f31) (N := 62) Tryd.call31 Tryd.func31 rfl rfl (by simp) ?_
  simp only [go_sem]
  refine awp_seq_k (fun K1 hK1 => ?_)
  refine awp_plain 2 (by kernel_rfl) rfl (fun g0 hg0 => ?_)
  simp only [go_sem, hv, if_true]
  refine hK1 _ ?_
  refine awp_block ?_
  refine awp_loop (fun m s => ∃ l', m = l'.length ∧ Le { env := [(0, chain false c a l'), (1, tgt), (3, rtD 50), (6, .ptr ⟨g0, 6, 0⟩ 0)], σ := [(⟨g0, 6, 0⟩, .box 70 val.cells)] } s) l.length ?_ ?_
  · refine ⟨l, rfl, le_of ?_⟩
    simp only [go_sem, if_true]
    try trivial
  · rintro m s ⟨l', rfl, hle⟩
    refine awp_keep hle ?_
    clear hle
    refine awp_block ?_
    refine awp_seq_k (fun K2 hK2 => ?_)
    refine awp_seq_k (fun K3 hK3 => ?_)
    cases l' with
    | nil =>
      refine awp_ops (by kernel_rfl) rfl (fun g1 hg1 ops1 KR1 hops1 hKR1 => ?_)
      refine aops_eval 1 hops1 ?_
      simp only [go_sem, if_true, chain, baseE, Bool.false_eq_true, if_false]
      refine aops_entry0 hops1 rfl rfl (leads_fn rfl rfl rfl) (typeOf_calls typeOf30 _ _ _) (CoL.refl _) ?_
      refine aops_eval 1 hops1 ?_
      simp only [go_sem, if_true, if_false]
      refine aops_entry0 hops1 rfl rfl (leads_method rfl rfl rfl (recvAsg _)) (asg_calls asg30_50 _ _) (CoL.refl _) ?_
      refine aops_last 0 hops1 ?_
      simp only [go_sem]
      refine hKR1 _ ?_
      refine hK3 _ ?_
      refine awp_f rfl ?_
      refine awp_skip ?_
      refine hK2 _ ?_
      refine awp_seq_k (fun K4 hK4 => ?_)
      refine awp_seq_k (fun K5 hK5 => ?_)
      refine awp_ops (by kernel_rfl) rfl (fun g4 hg4 ops4 KR4 hops4 hKR4 => ?_)
      refine aops_eval 1 hops4 ?_
      simp only [go_sem, if_true, if_false]
      refine aops_lacks hops4 rfl rfl rfl rfl (noAs30) ?_
      refine aops_last 5 hops4 ?_
      simp only [go_sem, if_true, if_false]
      refine hKR4 _ ?_
      refine hK5 _ ?_
      refine awp_seq_k (fun K6 hK6 => ?_)
      refine awp_plain 6 (by kernel_rfl) rfl (fun g5 hg5 => ?_)
      simp only [go_sem, if_true, if_false]
      refine hK6 _ ?_
      refine awp_f rfl ?_
      refine awp_skip ?_
      refine hK4 _ ?_
      refine awp_seq_k (fun K7 hK7 => ?_)
      refine awp_plain 1 (by kernel_rfl) rfl (fun g7 hg7 => ?_)
      simp only [go_sem, if_true, if_false]
      refine hK7 _ ?_
      refine awp_block ?_
      refine awp_seq_k (fun K8 hK8 => ?_)
      refine awp_ops (by kernel_rfl) rfl (fun g10 hg10 ops10 KR10 hops10 hKR10 => ?_)
      refine aops_eval 0 hops10 ?_
      simp only [go_sem]
      refine aops_lacks hops10 rfl rfl rfl rfl (noUn30) ?_
      refine aops_last 2 hops10 ?_
      simp only [go_sem, if_true, if_false]
      refine hKR10 _ ?_
      refine hK8 _ ?_
      refine awp_f rfl ?_
      refine awp_seq_k (fun K9 hK9 => ?_)
      refine awp_ops (by kernel_rfl) rfl (fun g15 hg15 ops15 KR15 hops15 hKR15 => ?_)
      refine aops_eval 0 hops15 ?_
      simp only [go_sem]
      refine aops_lacks hops15 rfl rfl rfl rfl (noUs30) ?_
      refine aops_last 2 hops15 ?_
      simp only [go_sem, if_true, if_false]
      refine hKR15 _ ?_
      refine hK9 _ ?_
      refine awp_f rfl ?_
      refine awp_seq_k (fun K10 hK10 => ?_)
      refine awp_plain 1 (by kernel_rfl) rfl (fun g8 hg8 => ?_)
      simp only [go_sem, if_true, if_false]
      refine hK10 _ ?_
      refine awp_seq_k (fun K11 hK11 => ?_)
      refine awp_plain 1 (by kernel_rfl) rfl (fun g9 hg9 => ?_)
      simp only [go_sem]
      refine hK11 _ ?_
      refine awp_ret ?_
      refine ends_ev rfl ?_
      simp only [go_sem, if_true, if_false]
      exact Co.refl _
    | cons p r =>
      obtain ⟨t, y, hy⟩ := chain_iface false c a r
      refine awp_ops (by kernel_rfl) rfl (fun g1 hg1 ops1 KR1 hops1 hKR1 => ?_)
      refine aops_eval 1 hops1 ?_
      simp only [go_sem, if_true, chain, hy]
      refine aops_entry0 hops1 rfl rfl (leads_fn rfl rfl rfl) (typeOf_calls typeOf59 _ _ _) (CoL.refl _) ?_
      refine aops_eval 1 hops1 ?_
      simp only [go_sem, if_true]
      refine aops_entry0 hops1 rfl rfl (leads_method rfl rfl rfl (recvAsg _)) (asg_calls asg59_50 _ _) (CoL.refl _) ?_
      refine aops_last 0 hops1 ?_
      simp only [go_sem]
      refine hKR1 _ ?_
      refine hK3 _ ?_
      refine awp_f rfl ?_
      refine awp_skip ?_
      refine hK2 _ ?_
      refine awp_seq_k (fun K12 hK12 => ?_)
      refine awp_seq_k (fun K13 hK13 => ?_)
      refine awp_ops (by kernel_rfl) rfl (fun g4 hg4 ops4 KR4 hops4 hKR4 => ?_)
      refine aops_eval 1 hops4 ?_
      simp only [go_sem, if_true]
      refine aops_lacks hops4 rfl rfl rfl rfl (noAs59) ?_
      refine aops_last 5 hops4 ?_
      simp only [go_sem, if_true]
      refine hKR4 _ ?_
      refine hK13 _ ?_
      refine awp_seq_k (fun K14 hK14 => ?_)
      refine awp_plain 6 (by kernel_rfl) rfl (fun g5 hg5 => ?_)
      simp only [go_sem, if_true]
      refine hK14 _ ?_
      refine awp_f rfl ?_
      refine awp_skip ?_
      refine hK12 _ ?_
      refine awp_seq_k (fun K15 hK15 => ?_)
      refine awp_plain 1 (by kernel_rfl) rfl (fun g7 hg7 => ?_)
      simp only [go_sem, if_true]
      refine hK15 _ ?_
      refine awp_block ?_
      refine awp_seq_k (fun K16 hK16 => ?_)
      refine awp_ops (by kernel_rfl) rfl (fun g10 hg10 ops10 KR10 hops10 hKR10 => ?_)
      refine aops_eval 0 hops10 ?_
      simp only [go_sem]
      refine aops_has hops10 rfl rfl rfl rfl (hasUn59) ?_
      refine aops_last 2 hops10 ?_
      simp only [go_sem, if_true]
      refine hKR10 _ ?_
      refine hK16 _ ?_
      refine awp_t rfl ?_
      refine awp_seq_k (fun K17 hK17 => ?_)
      refine awp_plain 1 (by kernel_rfl) rfl (fun g11 hg11 => ?_)
      simp only [go_sem, if_true]
      refine hK17 _ ?_
      refine awp_seq_k (fun K18 hK18 => ?_)
      refine awp_ops (by kernel_rfl) rfl (fun g12 hg12 ops12 KR12 hops12 hKR12 => ?_)
      refine aops_eval 1 hops12 ?_
      simp only [go_sem, if_true]
      refine aops_inv0 hops12 rfl rfl (leads_method rfl rfl rfl (Recv.same u59 _)) (unwrapI_calls p (.iface t y) rfl _ _) (CoL.refl _) ?_
      refine aops_last 1 hops12 ?_
      simp only [go_sem, if_true]
      refine hKR12 _ ?_
      refine hK18 _ ?_
      refine awp_seq_k (fun K19 hK19 => ?_)
      refine awp_plain 2 (by kernel_rfl) rfl (fun g13 hg13 => ?_)
      simp only [go_sem, if_true]
      refine hK19 _ ?_
      refine awp_f rfl ?_
      refine awp_skip ?_
      refine ⟨_, ?_, r, rfl, le_of ?_⟩
      · simp
      simp only [go_sem, if_true, hy]
      try trivial
end Go.Proofs.T

