/- A part of the proof, under no conditions of its own: B18. -/
import Derived.Test.YtkddeobmfhchfaaDoorB16
namespace Go.Proofs.T
open Go Go.Ab Go.RowKit

theorem smPr_zero : smPr zeroPr := ⟨⟨by simp [zeroPr], by simp [zeroPr]⟩, smDe_zero.2.2.2.2.2.2.2⟩
theorem tableNil_calls (x : Ty) (m : Str) (hx : okTy x) (hm0 : m.size ≤ 9223372036854775807) (g d : Nat) : ACalls E 7 [encTy x, encS m] [] g d (dB true) [] := by
  refine acalls_of_awp (fn := Tryd.f7) (N := 80) Tryd.call7 Tryd.func7 rfl rfl (by simp) ?_
  simp only [go_sem]
  refine awp_seq_k (fun K1 hK1 => ?_)
  refine awp_plain 2 (by kernel_rfl) rfl (fun g0 hg0 => ?_)
  simp only [go_sem]
  refine hK1 _ ?_
  refine awp_seq_k (fun K2 hK2 => ?_)
  refine awp_seq_k (fun K3 hK3 => ?_)
  refine awp_ops (by kernel_rfl) rfl (fun g1 hg1 ops1 KR1 hops1 hKR1 => ?_)
  refine aops_eval 0 hops1 ?_
  simp only [go_sem]
  refine aops_pure hops1 rfl rfl rfl (awake_calls _ _) (CoL.refl _) ?_
  refine aops_eval 3 hops1 ?_
  simp only [go_sem]
  cases hfb : decide (count x 0 ≤ 200) with
  | false =>
    refine aops_pure hops1 rfl rfl rfl (few04_calls x hx _ _) (CoL.refl _) ?_
    refine aops_last 7 hops1 ?_
    simp only [go_sem, hfb]
    refine hKR1 _ ?_
    refine hK3 _ ?_
    refine awp_t rfl ?_
    refine awp_seq_k (fun K4 hK4 => ?_)
    refine awp_ops (by kernel_rfl) rfl (fun g2 hg2 ops2 KR2 hops2 hKR2 => ?_)
    refine aops_eval 0 hops2 ?_
    simp only [go_sem]
    refine aops_pure hops2 rfl rfl rfl (awake_calls _ _) (CoL.refl _) ?_
    refine aops_last 1 hops2 ?_
    simp only [go_sem]
    refine hKR2 _ ?_
    refine hK4 _ ?_
    refine awp_ret ?_
    refine ends_ev rfl ?_
    simp only [go_sem]
    exact Co.refl _
  | true =>
    by_cases hm : 300 < (m.size : Int)
    · refine aops_pure hops1 rfl rfl rfl (few04_calls x hx _ _) (CoL.refl _) ?_
      refine aops_last 7 hops1 ?_
      simp only [go_sem, hfb, hm, decide_true]
      refine hKR1 _ ?_
      refine hK3 _ ?_
      refine awp_t rfl ?_
      refine awp_seq_k (fun K5 hK5 => ?_)
      refine awp_ops (by kernel_rfl) rfl (fun g2 hg2 ops2 KR2 hops2 hKR2 => ?_)
      refine aops_eval 0 hops2 ?_
      simp only [go_sem]
      refine aops_pure hops2 rfl rfl rfl (awake_calls _ _) (CoL.refl _) ?_
      refine aops_last 1 hops2 ?_
      simp only [go_sem]
      refine hKR2 _ ?_
      refine hK5 _ ?_
      refine awp_ret ?_
      refine ends_ev rfl ?_
      simp only [go_sem]
      exact Co.refl _
    · refine aops_pure hops1 rfl rfl rfl (few04_calls x hx _ _) (CoL.refl _) ?_
      refine aops_last 7 hops1 ?_
      simp only [go_sem, hfb, hm, decide_false]
      refine hKR1 _ ?_
      refine hK3 _ ?_
      refine awp_f rfl ?_
      refine awp_skip ?_
      refine hK2 _ ?_
      refine awp_seq_k (fun K6 hK6 => ?_)
      have hms : m.size ≤ 1000000 := by omega
      refine awp_plain 1 (by kernel_rfl) rfl (fun g3 hg3 => ?_)
      simp only [go_sem]
      refine hK6 _ ?_
      refine awp_seq_k (fun K7 hK7 => ?_)
      refine awp_ops (by kernel_rfl) rfl (fun g4 hg4 ops4 KR4 hops4 hKR4 => ?_)
      refine aops_eval 2 hops4 ?_
      simp only [go_sem]
      refine aops_pure hops4 rfl rfl rfl (fieldsNil x _ _) (CoL.refl _) ?_
      refine aops_last 5 hops4 ?_
      simp only [go_sem]
      refine hKR4 _ ?_
      refine hK7 _ ?_
      refine awp_seq_k (fun K8 hK8 => ?_)
      refine awp_ops (by kernel_rfl) rfl (fun g5 hg5 ops5 KR5 hops5 hKR5 => ?_)
      refine aops_eval 2 hops5 ?_
      simp only [go_sem]
      refine aops_pure hops5 rfl rfl rfl (specsNil x _ _) (CoL.refl _) ?_
      refine aops_last 5 hops5 ?_
      simp only [go_sem]
      refine hKR5 _ ?_
      refine hK8 _ ?_
      refine awp_seq_k (fun K9 hK9 => ?_)
      refine awp_ops (by kernel_rfl) rfl (fun g6 hg6 ops6 KR6 hops6 hKR6 => ?_)
      refine aops_eval 3 hops6 ?_
      simp only [go_sem]
      refine aops_pure hops6 rfl rfl rfl (methodNil x m hms _ _) (CoL.refl _) ?_
      refine aops_last 6 hops6 ?_
      simp only [go_sem]
      refine hKR6 _ ?_
      refine hK9 _ ?_
      refine awp_seq_k (fun K10 hK10 => ?_)
      refine awp_ops (by kernel_rfl) rfl (fun g7 hg7 ops7 KR7 hops7 hKR7 => ?_)
      refine aops_eval 13 hops7 ?_
      simp only [go_sem, Bool.not_false]
      refine aops_pure hops7 rfl rfl rfl (kindNil m _ _) (CoL.refl _) ?_
      refine aops_eval 5 hops7 ?_
      simp only [go_sem, List.map_nil, decide_true]
      refine aops_pure hops7 rfl rfl rfl (fmsNil m _ _) (CoL.refl _) ?_
      refine aops_eval 6 hops7 ?_
      simp only [go_sem, List.length_nil, List.map_nil, decide_true, show ((0 : Nat) : Int) = 0 from rfl]
      refine aops_pure hops7 rfl rfl rfl (methodsNil x _ _) (CoL.refl _) ?_
      refine aops_eval 5 hops7 ?_
      simp only [go_sem, List.length_nil, List.map_nil, decide_true, show ((0 : Nat) : Int) = 0 from rfl]
      refine aops_pure hops7 rfl rfl rfl (progNil _ _) (CoL.refl _) ?_
      refine aops_eval 1 hops7 ?_
      simp only [go_sem, List.map_nil]
      refine aops_pure hops7 rfl rfl rfl (zeroPr_calls _ _ zeroPr smPr_zero.ok) (.cons (.refl _) (.cons (.agg (.cons (.nil _) (.cons (.refl _) (.cons (.refl _) (.cons (.refl _) (.cons (.nil _) (.cons (.refl _) (.cons (.nil _) (.cons (.nil _) (.cons (.refl _) .nil)))))))))) .nil)) ?_
      refine aops_last 2 hops7 ?_
      simp only [go_sem]
      refine hKR7 _ ?_
      refine hK10 _ ?_
      refine awp_ret ?_
      refine ends_ev rfl ?_
      simp only [go_sem]
      exact Co.refl _
end Go.Proofs.T

