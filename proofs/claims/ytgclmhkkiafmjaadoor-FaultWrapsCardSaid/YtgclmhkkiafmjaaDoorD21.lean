/- A part of the proof, under no conditions of its own: D21. -/
import Derived.Test.YtgclmhkkiafmjaaDoorD20
namespace Go.Proofs.T
open Go Go.Ab Go.RowKit Go.Extern.Stop Go.Stop Go.Extern

/-! ## What was wrapped is the next error of the chain -/

set_option maxRecDepth 100000 in
theorem wraps_calls (e : Err) (p : Str) (h : okEr e) (_ : p.size ≤ 9223372036854775807) (g d : Nat) : ACalls E 6 [encEr e, encS p] [] g d (dB true) [] := by
  refine acalls_of_awp (fn := Tryd.f6) (N := 63) Tryd.call6 Tryd.func6 rfl rfl (by simp) ?_
  simp only [go_sem]
  refine awp_seq_k (fun K1 hK1 => ?_)
  refine awp_plain 2 (by kernel_rfl) rfl (fun g0 hg0 => ?_)
  simp only [go_sem, encEr, erC, List.all_cons, List.all_nil]
  refine hK1 _ ?_
  refine awp_seq_k (fun K2 hK2 => ?_)
  refine awp_seq_k (fun K3 hK3 => ?_)
  refine awp_ops (by kernel_rfl) rfl (fun g1 hg1 ops1 KR1 hops1 hKR1 => ?_)
  refine aops_eval 0 hops1 ?_
  simp only [go_sem]
  cases hf : fewEr e with
  | false =>
    refine aops_pure hops1 rfl rfl rfl (awake2_calls _ _) (CoL.refl _) ?_
    refine aops_eval 3 hops1 ?_
    simp only [go_sem]
    refine aops_pure hops1 rfl rfl rfl (fewEr_calls e h _ _) (CoL.refl _) ?_
    refine aops_last 11 hops1 ?_
    simp only [go_sem, hf]
    refine hKR1 _ ?_
    refine hK3 _ ?_
    refine awp_t rfl ?_
    refine awp_seq_k (fun K4 hK4 => ?_)
    refine awp_ops (by kernel_rfl) rfl (fun g2 hg2 ops2 KR2 hops2 hKR2 => ?_)
    refine aops_eval 0 hops2 ?_
    simp only [go_sem]
    refine aops_pure hops2 rfl rfl rfl (awake2_calls _ _) (CoL.refl _) ?_
    refine aops_last 1 hops2 ?_
    simp only [go_sem]
    refine hKR2 _ ?_
    refine hK4 _ ?_
    refine awp_ret ?_
    refine ends_ev rfl ?_
    simp only [go_sem]
    exact Co.refl _
  | true =>
    cases hn : e.nil with
    | true =>
      refine aops_pure hops1 rfl rfl rfl (awake2_calls _ _) (CoL.refl _) ?_
      refine aops_eval 3 hops1 ?_
      simp only [go_sem]
      refine aops_pure hops1 rfl rfl rfl (fewEr_calls e h _ _) (co_er hn rfl) ?_
      refine aops_last 11 hops1 ?_
      simp only [go_sem, hf]
      refine hKR1 _ ?_
      refine hK3 _ ?_
      refine awp_t rfl ?_
      refine awp_seq_k (fun K5 hK5 => ?_)
      refine awp_ops (by kernel_rfl) rfl (fun g2 hg2 ops2 KR2 hops2 hKR2 => ?_)
      refine aops_eval 0 hops2 ?_
      simp only [go_sem]
      refine aops_pure hops2 rfl rfl rfl (awake2_calls _ _) (CoL.refl _) ?_
      refine aops_last 1 hops2 ?_
      simp only [go_sem]
      refine hKR2 _ ?_
      refine hK5 _ ?_
      refine awp_ret ?_
      refine ends_ev rfl ?_
      simp only [go_sem]
      exact Co.refl _
    | false =>
      by_cases h50 : (50 : Int) < (p.size : Int)
      · refine aops_pure hops1 rfl rfl rfl (awake2_calls _ _) (CoL.refl _) ?_
        refine aops_eval 3 hops1 ?_
        simp only [go_sem]
        refine aops_pure hops1 rfl rfl rfl (fewEr_calls e h _ _) (co_er hn rfl) ?_
        refine aops_last 11 hops1 ?_
        simp only [go_sem, hf, h50, decide_true]
        refine hKR1 _ ?_
        refine hK3 _ ?_
        refine awp_t rfl ?_
        refine awp_seq_k (fun K6 hK6 => ?_)
        refine awp_ops (by kernel_rfl) rfl (fun g2 hg2 ops2 KR2 hops2 hKR2 => ?_)
        refine aops_eval 0 hops2 ?_
        simp only [go_sem]
        refine aops_pure hops2 rfl rfl rfl (awake2_calls _ _) (CoL.refl _) ?_
        refine aops_last 1 hops2 ?_
        simp only [go_sem]
        refine hKR2 _ ?_
        refine hK6 _ ?_
        refine awp_ret ?_
        refine ends_ev rfl ?_
        simp only [go_sem]
        exact Co.refl _
      · obtain ⟨f1, f2, f3, f4⟩ := fewEr_spec hf
        have hpar : ∀ s ∈ e.parts.reverse, s.size ≤ 50 := fun s hs => f1 s (List.mem_reverse.1 hs)
        have hlen : e.parts.reverse.length ≤ 1000 := by rw [List.length_reverse]; omega
        obtain ⟨t, y, fn, hx, hr, hc⟩ := says_chain e.fault e.code e.at' h.2.1 e.parts.reverse hpar hlen
        have he : errD e = .iface t y := by simp [errD, hn, hx]
        have hi : ∀ k g d, ACalls E 21 [.iface 59 (.agg [encS p, .iface t y]), .iface 30 (dI k)] [] g d (dB (decide (e.code = k))) [] := fun k g d => by
          rw [← hx]
          exact Is_calls e.fault e.code e.at' k (p :: e.parts.reverse) g d
        have hk : decide (e.code = IntKind.i64.wrap (e.code + 1)) = false := by
          obtain ⟨b1, b2⟩ := h.2.1
          by_cases hm : e.code = 9223372036854775807
          · rw [hm]; rfl
          · rw [wrapN _ (by omega) (by omega)]
            exact decide_eq_false (by omega)
        refine aops_pure hops1 rfl rfl rfl (awake2_calls _ _) (CoL.refl _) ?_
        refine aops_eval 3 hops1 ?_
        simp only [go_sem]
        refine aops_pure hops1 rfl rfl rfl (fewEr_calls e h _ _) (co_er hn rfl) ?_
        refine aops_last 11 hops1 ?_
        simp only [go_sem, hf, h50, decide_false]
        refine hKR1 _ ?_
        refine hK3 _ ?_
        refine awp_f rfl ?_
        refine awp_skip ?_
        refine hK2 _ ?_
        refine awp_seq_k (fun K7 hK7 => ?_)
        refine awp_ops (by kernel_rfl) rfl (fun g3 hg3 ops3 KR3 hops3 hKR3 => ?_)
        refine aops_eval 1 hops3 ?_
        simp only [go_sem]
        refine aops_pure hops3 rfl rfl rfl (build_calls e h hf _ _) (co_er hn rfl) ?_
        refine aops_last 1 hops3 ?_
        simp only [go_sem, he]
        refine hKR3 _ ?_
        refine hK7 _ ?_
        refine awp_seq_k (fun K8 hK8 => ?_)
        refine awp_ops (by kernel_rfl) rfl (fun g4 hg4 ops4 KR4 hops4 hKR4 => ?_)
        refine aops_eval 2 hops4 ?_
        simp only [go_sem]
        refine aops_pure hops4 rfl rfl rfl (in_some p t y _ _) (CoL.refl _) ?_
        refine aops_last 1 hops4 ?_
        simp only [go_sem]
        refine hKR4 _ ?_
        refine hK8 _ ?_
        refine awp_seq_k (fun K9 hK9 => ?_)
        refine awp_seq_k (fun K10 hK10 => ?_)
        refine awp_plain 6 (by kernel_rfl) rfl (fun g5 hg5 => ?_)
        simp only [go_sem]
        refine hK10 _ ?_
        refine awp_f rfl ?_
        refine awp_skip ?_
        refine hK9 _ ?_
        refine awp_seq_k (fun K11 hK11 => ?_)
        refine awp_ops (by kernel_rfl) rfl (fun g7 hg7 ops7 KR7 hops7 hKR7 => ?_)
        refine aops_eval 1 hops7 ?_
        simp only [go_sem]
        refine aops_pure hops7 rfl rfl rfl (unwrap_calls p (.iface t y) rfl _ _) (CoL.refl _) ?_
        refine aops_last 1 hops7 ?_
        simp only [go_sem]
        refine hKR7 _ ?_
        refine hK11 _ ?_
        refine awp_seq_k (fun K12 hK12 => ?_)
        refine awp_ops (by kernel_rfl) rfl (fun g8 hg8 ops8 KR8 hops8 hKR8 => ?_)
        refine aops_eval 4 hops8 ?_
        simp only [go_sem]
        refine aops_inv0 hops8 rfl rfl (leads_method rfl rfl rfl (hr)) (hc _ _) (CoL.refl _) ?_
        refine aops_eval 1 hops8 ?_
        simp only [go_sem]
        refine aops_inv0 hops8 rfl rfl (leads_method rfl rfl rfl (hr)) (hc _ _) (CoL.refl _) ?_
        refine aops_eval 7 hops8 ?_
        simp only [go_sem, decide_true]
        refine aops_pure hops8 rfl rfl rfl (hi e.code _ _) (CoL.refl _) ?_
        refine aops_eval 7 hops8 ?_
        simp only [go_sem, decide_true]
        try simp (disch := omega) only [wrapN, wrapB, Int.tdiv_eq_ediv_of_nonneg, Int.tmod_eq_emod_of_nonneg]
        refine aops_pure hops8 rfl rfl rfl (hi _ _ _) (CoL.refl _) ?_
        refine aops_last 3 hops8 ?_
        simp only [go_sem, hk]
        refine hKR8 _ ?_
        refine hK12 _ ?_
        refine awp_ret ?_
        refine ends_ev rfl ?_
        simp only [go_sem]
        exact Co.refl _
end Go.Proofs.T

