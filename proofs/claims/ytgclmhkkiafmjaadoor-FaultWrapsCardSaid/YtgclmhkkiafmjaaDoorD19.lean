/- A part of the proof, under no conditions of its own: D19. -/
import Derived.Test.YtgclmhkkiafmjaaDoorD18
namespace Go.Proofs.T
open Go Go.Ab Go.RowKit Go.Extern.Stop Go.Stop Go.Extern

/-! ## Every error has the text, the code and the offset that it is made of -/

theorem co_er {e : Err} {b f : Bool} (hn : e.nil = b) (hf : e.fault = f) : CoL [.agg [.val (.bool b), .sl false (e.parts.map encS), .val (.int .i64 e.code), .val (.int .i64 e.at'), .val (.bool f)]] [encEr e] := by
  subst hn hf
  exact CoL.refl _
set_option maxRecDepth 100000 in
theorem finds_calls (e : Err) (h : okEr e) (g d : Nat) : ACalls E 3 [encEr e] [] g d (dB true) [] := by
  have hone : (erC e).all D.one = true := rfl
  refine acalls_of_awp (fn := Tryd.f3) (N := 89) Tryd.call3 Tryd.func3 rfl rfl (by simp) ?_
  simp only [go_sem]
  refine awp_seq_k (fun K1 hK1 => ?_)
  refine awp_plain 2 (by kernel_rfl) rfl (fun g0 hg0 => ?_)
  simp only [go_sem, encEr, erC, List.all_cons, List.all_nil]
  refine hK1 _ ?_
  refine awp_seq_k (fun K2 hK2 => ?_)
  refine awp_seq_k (fun K3 hK3 => ?_)
  refine awp_ops (by kernel_rfl) rfl (fun g1 hg1 ops1 KR1 hops1 hKR1 => ?_)
  refine aops_eval 0 hops1 ?_
  simp only [go_sem]
  cases hf : fewEr e with
  | false =>
    refine aops_pure hops1 rfl rfl rfl (awake2_calls _ _) (CoL.refl _) ?_
    refine aops_eval 3 hops1 ?_
    simp only [go_sem]
    refine aops_pure hops1 rfl rfl rfl (fewEr_calls e h _ _) (CoL.refl _) ?_
    refine aops_last 2 hops1 ?_
    simp only [go_sem, hf]
    refine hKR1 _ ?_
    refine hK3 _ ?_
    refine awp_t rfl ?_
    refine awp_seq_k (fun K4 hK4 => ?_)
    refine awp_ops (by kernel_rfl) rfl (fun g2 hg2 ops2 KR2 hops2 hKR2 => ?_)
    refine aops_eval 0 hops2 ?_
    simp only [go_sem]
    refine aops_pure hops2 rfl rfl rfl (awake2_calls _ _) (CoL.refl _) ?_
    refine aops_last 1 hops2 ?_
    simp only [go_sem]
    refine hKR2 _ ?_
    refine hK4 _ ?_
    refine awp_ret ?_
    refine ends_ev rfl ?_
    simp only [go_sem]
    exact Co.refl _
  | true =>
    refine aops_pure hops1 rfl rfl rfl (awake2_calls _ _) (CoL.refl _) ?_
    refine aops_eval 3 hops1 ?_
    simp only [go_sem]
    refine aops_pure hops1 rfl rfl rfl (fewEr_calls e h _ _) (CoL.refl _) ?_
    refine aops_last 2 hops1 ?_
    simp only [go_sem, hf]
    refine hKR1 _ ?_
    refine hK3 _ ?_
    refine awp_f rfl ?_
    refine awp_skip ?_
    refine hK2 _ ?_
    refine awp_seq_k (fun K5 hK5 => ?_)
    refine awp_ops (by kernel_rfl) rfl (fun g3 hg3 ops3 KR3 hops3 hKR3 => ?_)
    refine aops_eval 1 hops3 ?_
    simp only [go_sem]
    refine aops_pure hops3 rfl rfl rfl (build_calls e h hf _ _) (CoL.refl _) ?_
    refine aops_last 1 hops3 ?_
    simp only [go_sem]
    refine hKR3 _ ?_
    refine hK5 _ ?_
    refine awp_seq_k (fun K6 hK6 => ?_)
    refine awp_ops (by kernel_rfl) rfl (fun g4 hg4 ops4 KR4 hops4 hKR4 => ?_)
    refine aops_eval 1 hops4 ?_
    simp only [go_sem]
    refine aops_pure hops4 rfl rfl rfl (code_calls e _ _) (CoL.refl _) ?_
    refine aops_last 5 hops4 ?_
    simp only [go_sem]
    refine hKR4 _ ?_
    refine hK6 _ ?_
    refine awp_seq_k (fun K7 hK7 => ?_)
    refine awp_ops (by kernel_rfl) rfl (fun g5 hg5 ops5 KR5 hops5 hKR5 => ?_)
    refine aops_eval 1 hops5 ?_
    simp only [go_sem]
    refine aops_pure hops5 rfl rfl rfl (at_calls e _ _) (CoL.refl _) ?_
    refine aops_last 5 hops5 ?_
    simp only [go_sem]
    refine hKR5 _ ?_
    refine hK7 _ ?_
    refine awp_seq_k (fun K8 hK8 => ?_)
    refine awp_seq_k (fun K9 hK9 => ?_)
    obtain ⟨f1, f2, f3, f4⟩ := fewEr_spec hf
    cases hn : e.nil with
    | true =>
      refine awp_plain 2 (by kernel_rfl) rfl (fun g6 hg6 => ?_)
      simp only [go_sem, hn, errD, codeOf, atOf, if_true, Bool.not_true, Bool.false_and]
      refine hK9 _ ?_
      refine awp_t rfl ?_
      refine awp_seq_k (fun K10 hK10 => ?_)
      refine awp_plain 19 (by kernel_rfl) rfl (fun g7 hg7 => ?_)
      simp only [go_sem, if_true, decide_true]
      refine hK10 _ ?_
      refine awp_ret ?_
      refine ends_ev rfl ?_
      simp only [go_sem, if_true]
      exact Co.refl _
    | false =>
      obtain ⟨t, y, fn, hx, hr, hc⟩ := says_chain e.fault e.code e.at' h.2.1 e.parts.reverse (fun s hs => f1 s (List.mem_reverse.1 hs)) (by rw [List.length_reverse]; omega)
      refine awp_plain 2 (by kernel_rfl) rfl (fun g6 hg6 => ?_)
      simp only [go_sem, hn, errD, codeOf, atOf, Bool.false_eq_true, if_false, Bool.not_false, Bool.true_and, hx]
      refine hK9 _ ?_
      refine awp_f rfl ?_
      refine awp_skip ?_
      refine hK8 _ ?_
      refine awp_seq_k (fun K11 hK11 => ?_)
      cases hft : e.fault with
      | true =>
        refine awp_any 41 (by kernel_rfl) (by kernel_rfl) rfl (fun g8 hg8 ops8 KR8 hops8 hKR8 => ?_)
        refine qrun_eval 4 hops8 ?_
        simp only [go_sem, if_false, Bool.not_false, if_true]
        refine qrun_inv0 hops8 rfl rfl (leads_method rfl rfl rfl (hr)) (hc _ _) (CoL.refl _) rfl ?_
        refine qrun_eval 1 hops8 ?_
        simp only [go_sem, if_false, if_true]
        refine qrun_pure hops8 rfl rfl rfl (refText_calls e h hf _ _) (co_er hn hft) rfl ?_
        refine qrun_last 34 hops8 ?_
        simp only [go_sem, if_false, decide_true, if_true]
        refine aops_last 1 hops8 ?_
        simp only [go_sem, if_false, if_true]
        refine hKR8 _ ?_
        refine hK11 _ ?_
        refine awp_ret ?_
        refine ends_ev rfl ?_
        simp only [go_sem, if_false, if_true]
        exact Co.refl _
      | false =>
        refine awp_any 41 (by kernel_rfl) (by kernel_rfl) rfl (fun g8 hg8 ops8 KR8 hops8 hKR8 => ?_)
        refine qrun_eval 4 hops8 ?_
        simp only [go_sem, Bool.false_eq_true, if_false, Bool.not_false, if_false]
        refine qrun_inv0 hops8 rfl rfl (leads_method rfl rfl rfl (hr)) (hc _ _) (CoL.refl _) rfl ?_
        refine qrun_eval 1 hops8 ?_
        simp only [go_sem, if_false, if_false]
        refine qrun_pure hops8 rfl rfl rfl (refText_calls e h hf _ _) (co_er hn hft) rfl ?_
        refine qrun_last 34 hops8 ?_
        simp only [go_sem, if_false, Bool.not_false, decide_true, if_false]
        refine aops_last 1 hops8 ?_
        simp only [go_sem, if_false, if_false]
        refine hKR8 _ ?_
        refine hK11 _ ?_
        refine awp_ret ?_
        refine ends_ev rfl ?_
        simp only [go_sem, if_false, if_false]
        exact Co.refl _
end Go.Proofs.T

