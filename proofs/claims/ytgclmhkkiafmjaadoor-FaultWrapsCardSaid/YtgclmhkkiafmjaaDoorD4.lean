/- A part of the proof, under no conditions of its own: D4. -/
import Derived.Test.YtgclmhkkiafmjaaDoorD3
namespace Go.Proofs.T
open Go Go.Ab Go.RowKit

/-! ## An error out of its description -/

theorem rev_take {l : List Str} {k : Nat} (h : k < l.length) : (l.take (k + 1)).reverse = l[k] :: (l.take k).reverse := by
  rw [List.take_add_one, List.getElem?_eq_getElem h, List.reverse_append]
  rfl
theorem fewEr_spec {e : Err} (h : fewEr e = true) : (∀ s ∈ e.parts, s.size ≤ 50) ∧ e.parts.length ≤ 20 ∧ -1152921504606846976 < e.at' ∧ e.at' < 1152921504606846976 := by
  simp only [fewEr, Bool.and_eq_true, decide_eq_true_eq] at h
  obtain ⟨⟨⟨h1, h2⟩, h3⟩, h4⟩ := h
  exact ⟨fun s hs => of_decide_eq_true (List.all_eq_true.1 h1 s hs), h2, h3, h4⟩
theorem chain_iface (f : Bool) (c a : Int) (l : List Str) : ∃ t y, chain f c a l = .iface t y := by
  cases l with
  | nil => cases f <;> exact ⟨_, _, rfl⟩
  | cons p r => exact ⟨_, _, rfl⟩

set_option maxRecDepth 100000 in
theorem refText_calls (e : Err) (h : okEr e) (hf : fewEr e = true) (g d : Nat) : ACalls E 12 [encEr e] [] g d (encS (textL e.code e.parts.reverse)) [] := by
  obtain ⟨⟨h1, h2⟩, h3, h4⟩ := h
  obtain ⟨f1, f2, f3, f4⟩ := fewEr_spec hf
  have hz : 6 + (decI e.code).size ≤ 9223372036854775807 := by
    have := decI_size h3
    omega
  refine acalls_of_awp (fn := Tryd.f12) (N := 25) Tryd.call12 Tryd.func12 rfl rfl (by simp) ?_
  simp only [go_sem]
  refine awp_seq_k (fun K1 hK1 => ?_)
  refine awp_plain 2 (by kernel_rfl) rfl (fun g0 hg0 => ?_)
  simp only [go_sem, encEr, erC, List.all_cons, List.all_nil]
  refine hK1 _ ?_
  refine awp_seq_k (fun K2 hK2 => ?_)
  refine awp_ops (by kernel_rfl) rfl (fun g1 hg1 ops1 KR1 hops1 hKR1 => ?_)
  refine aops_eval 2 hops1 ?_
  simp only [go_sem]
  refine aops_pure hops1 rfl rfl rfl (decI_calls e.code h3 _ _) (CoL.refl _) ?_
  refine aops_last 2 hops1 ?_
  simp only [go_sem, hz]
  try simp (disch := omega) only [wrapN, wrapB, Int.tdiv_eq_ediv_of_nonneg, Int.tmod_eq_emod_of_nonneg]
  refine hKR1 _ ?_
  refine hK2 _ ?_
  refine awp_seq_k (fun K3 hK3 => ?_)
  refine awp_seq_k (fun K4 hK4 => ?_)
  refine awp_plain 1 (by kernel_rfl) rfl (fun g2 hg2 => ?_)
  simp only [go_sem]
  refine hK4 _ ?_
  refine awp_block ?_
  refine awp_loop (fun m s => ∃ k, k ≤ e.parts.length ∧ m = e.parts.length - k ∧
      Le { env := [(1, .ptr ⟨g0, 1, 0⟩ 0), (4, dN k), (3, encS (textL e.code (e.parts.take k).reverse))], σ := [(⟨g0, 1, 0⟩, .box 24 (erC e))] } s) e.parts.length ?_ ?_
  · refine ⟨0, Nat.zero_le _, rfl, le_of ?_⟩
    simp only [go_sem, List.take_zero, List.reverse_nil, textL, textE, sErr, erC]
    trivial
  · rintro m s ⟨k, hk, rfl, hle⟩
    refine awp_keep hle ?_
    clear hle
    refine awp_seq_k (fun K5 hK5 => ?_)
    refine awp_seq_k (fun K6 hK6 => ?_)
    by_cases hlt : k < e.parts.length
    · have hp := f1 _ (List.getElem_mem hlt)
      have ht := textL_size h3 (e.parts.take k).reverse (fun s hs => f1 s (List.mem_of_mem_take (List.mem_reverse.1 hs)))
      rw [List.length_reverse, List.length_take] at ht
      have hz1 : e.parts[k].size + 2 ≤ 9223372036854775807 := by omega
      have hz2 : e.parts[k].size + 2 + (textL e.code (e.parts.take k).reverse).size ≤ 9223372036854775807 := by omega
      refine awp_plain 5 (by kernel_rfl) rfl (fun g3 hg3 => ?_)
      simp only [go_sem, hlt, erC, erC]
      refine hK6 _ ?_
      refine awp_t rfl ?_
      refine awp_skip ?_
      refine hK5 _ ?_
      refine awp_seq_k (fun K7 hK7 => ?_)
      refine awp_block ?_
      refine awp_plain 9 (by kernel_rfl) rfl (fun g5 hg5 => ?_)
      simp only [go_sem, getM hlt, hz1, hz2]
      try simp (disch := omega) only [wrapN, wrapB, Int.tdiv_eq_ediv_of_nonneg, Int.tmod_eq_emod_of_nonneg]
      refine hK7 _ ?_
      refine awp_plain 3 (by kernel_rfl) rfl (fun g4 hg4 => ?_)
      simp only [go_sem, erC, erC]
      try simp (disch := omega) only [wrapN]
      refine ⟨_, ?_, k + 1, hlt, rfl, le_of ?_⟩
      · omega
      simp only [go_sem, rev_take hlt, textL, sSep]
      trivial
    · have : k = e.parts.length := by omega
      subst this
      refine awp_plain 5 (by kernel_rfl) rfl (fun g3 hg3 => ?_)
      simp only [go_sem, hlt, erC, erC]
      refine hK6 _ ?_
      refine awp_f rfl ?_
      refine awp_exit ?_
      refine hK3 _ ?_
      refine awp_seq_k (fun K8 hK8 => ?_)
      refine awp_plain 2 (by kernel_rfl) rfl (fun g6 hg6 => ?_)
      simp only [go_sem]
      refine hK8 _ ?_
      refine awp_ret ?_
      refine ends_ev rfl ?_
      simp only [go_sem]
      exact Co.refl _
set_option maxRecDepth 100000 in
theorem build_calls (e : Err) (h : okEr e) (hf : fewEr e = true) (g d : Nat) : ACalls E 9 [encEr e] [] g d (errD e) [] := by
  obtain ⟨⟨h1, h2⟩, h3, h4⟩ := h
  obtain ⟨f1, f2, f3, f4⟩ := fewEr_spec hf
  unfold errD
  refine acalls_of_awp (fn := Tryd.f9) (N := 33) Tryd.call9 Tryd.func9 rfl rfl (by simp) ?_
  simp only [go_sem]
  refine awp_seq_k (fun K1 hK1 => ?_)
  refine awp_plain 2 (by kernel_rfl) rfl (fun g0 hg0 => ?_)
  simp only [go_sem, encEr, erC, List.all_cons, List.all_nil]
  refine hK1 _ ?_
  refine awp_seq_k (fun K2 hK2 => ?_)
  refine awp_seq_k (fun K3 hK3 => ?_)
  cases hn : e.nil with
  | true =>
    refine awp_plain 2 (by kernel_rfl) rfl (fun g1 hg1 => ?_)
    simp only [go_sem]
    refine hK3 _ ?_
    refine awp_t rfl ?_
    refine awp_seq_k (fun K4 hK4 => ?_)
    refine awp_plain 1 (by kernel_rfl) rfl (fun g2 hg2 => ?_)
    simp only [go_sem]
    refine hK4 _ ?_
    refine awp_ret ?_
    refine ends_ev rfl ?_
    simp only [go_sem]
    exact Co.of_eq (by simp [hn])
  | false =>
    refine awp_plain 2 (by kernel_rfl) rfl (fun g1 hg1 => ?_)
    simp only [go_sem]
    refine hK3 _ ?_
    refine awp_f rfl ?_
    refine awp_skip ?_
    refine hK2 _ ?_
    refine awp_seq_k (fun K5 hK5 => ?_)
    refine awp_plain 4 (by kernel_rfl) rfl (fun g3 hg3 => ?_)
    simp only [go_sem]
    refine hK5 _ ?_
    refine awp_seq_k (fun K6 hK6 => ?_)
    refine awp_seq_k (fun K7 hK7 => ?_)
    cases hft : e.fault with
    | true =>
      refine awp_plain 2 (by kernel_rfl) rfl (fun g4 hg4 => ?_)
      simp only [go_sem]
      refine hK7 _ ?_
      refine awp_t rfl ?_
      refine awp_plain 7 (by kernel_rfl) rfl (fun g5 hg5 => ?_)
      simp only [go_sem, List.all_cons, List.all_nil]
      refine hK6 _ ?_
      refine awp_seq_k (fun K8 hK8 => ?_)
      refine awp_seq_k (fun K9 hK9 => ?_)
      refine awp_plain 1 (by kernel_rfl) rfl (fun g6 hg6 => ?_)
      simp only [go_sem]
      refine hK9 _ ?_
      refine awp_block ?_
      refine awp_loop (fun m s => ∃ k, k ≤ e.parts.length ∧ m = e.parts.length - k ∧
            Le { env := [(1, .ptr ⟨g0, 1, 0⟩ 0), (4, dN k), (3, chain e.fault e.code e.at' (e.parts.take k).reverse)], σ := [(⟨g0, 1, 0⟩, .box 24 (erC e))] } s) e.parts.length ?_ ?_
      · refine ⟨0, Nat.zero_le _, rfl, le_of ?_⟩
        simp only [go_sem, List.take_zero, List.reverse_nil, chain, baseE, hft, hn, if_true, if_false, erC]
        trivial
      · rintro m s ⟨k, hk, rfl, hle⟩
        refine awp_keep hle ?_
        clear hle
        refine awp_seq_k (fun K10 hK10 => ?_)
        refine awp_seq_k (fun K11 hK11 => ?_)
        by_cases hlt : k < e.parts.length
        · obtain ⟨t, y, hy⟩ := chain_iface e.fault e.code e.at' (e.parts.take k).reverse
          refine awp_plain 5 (by kernel_rfl) rfl (fun g7 hg7 => ?_)
          simp only [go_sem, hlt, erC, erC]
          refine hK11 _ ?_
          refine awp_t rfl ?_
          refine awp_skip ?_
          refine hK10 _ ?_
          refine awp_seq_k (fun K12 hK12 => ?_)
          refine awp_block ?_
          refine awp_ops (by kernel_rfl) rfl (fun g9 hg9 ops9 KR9 hops9 hKR9 => ?_)
          refine aops_eval 6 hops9 ?_
          simp only [go_sem, getM hlt, hy]
          refine aops_pure hops9 rfl rfl rfl (in_some e.parts[k] t y _ _) (CoL.refl _) ?_
          refine aops_last 1 hops9 ?_
          simp only [go_sem]
          refine hKR9 _ ?_
          refine hK12 _ ?_
          refine awp_plain 3 (by kernel_rfl) rfl (fun g8 hg8 => ?_)
          simp only [go_sem, erC, erC]
          try simp (disch := omega) only [wrapN]
          refine ⟨_, ?_, k + 1, hlt, rfl, le_of ?_⟩
          · omega
          simp only [go_sem, rev_take hlt, chain, hy]
          trivial
        · have : k = e.parts.length := by omega
          subst this
          refine awp_plain 5 (by kernel_rfl) rfl (fun g7 hg7 => ?_)
          simp only [go_sem, hlt, erC, erC]
          refine hK11 _ ?_
          refine awp_f rfl ?_
          refine awp_exit ?_
          refine hK8 _ ?_
          refine awp_seq_k (fun K13 hK13 => ?_)
          refine awp_plain 2 (by kernel_rfl) rfl (fun g10 hg10 => ?_)
          simp only [go_sem]
          refine hK13 _ ?_
          refine awp_ret ?_
          refine ends_ev rfl ?_
          simp only [go_sem]
          exact Co.of_eq (by simp [hn])
    | false =>
      refine awp_plain 2 (by kernel_rfl) rfl (fun g4 hg4 => ?_)
      simp only [go_sem]
      refine hK7 _ ?_
      refine awp_f rfl ?_
      refine awp_skip ?_
      refine hK6 _ ?_
      refine awp_seq_k (fun K14 hK14 => ?_)
      refine awp_seq_k (fun K15 hK15 => ?_)
      refine awp_plain 1 (by kernel_rfl) rfl (fun g6 hg6 => ?_)
      simp only [go_sem]
      refine hK15 _ ?_
      refine awp_block ?_
      refine awp_loop (fun m s => ∃ k, k ≤ e.parts.length ∧ m = e.parts.length - k ∧
            Le { env := [(1, .ptr ⟨g0, 1, 0⟩ 0), (4, dN k), (3, chain e.fault e.code e.at' (e.parts.take k).reverse)], σ := [(⟨g0, 1, 0⟩, .box 24 (erC e))] } s) e.parts.length ?_ ?_
      · refine ⟨0, Nat.zero_le _, rfl, le_of ?_⟩
        simp only [go_sem, List.take_zero, List.reverse_nil, chain, baseE, hft, hn, if_true, Bool.false_eq_true, if_false, erC]
        trivial
      · rintro m s ⟨k, hk, rfl, hle⟩
        refine awp_keep hle ?_
        clear hle
        refine awp_seq_k (fun K16 hK16 => ?_)
        refine awp_seq_k (fun K17 hK17 => ?_)
        by_cases hlt : k < e.parts.length
        · obtain ⟨t, y, hy⟩ := chain_iface e.fault e.code e.at' (e.parts.take k).reverse
          refine awp_plain 5 (by kernel_rfl) rfl (fun g7 hg7 => ?_)
          simp only [go_sem, hlt, erC, erC]
          refine hK17 _ ?_
          refine awp_t rfl ?_
          refine awp_skip ?_
          refine hK16 _ ?_
          refine awp_seq_k (fun K18 hK18 => ?_)
          refine awp_block ?_
          refine awp_ops (by kernel_rfl) rfl (fun g9 hg9 ops9 KR9 hops9 hKR9 => ?_)
          refine aops_eval 6 hops9 ?_
          simp only [go_sem, getM hlt, hy]
          refine aops_pure hops9 rfl rfl rfl (in_some e.parts[k] t y _ _) (CoL.refl _) ?_
          refine aops_last 1 hops9 ?_
          simp only [go_sem]
          refine hKR9 _ ?_
          refine hK18 _ ?_
          refine awp_plain 3 (by kernel_rfl) rfl (fun g8 hg8 => ?_)
          simp only [go_sem, erC, erC]
          try simp (disch := omega) only [wrapN]
          refine ⟨_, ?_, k + 1, hlt, rfl, le_of ?_⟩
          · omega
          simp only [go_sem, rev_take hlt, chain, hy]
          trivial
        · have : k = e.parts.length := by omega
          subst this
          refine awp_plain 5 (by kernel_rfl) rfl (fun g7 hg7 => ?_)
          simp only [go_sem, hlt, erC, erC]
          refine hK17 _ ?_
          refine awp_f rfl ?_
          refine awp_exit ?_
          refine hK14 _ ?_
          refine awp_seq_k (fun K19 hK19 => ?_)
          refine awp_plain 2 (by kernel_rfl) rfl (fun g10 hg10 => ?_)
          simp only [go_sem]
          refine hK19 _ ?_
          refine awp_ret ?_
          refine ends_ev rfl ?_
          simp only [go_sem]
          exact Co.of_eq (by simp [hn])
end Go.Proofs.T

