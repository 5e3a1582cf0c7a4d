/- A part of the proof, under no conditions of its own: C6. -/
import Derived.Test.YtjhencaobpihnaaGreatDoorC5
namespace Go.Proofs.T
open Go Go.Ab Go.RowKit

/-! ## The reference: missing names -/

theorem sigs12_calls (l : List Sig) (hl : l.length ≤ 9223372036854775807) (h : ∀ s ∈ l, okSi s) (g d : Nat) : ACalls E 15 [slSi l, slSi l] [] g d (dB true) [] := by
  refine acalls_of_awp (fn := Tryz.f15) (N := 27) Tryz.call15 Tryz.func15 rfl rfl (by simp) ?_
  simp only [go_sem]
  refine awp_seq_k (fun K1 hK1 => ?_)
  refine awp_plain 1 (by kernel_rfl) rfl (fun g0 hg0 => ?_)
  simp only [go_sem]
  refine hK1 _ ?_
  refine awp_seq_k (fun K2 hK2 => ?_)
  refine awp_seq_k (fun K3 hK3 => ?_)
  refine awp_plain 5 (by kernel_rfl) rfl (fun g1 hg1 => ?_)
  simp only [go_sem, decide_true, Bool.not_true]
  refine hK3 _ ?_
  refine awp_f rfl ?_
  refine awp_skip ?_
  refine hK2 _ ?_
  refine awp_seq_k (fun K4 hK4 => ?_)
  refine awp_seq_k (fun K5 hK5 => ?_)
  refine awp_plain 1 (by kernel_rfl) rfl (fun g3 hg3 => ?_)
  simp only [go_sem]
  refine hK5 _ ?_
  refine awp_block ?_
  refine awp_loop (fun m s => ∃ k, k ≤ l.length ∧ m = l.length - k ∧ Le { env := [(0, slSi l), (1, slSi l), (5, dN k)], σ := [] } s) l.length ?_ ?_
  · refine ⟨0, Nat.zero_le _, rfl, le_of ?_⟩
    simp only [go_sem]
    trivial
  · rintro m s ⟨k, hk, rfl, hle⟩
    refine awp_keep hle ?_
    clear hle
    by_cases hlt : k < l.length
    · have hs := refSi_self true l[k]
      refine awp_seq_k (fun K6 hK6 => ?_)
      refine awp_seq_k (fun K7 hK7 => ?_)
      refine awp_plain 4 (by kernel_rfl) rfl (fun g4 hg4 => ?_)
      simp only [go_sem, hlt]
      refine hK7 _ ?_
      refine awp_t rfl ?_
      refine awp_skip ?_
      refine hK6 _ ?_
      refine awp_seq_k (fun K8 hK8 => ?_)
      refine awp_block ?_
      refine awp_seq_k (fun K9 hK9 => ?_)
      refine awp_anyq (by kernel_rfl) rfl (fun g6 hg6 ops6 KR6 hops6 hKR6 => ?_)
      refine qrun_eval 8 hops6 ?_
      simp only [go_sem, getM hlt]
      refine qrun_pure hops6 rfl rfl rfl (refSig_calls true l[k] l[k] (h _ (List.getElem_mem hlt)) _ _) (CoL.refl _) rfl ?_
      refine qrun_last 1 hops6 ?_
      simp only [go_sem, hs, Bool.not_true]
      refine hKR6 _ ?_
      refine hK9 _ ?_
      refine awp_f rfl ?_
      refine awp_skip ?_
      refine hK8 _ ?_
      refine awp_plain 3 (by kernel_rfl) rfl (fun g5 hg5 => ?_)
      simp only [go_sem]
      try simp (disch := omega) only [wrapN]
      refine ⟨_, ?_, k + 1, hlt, rfl, le_of ?_⟩
      · omega
      simp only [go_sem]
      omega
    · refine awp_seq_k (fun K10 hK10 => ?_)
      refine awp_seq_k (fun K11 hK11 => ?_)
      refine awp_plain 4 (by kernel_rfl) rfl (fun g4 hg4 => ?_)
      simp only [go_sem, hlt]
      refine hK11 _ ?_
      refine awp_f rfl ?_
      refine awp_exit ?_
      refine hK4 _ ?_
      refine awp_seq_k (fun K12 hK12 => ?_)
      refine awp_plain 1 (by kernel_rfl) rfl (fun g8 hg8 => ?_)
      simp only [go_sem]
      refine hK12 _ ?_
      refine awp_ret ?_
      refine ends_ev rfl ?_
      simp only [go_sem]
      exact Co.refl _


theorem refFind12_calls (l : List Sig) (m : Str) (hl : l.length ≤ 9223372036854775807) (g d : Nat) :
    ACalls E 14 [slSi l, encS m] [] g d (dI (optI (findSi l m))) [] := by
  unfold findSi
  refine acalls_of_awp (fn := Tryz.f14) (N := 20) Tryz.call14 Tryz.func14 rfl rfl (by simp) ?_
  simp only [go_sem]
  refine awp_seq_k (fun K1 hK1 => ?_)
  refine awp_plain 1 (by kernel_rfl) rfl (fun g0 hg0 => ?_)
  simp only [go_sem]
  refine hK1 _ ?_
  refine awp_seq_k (fun K2 hK2 => ?_)
  refine awp_seq_k (fun K3 hK3 => ?_)
  refine awp_plain 1 (by kernel_rfl) rfl (fun g1 hg1 => ?_)
  simp only [go_sem]
  refine hK3 _ ?_
  refine awp_block ?_
  refine awp_loop (fun i s => ∃ k, k ≤ l.length ∧ i = l.length - k ∧ (l.findIdx? fun f => decide (f.name = m)) = ((l.drop k).findIdx? fun f => decide (f.name = m)).map (· + k) ∧
      Le { env := [(0, slSi l), (1, encS m), (5, dN k)], σ := [] } s) l.length ?_ ?_
  · refine ⟨0, Nat.zero_le _, rfl, by simp, le_of ?_⟩
    simp only [go_sem]
    trivial
  · rintro i s ⟨k, hk, rfl, hf, hle⟩
    refine awp_keep hle ?_
    clear hle
    by_cases h : k < l.length
    · rw [findD _ _ _ h] at hf
      refine awp_seq_k (fun K4 hK4 => ?_)
      refine awp_seq_k (fun K5 hK5 => ?_)
      refine awp_plain 4 (by kernel_rfl) rfl (fun g2 hg2 => ?_)
      simp only [go_sem, h]
      refine hK5 _ ?_
      refine awp_t rfl ?_
      refine awp_skip ?_
      refine hK4 _ ?_
      refine awp_seq_k (fun K6 hK6 => ?_)
      refine awp_block ?_
      refine awp_seq_k (fun K7 hK7 => ?_)
      by_cases he : l[k].name = m
      · rw [if_pos (by simp [he])] at hf
        refine awp_plain 7 (by kernel_rfl) rfl (fun g4 hg4 => ?_)
        simp only [go_sem, getM h, he, siC, encSi]
        refine hK7 _ ?_
        refine awp_t rfl ?_
        refine awp_seq_k (fun K8 hK8 => ?_)
        refine awp_plain 2 (by kernel_rfl) rfl (fun g5 hg5 => ?_)
        simp only [go_sem]
        refine hK8 _ ?_
        refine awp_ret ?_
        rw [hf]
        refine ends_ev rfl ?_
        simp only [go_sem]
        exact Co.of_eq (by simp [optI])
      · rw [if_neg (by simp [he])] at hf
        refine awp_plain 7 (by kernel_rfl) rfl (fun g4 hg4 => ?_)
        simp only [go_sem, getM h, he, siC, encSi]
        refine hK7 _ ?_
        refine awp_f rfl ?_
        refine awp_skip ?_
        refine hK6 _ ?_
        refine awp_plain 3 (by kernel_rfl) rfl (fun g3 hg3 => ?_)
        simp only [go_sem]
        try simp (disch := omega) only [wrapN]
        refine ⟨_, ?_, k + 1, h, rfl, ?_, le_of ?_⟩
        · omega
        · rw [hf]; simp [Option.map_map, Function.comp_def, Nat.add_comm, Nat.add_left_comm]
        simp only [go_sem]
        omega
    · rw [dropN l k (by omega)] at hf
      refine awp_seq_k (fun K9 hK9 => ?_)
      refine awp_seq_k (fun K10 hK10 => ?_)
      refine awp_plain 4 (by kernel_rfl) rfl (fun g2 hg2 => ?_)
      simp only [go_sem, h]
      refine hK10 _ ?_
      refine awp_f rfl ?_
      refine awp_exit ?_
      refine hK2 _ ?_
      refine awp_seq_k (fun K11 hK11 => ?_)
      refine awp_plain 1 (by kernel_rfl) rfl (fun g6 hg6 => ?_)
      simp only [go_sem]
      refine hK11 _ ?_
      refine awp_ret ?_
      rw [hf]
      refine ends_ev rfl ?_
      simp only [go_sem]
      exact Co.of_eq (by simp [optI])

theorem refMissing12_calls (a b : List Sig) (ha : a.length ≤ 1000000) (ha2 : ∀ s ∈ a, smSi s) (hb : b.length ≤ 1000000) (hb2 : ∀ s ∈ b, smSi s) (g d : Nat) :
    ACalls E 20 [slSi a, slSi b] [] g d (slS (missL a b)) [] := by
  refine acalls_of_awp (fn := Tryz.f20) (N := 44) Tryz.call20 Tryz.func20 rfl rfl (by simp) ?_
  simp only [go_sem]
  refine awp_seq_k (fun K1 hK1 => ?_)
  refine awp_plain 1 (by kernel_rfl) rfl (fun g0 hg0 => ?_)
  simp only [go_sem]
  refine hK1 _ ?_
  refine awp_seq_k (fun K2 hK2 => ?_)
  refine awp_plain 1 (by kernel_rfl) rfl (fun g1 hg1 => ?_)
  simp only [go_sem]
  refine hK2 _ ?_
  refine awp_seq_k (fun K3 hK3 => ?_)
  refine awp_seq_k (fun K4 hK4 => ?_)
  refine awp_plain 1 (by kernel_rfl) rfl (fun g2 hg2 => ?_)
  simp only [go_sem]
  refine hK4 _ ?_
  refine awp_block ?_
  refine awp_nil 5 9 1 rfl fun gn hgn => ?_
  refine awp_loop (fun m s => ∃ k a' i n, k ≤ b.length ∧ m = b.length - k ∧ n = (missL a (b.take k)).length ∧
      Le { env := [(0, slSi a), (1, slSi b), (6, dN k), (5, .own ⟨a', i, 0⟩ n)], σ := [(⟨a', i, 0⟩, .arr 9 1 ((missL a (b.take k)).map encS))] } s) b.length ?_ ?_
  · refine ⟨0, gn, 0, 0, Nat.zero_le _, rfl, rfl, le_of ?_⟩
    simp only [go_sem, missL, List.take_zero, List.filter_nil, List.map_nil]
    try trivial
  · rintro m s ⟨k, a', i, n, hk, rfl, hn, hle⟩
    refine awp_keep hle ?_
    clear hle
    by_cases hlt : k < b.length
    · have hss := missL_succ a b k hlt
      have hml := missL_len a (b.take k)
      have hmk : (b.take k).length ≤ k := by rw [List.length_take]; omega
      have hbk := hb2 _ (List.getElem_mem hlt)
      refine awp_seq_k (fun K5 hK5 => ?_)
      refine awp_seq_k (fun K6 hK6 => ?_)
      refine awp_plain 4 (by kernel_rfl) rfl (fun g3 hg3 => ?_)
      simp only [go_sem, hlt]
      refine hK6 _ ?_
      refine awp_t rfl ?_
      refine awp_skip ?_
      refine hK5 _ ?_
      refine awp_seq_k (fun K7 hK7 => ?_)
      refine awp_block ?_
      refine awp_seq_k (fun K8 hK8 => ?_)
      refine awp_ops (by kernel_rfl) rfl (fun g5 hg5 ops5 KR5 hops5 hKR5 => ?_)
      refine aops_eval 6 hops5 ?_
      simp only [go_sem, getM hlt, siC, encSi]
      refine aops_pure hops5 rfl rfl rfl (refFind12_calls a b[k].name (by omega) _ _) (CoL.refl _) ?_
      refine aops_last 1 hops5 ?_
      simp only [go_sem]
      refine hKR5 _ ?_
      refine hK8 _ ?_
      refine awp_seq_k (fun K9 hK9 => ?_)
      have hn5_a' : g5 ≠ a' := fresh_g hg5 i 0 (by simp [go_sem])
      cases hf : findSi a b[k].name with
      | none =>
        have hcv : covered a b[k] = false := by simp [covered, hf]
        have h0 : ((-1 : Int) < 0) = True := by simp
        rw [hcv, if_neg (by simp)] at hss
        refine awp_anyq (by kernel_rfl) rfl (fun g6 hg6 ops6 KR6 hops6 hKR6 => ?_)
        refine qrun_last 14 hops6 ?_
        simp only [go_sem, optI, h0, decide_true]
        refine hKR6 _ ?_
        refine hK9 _ ?_
        refine awp_t rfl ?_
        refine awp_ops (by kernel_rfl) rfl (fun g7 hg7 ops7 KR7 hops7 hKR7 => ?_)
        refine aops_eval 7 hops7 ?_
        simp only [go_sem, getM hlt, siC, encSi]
        refine aops_app hops7 rfl rfl rfl rfl rfl es56 sz9 by9 ze9 rfl (by decide) ?_
        simp only [go_sem]
        first | refine ⟨⟨by omega, by omega⟩, ?_⟩ | skip
        refine aops_last 1 hops7 ?_
        simp only [go_sem]
        refine hKR7 _ ?_
        refine hK7 _ ?_
        refine awp_plain 3 (by kernel_rfl) rfl (fun g4 hg4 => ?_)
        simp only [go_sem]
        try simp (disch := omega) only [wrapN]
        refine ⟨_, ?_, k + 1, g7, 42, n + 1, hlt, rfl, by rw [hss, List.length_append, hn]; rfl, le_of ?_⟩
        · omega
        simp only [go_sem, hss, List.map_append, List.map_cons, List.map_nil, encS]
        first | exact ⟨⟨by omega, hn.symm⟩, rfl⟩ | exact ⟨by omega, by omega, hn.symm⟩ | exact ⟨by omega, hn.symm⟩ | (constructor <;> first | omega | rfl) | omega
      | some j =>
        have hf' : a.findIdx? (fun s => decide (s.name = b[k].name)) = some j := hf
        obtain ⟨hj, _⟩ := List.findIdx?_eq_some_iff_getElem.1 hf'
        have hgs : getSi a b[k].name = a[j] := by simp [getSi, hf, hj]
        have h0 : ¬ (j : Int) < 0 := by omega
        have haj := ha2 _ (List.getElem_mem hj)
        cases hal : alike a[j] b[k] with
        | false =>
          have hcv : covered a b[k] = false := by simp [covered, hgs, hal]
          rw [hcv, if_neg (by simp)] at hss
          refine awp_anyq (by kernel_rfl) rfl (fun g6 hg6 ops6 KR6 hops6 hKR6 => ?_)
          refine qrun_eval 11 hops6 ?_
          simp only [go_sem, optI, h0, decide_false, getM hlt, getM hj, siC, encSi]
          refine qrun_pure hops6 rfl rfl rfl (refAlike_calls a[j] b[k] haj hbk _ _) (CoL.refl _) rfl ?_
          refine qrun_last 2 hops6 ?_
          simp only [go_sem, hal, Bool.not_false]
          refine hKR6 _ ?_
          refine hK9 _ ?_
          refine awp_t rfl ?_
          refine awp_ops (by kernel_rfl) rfl (fun g7 hg7 ops7 KR7 hops7 hKR7 => ?_)
          refine aops_eval 7 hops7 ?_
          simp only [go_sem, getM hlt, siC, encSi]
          refine aops_app hops7 rfl rfl rfl rfl rfl es56 sz9 by9 ze9 rfl (by decide) ?_
          simp only [go_sem]
          first | refine ⟨⟨by omega, by omega⟩, ?_⟩ | skip
          refine aops_last 1 hops7 ?_
          simp only [go_sem]
          refine hKR7 _ ?_
          refine hK7 _ ?_
          refine awp_plain 3 (by kernel_rfl) rfl (fun g4 hg4 => ?_)
          simp only [go_sem]
          try simp (disch := omega) only [wrapN]
          refine ⟨_, ?_, k + 1, g7, 42, n + 1, hlt, rfl, by rw [hss, List.length_append, hn]; rfl, le_of ?_⟩
          · omega
          simp only [go_sem, hss, List.map_append, List.map_cons, List.map_nil, encS]
          first | exact ⟨⟨by omega, hn.symm⟩, rfl⟩ | exact ⟨by omega, by omega, hn.symm⟩ | exact ⟨by omega, hn.symm⟩ | (constructor <;> first | omega | rfl) | omega
        | true =>
          have hcv : covered a b[k] = true := by simp [covered, hgs, hal, hf]
          rw [hcv, if_pos rfl] at hss
          refine awp_anyq (by kernel_rfl) rfl (fun g6 hg6 ops6 KR6 hops6 hKR6 => ?_)
          refine qrun_eval 11 hops6 ?_
          simp only [go_sem, optI, h0, decide_false, getM hlt, getM hj, siC, encSi]
          refine qrun_pure hops6 rfl rfl rfl (refAlike_calls a[j] b[k] haj hbk _ _) (CoL.refl _) rfl ?_
          refine qrun_last 2 hops6 ?_
          simp only [go_sem, hal, Bool.not_true]
          refine hKR6 _ ?_
          refine hK9 _ ?_
          refine awp_f rfl ?_
          refine awp_skip ?_
          refine hK7 _ ?_
          refine awp_plain 3 (by kernel_rfl) rfl (fun g4 hg4 => ?_)
          simp only [go_sem]
          try simp (disch := omega) only [wrapN]
          refine ⟨_, ?_, k + 1, a', i, n, hlt, rfl, by rw [hss]; exact hn, le_of ?_⟩
          · omega
          simp only [go_sem, hss]
          omega
    · refine awp_seq_k (fun K10 hK10 => ?_)
      refine awp_seq_k (fun K11 hK11 => ?_)
      refine awp_plain 4 (by kernel_rfl) rfl (fun g3 hg3 => ?_)
      simp only [go_sem, hlt]
      refine hK11 _ ?_
      refine awp_f rfl ?_
      refine awp_exit ?_
      refine hK3 _ ?_
      refine awp_seq_k (fun K12 hK12 => ?_)
      have : k = b.length := by omega
      subst this
      refine awp_plain 2 (by kernel_rfl) rfl (fun g8 hg8 => ?_)
      simp only [go_sem]
      refine hK12 _ ?_
      refine awp_ret ?_
      refine ret_frz ⟨a', i, 0⟩ ?_
      simp only [go_sem]
      refine ends_ev rfl ?_
      simp only [go_sem]
      exact Co.of_eq (by simp [])

theorem equalS_calls (l : List Str) (hl : l.length ≤ 9223372036854775807) (g d : Nat) : ACalls E 21 [slS l, slS l] [] g d (dB true) [] := by
  refine acalls_of_awp (fn := Tryz.f21) (N := 26) Tryz.call21 Tryz.func21 rfl rfl (by simp) ?_
  simp only [go_sem]
  refine awp_seq_k (fun K1 hK1 => ?_)
  refine awp_plain 1 (by kernel_rfl) rfl (fun g0 hg0 => ?_)
  simp only [go_sem]
  refine hK1 _ ?_
  refine awp_seq_k (fun K2 hK2 => ?_)
  refine awp_seq_k (fun K3 hK3 => ?_)
  refine awp_plain 5 (by kernel_rfl) rfl (fun g1 hg1 => ?_)
  simp only [go_sem, decide_true, Bool.not_true]
  refine hK3 _ ?_
  refine awp_f rfl ?_
  refine awp_skip ?_
  refine hK2 _ ?_
  refine awp_seq_k (fun K4 hK4 => ?_)
  refine awp_seq_k (fun K5 hK5 => ?_)
  refine awp_plain 3 (by kernel_rfl) rfl (fun g3 hg3 => ?_)
  simp only [go_sem]
  refine hK5 _ ?_
  refine awp_block ?_
  refine awp_loop (fun m s => ∃ k, k ≤ l.length ∧ m = l.length - k ∧ Le { env := [(0, slS l), (1, slS l), (12, dN l.length), (13, dN k)], σ := [] } s) l.length ?_ ?_
  · refine ⟨0, Nat.zero_le _, rfl, le_of ?_⟩
    simp only [go_sem]
    try trivial
  · rintro m s ⟨k, hk, rfl, hle⟩
    refine awp_keep hle ?_
    clear hle
    by_cases h : k < l.length
    · refine awp_seq_k (fun K6 hK6 => ?_)
      refine awp_plain 1 (by kernel_rfl) rfl (fun g4 hg4 => ?_)
      simp only [go_sem, h]
      refine hK6 _ ?_
      refine awp_seq_k (fun K7 hK7 => ?_)
      refine awp_t rfl ?_
      refine awp_skip ?_
      refine hK7 _ ?_
      refine awp_seq_k (fun K8 hK8 => ?_)
      refine awp_block ?_
      refine awp_seq_k (fun K9 hK9 => ?_)
      refine awp_plain 2 (by kernel_rfl) rfl (fun g5 hg5 => ?_)
      simp only [go_sem]
      refine hK9 _ ?_
      refine awp_seq_k (fun K10 hK10 => ?_)
      refine awp_anyq (by kernel_rfl) rfl (fun g6 hg6 ops6 KR6 hops6 hKR6 => ?_)
      refine qrun_last 9 hops6 ?_
      simp only [go_sem, getM h, decide_true, Bool.not_true]
      refine hKR6 _ ?_
      refine hK10 _ ?_
      refine awp_f rfl ?_
      refine awp_skip ?_
      refine hK8 _ ?_
      refine awp_plain 2 (by kernel_rfl) rfl (fun g8 hg8 => ?_)
      simp only [go_sem]
      try simp (disch := omega) only [wrapN]
      refine ⟨_, ?_, k + 1, h, rfl, le_of ?_⟩
      · omega
      simp only [go_sem]
      omega
    · refine awp_seq_k (fun K11 hK11 => ?_)
      refine awp_plain 1 (by kernel_rfl) rfl (fun g4 hg4 => ?_)
      simp only [go_sem, h]
      refine hK11 _ ?_
      refine awp_seq_k (fun K12 hK12 => ?_)
      refine awp_f rfl ?_
      refine awp_exit ?_
      refine hK4 _ ?_
      refine awp_seq_k (fun K13 hK13 => ?_)
      refine awp_plain 1 (by kernel_rfl) rfl (fun g9 hg9 => ?_)
      simp only [go_sem]
      refine hK13 _ ?_
      refine awp_ret ?_
      refine ends_ev rfl ?_
      simp only [go_sem]
      exact Co.refl _
end Go.Proofs.T

