/- A part of the proof, under no conditions of its own: A21. -/
import Derived.Test.YtomkekilpdkjgaaDoorA20
namespace Go.Proofs.T
open Go Go.Ab Go.RowKit



theorem bindJoins_calls (a b : List Formal) (ha : a.length ≤ 9223372036854775807) (ha2 : ∀ f ∈ a, okFm f) (hb : b.length ≤ 9223372036854775807) (hb2 : ∀ f ∈ b, okFm f) (g d : Nat) :
    ACalls E 6 [slFm a, slFm b] [] g d (dB true) [] := by
  refine acalls_of_awp (fn := Tryd.f6) (N := 102) Tryd.call6 Tryd.func6 rfl rfl (by simp) ?_
  simp only [go_sem]
  refine awp_seq_k (fun K1 hK1 => ?_)
  refine awp_plain 1 (by kernel_rfl) rfl (fun g0 hg0 => ?_)
  simp only [go_sem]
  refine hK1 _ ?_
  refine awp_seq_k (fun K2 hK2 => ?_)
  refine awp_seq_k (fun K3 hK3 => ?_)
  refine awp_ops (by kernel_rfl) rfl (fun g1 hg1 ops1 KR1 hops1 hKR1 => ?_)
  refine aops_eval 0 hops1 ?_
  simp only [go_sem]
  refine aops_pure hops1 rfl rfl rfl (awake_calls _ _) (CoL.refl _) ?_
  refine aops_eval 3 hops1 ?_
  simp only [go_sem]
  cases hfa : fewEnv a with
  | false =>
    refine aops_pure hops1 rfl rfl rfl (fewEnv_calls a ⟨ha, ha2⟩ _ _) (CoL.refl _) ?_
    refine aops_last 7 hops1 ?_
    simp only [go_sem, hfa]
    refine hKR1 _ ?_
    refine hK3 _ ?_
    refine awp_t rfl ?_
    refine awp_seq_k (fun K4 hK4 => ?_)
    refine awp_ops (by kernel_rfl) rfl (fun g2 hg2 ops2 KR2 hops2 hKR2 => ?_)
    refine aops_eval 0 hops2 ?_
    simp only [go_sem]
    refine aops_pure hops2 rfl rfl rfl (awake_calls _ _) (CoL.refl _) ?_
    refine aops_last 1 hops2 ?_
    simp only [go_sem]
    refine hKR2 _ ?_
    refine hK4 _ ?_
    refine awp_ret ?_
    refine ends_ev rfl ?_
    simp only [go_sem]
    exact Co.refl _
  | true =>
    refine aops_pure hops1 rfl rfl rfl (fewEnv_calls a ⟨ha, ha2⟩ _ _) (CoL.refl _) ?_
    refine aops_eval 4 hops1 ?_
    simp only [go_sem, hfa]
    cases hfb : fewEnv b with
    | false =>
      refine aops_pure hops1 rfl rfl rfl (fewEnv_calls b ⟨hb, hb2⟩ _ _) (CoL.refl _) ?_
      refine aops_last 2 hops1 ?_
      simp only [go_sem, hfb]
      refine hKR1 _ ?_
      refine hK3 _ ?_
      refine awp_t rfl ?_
      refine awp_seq_k (fun K5 hK5 => ?_)
      refine awp_ops (by kernel_rfl) rfl (fun g2 hg2 ops2 KR2 hops2 hKR2 => ?_)
      refine aops_eval 0 hops2 ?_
      simp only [go_sem]
      refine aops_pure hops2 rfl rfl rfl (awake_calls _ _) (CoL.refl _) ?_
      refine aops_last 1 hops2 ?_
      simp only [go_sem]
      refine hKR2 _ ?_
      refine hK5 _ ?_
      refine awp_ret ?_
      refine ends_ev rfl ?_
      simp only [go_sem]
      exact Co.refl _
    | true =>
      refine aops_pure hops1 rfl rfl rfl (fewEnv_calls b ⟨hb, hb2⟩ _ _) (CoL.refl _) ?_
      refine aops_last 2 hops1 ?_
      simp only [go_sem, hfb]
      refine hKR1 _ ?_
      refine hK3 _ ?_
      refine awp_f rfl ?_
      refine awp_skip ?_
      refine hK2 _ ?_
      refine awp_seq_k (fun K6 hK6 => ?_)
      have ma := fewEnv_sm hfa
      have mb := fewEnv_sm hfb
      have hj := join_calls a b (by have := ma.1; omega) (by have := mb.1; omega) ma.2 mb.2
      generalize hz : a ++ b = z at hj
      have hzl : z.length = a.length + b.length := by rw [← hz, List.length_append]
      have hz2 : z.length ≤ 4000 := by have := ma.1; have := mb.1; omega
      have hok : ∀ f ∈ z, okTy f.bound := fun f hf => by
        rw [← hz] at hf
        rcases List.mem_append.1 hf with h | h
        · exact (ha2 f h).2
        · exact (hb2 f h).2
      have hzi : (z.length : Int) = (a.length : Int) + (b.length : Int) := by omega
      refine awp_ops (by kernel_rfl) rfl (fun g3 hg3 ops3 KR3 hops3 hKR3 => ?_)
      refine aops_eval 2 hops3 ?_
      simp only [go_sem]
      refine aops_pure hops3 rfl rfl rfl (hj _ _) (CoL.refl _) ?_
      refine aops_last 1 hops3 ?_
      simp only [go_sem]
      refine hKR3 _ ?_
      refine hK6 _ ?_
      refine awp_seq_k (fun K7 hK7 => ?_)
      refine awp_ops (by kernel_rfl) rfl (fun g4 hg4 ops4 KR4 hops4 hKR4 => ?_)
      refine aops_eval 1 hops4 ?_
      simp only [go_sem]
      refine aops_pure hops4 rfl rfl rfl (names_calls z (by omega) _ _) (CoL.refl _) ?_
      refine aops_last 1 hops4 ?_
      simp only [go_sem]
      refine hKR4 _ ?_
      refine hK7 _ ?_
      refine awp_seq_k (fun K8 hK8 => ?_)
      refine awp_seq_k (fun K9 hK9 => ?_)
      refine awp_plain 15 (by kernel_rfl) rfl (fun g5 hg5 => ?_)
      simp only [go_sem]
      try simp (disch := omega) only [wrapN]
      try simp only [go_sem, hzi, List.length_map, decide_true, Bool.not_true, Bool.not_false]
      try simp (disch := omega) only [wrapN, wrapB, Int.tdiv_eq_ediv_of_nonneg, Int.tmod_eq_emod_of_nonneg]
      refine hK9 _ ?_
      refine awp_f rfl ?_
      refine awp_skip ?_
      refine hK8 _ ?_
      refine awp_seq_k (fun K10 hK10 => ?_)
      refine awp_seq_k (fun K11 hK11 => ?_)
      refine awp_plain 1 (by kernel_rfl) rfl (fun g7 hg7 => ?_)
      simp only [go_sem]
      refine hK11 _ ?_
      refine awp_block ?_
      refine awp_loop (fun m s => ∃ k, k ≤ z.length ∧ m = z.length - k ∧
          Le { env := [(0, slFm a), (1, slFm b), (5, slFm z), (6, slS (z.map (·.name))), (7, dN k)], σ := [] } s) z.length ?_ ?_
      · refine ⟨0, Nat.zero_le _, rfl, le_of ?_⟩
        simp only [go_sem]
        trivial
      · rintro m s ⟨k, hk, rfl, hle⟩
        refine awp_keep hle ?_
        clear hle
        by_cases h : k < z.length
        · have hc := okTy_iff _ |>.1 (hok _ (List.getElem_mem h))
          have e1 := getM (f := encFm) h
          have e2 : ((z.map (·.name)).map encS)[k]? = some (encS z[k].name) := by simp [h]
          refine awp_seq_k (fun K12 hK12 => ?_)
          refine awp_seq_k (fun K13 hK13 => ?_)
          refine awp_plain 4 (by kernel_rfl) rfl (fun g8 hg8 => ?_)
          simp only [go_sem, h]
          refine hK13 _ ?_
          refine awp_t rfl ?_
          refine awp_skip ?_
          refine hK12 _ ?_
          refine awp_seq_k (fun K14 hK14 => ?_)
          refine awp_block ?_
          refine awp_seq_k (fun K15 hK15 => ?_)
          refine awp_plain 3 (by kernel_rfl) rfl (fun g10 hg10 => ?_)
          simp only [go_sem]
          refine hK15 _ ?_
          refine awp_seq_k (fun K16 hK16 => ?_)
          refine awp_seq_k (fun K17 hK17 => ?_)
          have hbk := hok _ (List.getElem_mem h)
          have heq := eqTy_self z[k].bound
          by_cases hka : k < a.length
          · have e3 : (a.map encFm)[k]? = some (encFm z[k]) := by
              rw [getM hka]; simp [← hz, hka]
            refine awp_plain 4 (by kernel_rfl) rfl (fun g11 hg11 => ?_)
            simp only [go_sem, hka]
            refine hK17 _ ?_
            refine awp_t rfl ?_
            refine awp_plain 5 (by kernel_rfl) rfl (fun g12 hg12 => ?_)
            simp only [go_sem, e3]
            refine hK16 _ ?_
            refine awp_seq_k (fun K18 hK18 => ?_)
            refine awp_anyq (by kernel_rfl) rfl (fun g14 hg14 ops14 KR14 hops14 hKR14 => ?_)
            refine qrun_eval 35 hops14 ?_
            simp only [go_sem, e1, e2]
            refine qrun_pure hops14 rfl rfl rfl (ref04Equal_calls _ hbk z[k].bound _ _) (CoL.refl _) rfl ?_
            refine qrun_last 2 hops14 ?_
            simp only [go_sem, heq]
            refine hKR14 _ ?_
            refine hK18 _ ?_
            refine awp_f rfl ?_
            refine awp_skip ?_
            refine hK14 _ ?_
            refine awp_plain 3 (by kernel_rfl) rfl (fun g9 hg9 => ?_)
            simp only [go_sem]
            try simp (disch := omega) only [wrapN]
            refine ⟨_, ?_, k + 1, h, rfl, le_of ?_⟩
            · omega
            simp only [go_sem]
            omega
          · have hkb : k - a.length < b.length := by omega
            have e3 : (b.map encFm)[k - a.length]? = some (encFm z[k]) := by
              rw [getM hkb]
              congr 2
              simp [← hz, List.getElem_append, hka]
            have e4 : (k : Int) - (a.length : Int) = ((k - a.length : Nat) : Int) := by omega
            refine awp_plain 4 (by kernel_rfl) rfl (fun g11 hg11 => ?_)
            simp only [go_sem, hka]
            refine hK17 _ ?_
            refine awp_f rfl ?_
            refine awp_plain 8 (by kernel_rfl) rfl (fun g13 hg13 => ?_)
            simp only [go_sem]
            try simp (disch := omega) only [wrapN]
            try simp only [go_sem, e4, at_nat, e3]
            try simp (disch := omega) only [wrapN, wrapB, Int.tdiv_eq_ediv_of_nonneg, Int.tmod_eq_emod_of_nonneg]
            refine hK16 _ ?_
            refine awp_seq_k (fun K19 hK19 => ?_)
            refine awp_anyq (by kernel_rfl) rfl (fun g14 hg14 ops14 KR14 hops14 hKR14 => ?_)
            refine qrun_eval 35 hops14 ?_
            simp only [go_sem, e1, e2]
            refine qrun_pure hops14 rfl rfl rfl (ref04Equal_calls _ hbk z[k].bound _ _) (CoL.refl _) rfl ?_
            refine qrun_last 2 hops14 ?_
            simp only [go_sem, heq]
            refine hKR14 _ ?_
            refine hK19 _ ?_
            refine awp_f rfl ?_
            refine awp_skip ?_
            refine hK14 _ ?_
            refine awp_plain 3 (by kernel_rfl) rfl (fun g9 hg9 => ?_)
            simp only [go_sem]
            try simp (disch := omega) only [wrapN]
            refine ⟨_, ?_, k + 1, h, rfl, le_of ?_⟩
            · omega
            simp only [go_sem]
            omega
        · refine awp_seq_k (fun K20 hK20 => ?_)
          refine awp_seq_k (fun K21 hK21 => ?_)
          refine awp_plain 4 (by kernel_rfl) rfl (fun g8 hg8 => ?_)
          simp only [go_sem, h]
          refine hK21 _ ?_
          refine awp_f rfl ?_
          refine awp_exit ?_
          refine hK10 _ ?_
          refine awp_seq_k (fun K22 hK22 => ?_)
          refine awp_plain 1 (by kernel_rfl) rfl (fun g16 hg16 => ?_)
          simp only [go_sem]
          refine hK22 _ ?_
          refine awp_ret ?_
          refine ends_ev rfl ?_
          simp only [go_sem]
          exact Co.refl _
end Go.Proofs.T

