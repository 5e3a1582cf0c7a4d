/- A part of the proof, under no conditions of its own: P8. -/
import Derived.Test.YtmmfjicebmeamaaP7
namespace Go.Proofs.T
open Go Go.Ab Go.RowKit

abbrev sgZ : D := .agg [sE, nilS, nilS, sE, nilS, dI 0, dI 0]
theorem sg_get (k : Nat) (h : k < 1) : ([sgZ] : List D)[k]? = some sgZ := by
  match k, h with
  | 0, _ => rfl
set_option maxRecDepth 100000 in
theorem nodes_p0 (g d : Nat) : ACalls E 18 [.agg p0c] [] g d nilS [] := by
  have lt01 : (((0 : Nat) : Int) < ((1 : Nat) : Int)) = True := eq_true (by decide)
  have lt11 : (((1 : Nat) : Int) < ((1 : Nat) : Int)) = False := eq_false (by decide)
  refine acalls_of_awp (fn := Try.f18) (N := 47) Try.call18 Try.func18 rfl rfl (by simp) ?_
  simp only [go_sem]
  refine awp_seq_k (fun K1 hK1 => ?_)
  refine awp_plain 2 (by kernel_rfl) rfl (fun g0 hg0 => ?_)
  simp only [go_sem]
  refine hK1 _ ?_
  refine awp_seq_k (fun K2 hK2 => ?_)
  refine awp_plain 1 (by kernel_rfl) rfl (fun g1 hg1 => ?_)
  simp only [go_sem]
  refine hK2 _ ?_
  refine awp_seq_k (fun K3 hK3 => ?_)
  refine awp_plain 2 (by kernel_rfl) rfl (fun g2 hg2 => ?_)
  simp only [go_sem]
  refine hK3 _ ?_
  refine awp_seq_k (fun K4 hK4 => ?_)
  refine awp_seq_k (fun K5 hK5 => ?_)
  refine awp_plain 4 (by kernel_rfl) rfl (fun g3 hg3 => ?_)
  simp only [go_sem]
  refine hK5 _ ?_
  refine awp_block ?_
  refine awp_loop (fun m s => ∃ k, k ≤ 1 ∧ m = 1 - k ∧ Le { env := [(3, .ptr ⟨g1, 3, 0⟩ 0), (4, .func (.func 22) [] [.ptr ⟨g1, 3, 0⟩ 0]), (11, .sl true [.agg dTc]), (12, dN 1), (13, dN k)], σ := [(⟨g1, 3, 0⟩, .box 51 [nilS])] } s) 1 ?_ ?_
  · refine ⟨0, Nat.zero_le _, rfl, le_of ?_⟩
    simp only [go_sem]
    all_goals first | exact rfl | exact ⟨rfl, rfl⟩ | trivial
  · rintro m s ⟨k, hk, rfl, hle⟩
    refine awp_keep hle ?_
    clear hle
    refine awp_seq_k (fun K6 hK6 => ?_)
    by_cases hlt : k < 1
    · obtain rfl : k = 0 := by omega
      refine awp_plain 1 (by kernel_rfl) rfl (fun g4 hg4 => ?_)
      simp only [go_sem, lt01, decide_true]
      refine hK6 _ ?_
      refine awp_seq_k (fun K7 hK7 => ?_)
      refine awp_t rfl ?_
      refine awp_skip ?_
      refine hK7 _ ?_
      refine awp_seq_k (fun K8 hK8 => ?_)
      refine awp_block ?_
      refine awp_seq_k (fun K9 hK9 => ?_)
      refine awp_plain 4 (by kernel_rfl) rfl (fun g5 hg5 => ?_)
      simp only [go_sem, one_get 0 (by decide)]
      refine hK9 _ ?_
      refine awp_seq_k (fun K10 hK10 => ?_)
      refine awp_ops (by kernel_rfl) rfl (fun g6 hg6 ops6 KR6 hops6 hKR6 => ?_)
      refine aops_eval 5 hops6 ?_
      simp only [go_sem]
      refine aops_pure hops6 rfl rfl rfl (nodes1_none _ _ _ _ _) (CoL.refl _) ?_
      refine aops_last 0 hops6 ?_
      simp only [go_sem]
      refine hKR6 _ ?_
      refine hK10 _ ?_
      refine awp_seq_k (fun K11 hK11 => ?_)
      refine awp_anyT 9 [0, 1, 3, 0, 8, 24, 63, 127, 0] (by kernel_rfl) (by kernel_rfl) (by kernel_rfl) rfl (fun g7 hg7 ops7 KR7 hops7 hKR7 => ?_)
      refine qrunT_eval 2 hops7 rfl ?_
      simp only [go_sem]
      refine qrunT_pure hops7 rfl rfl rfl (cloneSig_none _ _) (CoL.refl _) (by simp [nwOk]) ?_
      refine qrunT_eval 3 hops7 rfl ?_
      simp only [go_sem]
      refine qrunT_app hops7 rfl rfl rfl rfl rfl es30 sz36 by36 ze36 rfl (by decide) rfl rfl ?_
      simp only [go_sem]
      first | refine ⟨⟨by omega, by omega⟩, ?_⟩ | skip
      refine qrunT_last 2 hops7 rfl ?_
      simp only [go_sem]
      refine aops_nil ?_
      refine hKR7 _ ?_
      refine hK11 _ ?_
      refine awp_block ?_
      refine awp_frz ⟨g7, 29, 0⟩ ?_
      simp only [go_sem]
      refine awp_loop (fun m s => ∃ k, k ≤ 1 ∧ m = 1 - k ∧ Le { env := [(3, .ptr ⟨g1, 3, 0⟩ 0), (4, .func (.func 22) [] [.ptr ⟨g1, 3, 0⟩ 0]), (11, .sl true [.agg dTc]), (12, dN 1), (13, dN 0), (29, .sl false [sgZ]), (30, dN 1), (31, dN k)], σ := [(⟨g1, 3, 0⟩, .box 51 [nilS])] } s) 1 ?_ ?_
      · refine ⟨0, Nat.zero_le _, rfl, le_of ?_⟩
        simp only [go_sem]
        all_goals first | exact rfl | exact ⟨rfl, rfl⟩ | trivial
      · rintro m s ⟨k, hk, rfl, hle⟩
        refine awp_keep hle ?_
        clear hle
        refine awp_seq_k (fun K12 hK12 => ?_)
        by_cases hlt : k < 1
        · obtain rfl : k = 0 := by omega
          refine awp_plain 1 (by kernel_rfl) rfl (fun g8 hg8 => ?_)
          simp only [go_sem, lt01, decide_true]
          refine hK12 _ ?_
          refine awp_seq_k (fun K13 hK13 => ?_)
          refine awp_t rfl ?_
          refine awp_skip ?_
          refine hK13 _ ?_
          refine awp_seq_k (fun K14 hK14 => ?_)
          refine awp_block ?_
          refine awp_seq_k (fun K15 hK15 => ?_)
          refine awp_plain 4 (by kernel_rfl) rfl (fun g9 hg9 => ?_)
          simp only [go_sem, sg_get 0 (by decide)]
          refine hK15 _ ?_
          refine awp_ops (by kernel_rfl) rfl (fun g10 hg10 ops10 KR10 hops10 hKR10 => ?_)
          refine aops_eval 5 hops10 ?_
          simp only [go_sem]
          refine aops_pure hops10 rfl rfl rfl (nodes1_none _ _ _ _ _) (CoL.refl _) ?_
          refine aops_last 0 hops10 ?_
          simp only [go_sem]
          refine hKR10 _ ?_
          refine hK14 _ ?_
          refine awp_plain 2 (by kernel_rfl) rfl (fun g11 hg11 => ?_)
          simp only [go_sem]
          try simp (disch := omega) only [wrapN]
          refine ⟨_, ?_, 1, Nat.le_refl _, rfl, le_of ?_⟩
          · omega
          simp only [go_sem]
          all_goals first | exact rfl | exact ⟨rfl, rfl⟩ | trivial
        · have : k = 1 := by omega
          subst this
          refine awp_plain 1 (by kernel_rfl) rfl (fun g8 hg8 => ?_)
          simp only [go_sem, lt11, decide_false]
          refine hK12 _ ?_
          refine awp_seq_k (fun K16 hK16 => ?_)
          refine awp_f rfl ?_
          refine awp_exit ?_
          refine hK8 _ ?_
          refine awp_plain 2 (by kernel_rfl) rfl (fun g12 hg12 => ?_)
          simp only [go_sem]
          try simp (disch := omega) only [wrapN]
          refine ⟨_, ?_, 1, Nat.le_refl _, rfl, le_of ?_⟩
          · omega
          simp only [go_sem]
          all_goals first | exact rfl | exact ⟨rfl, rfl⟩ | trivial
    · have : k = 1 := by omega
      subst this
      refine awp_plain 1 (by kernel_rfl) rfl (fun g4 hg4 => ?_)
      simp only [go_sem, lt11, decide_false]
      refine hK6 _ ?_
      refine awp_seq_k (fun K17 hK17 => ?_)
      refine awp_f rfl ?_
      refine awp_exit ?_
      refine hK4 _ ?_
      refine awp_seq_k (fun K18 hK18 => ?_)
      refine awp_ops (by kernel_rfl) rfl (fun g13 hg13 ops13 KR13 hops13 hKR13 => ?_)
      refine aops_eval 1 hops13 ?_
      simp only [go_sem]
      refine aops_pure hops13 rfl rfl rfl (sort_none _ _ _) (CoL.refl _) ?_
      refine aops_last 0 hops13 ?_
      simp only [go_sem]
      refine hKR13 _ ?_
      refine hK18 _ ?_
      refine awp_seq_k (fun K19 hK19 => ?_)
      refine awp_ops (by kernel_rfl) rfl (fun g14 hg14 ops14 KR14 hops14 hKR14 => ?_)
      refine aops_eval 1 hops14 ?_
      simp only [go_sem]
      refine aops_pure hops14 rfl rfl rfl (compact_none _ _) (CoL.refl _) ?_
      refine aops_last 1 hops14 ?_
      simp only [go_sem]
      refine hKR14 _ ?_
      refine hK19 _ ?_
      refine awp_ret ?_
      refine ends_ev rfl ?_
      simp only [go_sem]
      exact Co.refl _
end Go.Proofs.T

