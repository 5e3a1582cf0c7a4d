/- A part of the proof, under no conditions of its own: P5. -/
import Derived.Test.YtmmfjicebmeamaaP4
namespace Go.Proofs.T
open Go Go.Ab Go.RowKit

abbrev ksS : KS := .one .str
abbrev zC : List D := [dI 0, dI 0, dI 0, dI 0, .val (.map none)]
abbrev nC (k : Int) (m : D) : List D := [dI k, dI 0, dI 0, dI 1, m]
set_option maxRecDepth 100000 in
theorem count_p0 (g d : Nat) : ACalls E 17 [.agg p0c] [] g d (.agg (nC 1 (.fmap ksS []))) [] := by
  have lt01 : (((0 : Nat) : Int) < ((1 : Nat) : Int)) = True := eq_true (by decide)
  have lt11 : (((1 : Nat) : Int) < ((1 : Nat) : Int)) = False := eq_false (by decide)
  have c0 : ((0 : Nat) : Int) = 0 := rfl
  have g11 : ((1 : Int) > 1) = False := eq_false (by decide)
  have g00 : ((0 : Int) > 0) = False := eq_false (by decide)
  have e13 : ((1 : Int) = 3) = False := eq_false (by decide)
  have a01 : (0 : Int) + 1 = 1 := rfl
  have w1 : IntKind.i64.wrap 1 = 1 := by decide
  refine acalls_of_awp (fn := Try.f17) (N := 53) Try.call17 Try.func17 rfl rfl (by simp) ?_
  simp only [go_sem]
  refine awp_seq_k (fun K1 hK1 => ?_)
  refine awp_plain 2 (by kernel_rfl) rfl (fun g0 hg0 => ?_)
  simp only [go_sem]
  refine hK1 _ ?_
  refine awp_seq_k (fun K2 hK2 => ?_)
  refine awp_plain 4 (by kernel_rfl) rfl (fun g1 hg1 => ?_)
  simp only [go_sem]
  refine hK2 _ ?_
  refine awp_seq_k (fun K3 hK3 => ?_)
  refine awp_seq_k (fun K4 hK4 => ?_)
  refine awp_ops (by kernel_rfl) rfl (fun g2 hg2 ops2 KR2 hops2 hKR2 => ?_)
  refine aops_eval 1 hops2 ?_
  simp only [go_sem]
  refine aops_pure hops2 rfl rfl rfl (types_p0 _ _) (CoL.refl _) ?_
  refine aops_last 2 hops2 ?_
  simp only [go_sem]
  refine hKR2 _ ?_
  refine hK4 _ ?_
  refine awp_block ?_
  refine awp_loop (fun m s => ∃ k, k ≤ 1 ∧ m = 1 - k ∧ Le { env := [(1, .ptr ⟨g0, 1, 0⟩ 0), (2, .ptr ⟨g0, 2, 0⟩ 0), (3, .ptr ⟨g1, 3, 0⟩ 0), (11, slTy [tT]), (12, dN 1), (13, dN k)], σ := [(⟨g0, 1, 0⟩, .box 44 p0c), (⟨g0, 2, 0⟩, .box 49 zC), (⟨g1, 3, 0⟩, .box 49 (nC 0 (.mref ⟨g1, 8, 0⟩))), (⟨g1, 8, 0⟩, .map ksS [])] } s) 1 ?_ ?_
  · refine ⟨0, Nat.zero_le _, rfl, le_of ?_⟩
    simp only [go_sem]
    first | exact rfl | exact ⟨rfl, rfl⟩ | trivial
  · rintro m s ⟨k, hk, rfl, hle⟩
    refine awp_keep hle ?_
    clear hle
    refine awp_seq_k (fun K5 hK5 => ?_)
    by_cases hlt : k < 1
    · obtain rfl : k = 0 := by omega
      refine awp_plain 1 (by kernel_rfl) rfl (fun g3 hg3 => ?_)
      simp only [go_sem, lt01, decide_true]
      refine hK5 _ ?_
      refine awp_seq_k (fun K6 hK6 => ?_)
      refine awp_t rfl ?_
      refine awp_skip ?_
      refine hK6 _ ?_
      refine awp_seq_k (fun K7 hK7 => ?_)
      refine awp_block ?_
      refine awp_seq_k (fun K8 hK8 => ?_)
      refine awp_plain 4 (by kernel_rfl) rfl (fun g4 hg4 => ?_)
      simp only [go_sem]
      refine hK8 _ ?_
      refine awp_any 6 (by kernel_rfl) (by kernel_rfl) rfl (fun g5 hg5 ops5 KR5 hops5 hKR5 => ?_)
      refine qrun_eval 3 hops5 ?_
      simp only [go_sem]
      refine qrun_pure hops5 rfl rfl rfl (depth_tT _ _) (CoL.refl _) rfl ?_
      refine qrun_last 2 hops5 ?_
      simp only [go_sem, g11, if_false, if_true]
      refine aops_last 1 hops5 ?_
      simp only [go_sem, if_false, if_true]
      refine hKR5 _ ?_
      refine hK7 _ ?_
      refine awp_plain 2 (by kernel_rfl) rfl (fun g6 hg6 => ?_)
      simp only [go_sem, a01, w1, c0]
      try simp (disch := omega) only [wrapN, wrapB, Int.tdiv_eq_ediv_of_nonneg, Int.tmod_eq_emod_of_nonneg]
      refine ⟨_, ?_, 1, Nat.le_refl _, rfl, le_of ?_⟩
      · omega
      simp only [go_sem]
      first | exact rfl | exact ⟨rfl, rfl⟩ | trivial
    · have : k = 1 := by omega
      subst this
      refine awp_plain 1 (by kernel_rfl) rfl (fun g3 hg3 => ?_)
      simp only [go_sem, lt11, decide_false]
      refine hK5 _ ?_
      refine awp_seq_k (fun K9 hK9 => ?_)
      refine awp_f rfl ?_
      refine awp_exit ?_
      refine hK3 _ ?_
      refine awp_seq_k (fun K10 hK10 => ?_)
      refine awp_seq_k (fun K11 hK11 => ?_)
      refine awp_plain 4 (by kernel_rfl) rfl (fun g7 hg7 => ?_)
      simp only [go_sem]
      refine hK11 _ ?_
      refine awp_block ?_
      refine awp_loop (fun m s => ∃ k, k ≤ 1 ∧ m = 1 - k ∧ Le { env := [(1, .ptr ⟨g0, 1, 0⟩ 0), (2, .ptr ⟨g0, 2, 0⟩ 0), (3, .ptr ⟨g1, 3, 0⟩ 0), (25, .sl true [.agg dTc]), (26, dN 1), (27, dN k)], σ := [(⟨g0, 1, 0⟩, .box 44 p0c), (⟨g0, 2, 0⟩, .box 49 zC), (⟨g1, 3, 0⟩, .box 49 (nC k (.mref ⟨g1, 8, 0⟩))), (⟨g1, 8, 0⟩, .map ksS [])] } s) 1 ?_ ?_
      · refine ⟨0, Nat.zero_le _, rfl, le_of ?_⟩
        simp only [go_sem]
        first | exact rfl | exact ⟨rfl, rfl⟩ | trivial
      · rintro m s ⟨k, hk, rfl, hle⟩
        refine awp_keep hle ?_
        clear hle
        refine awp_seq_k (fun K12 hK12 => ?_)
        by_cases hlt : k < 1
        · obtain rfl : k = 0 := by omega
          refine awp_plain 1 (by kernel_rfl) rfl (fun g8 hg8 => ?_)
          simp only [go_sem, lt01, decide_true]
          refine hK12 _ ?_
          refine awp_seq_k (fun K13 hK13 => ?_)
          refine awp_t rfl ?_
          refine awp_skip ?_
          refine hK13 _ ?_
          refine awp_seq_k (fun K14 hK14 => ?_)
          refine awp_block ?_
          refine awp_seq_k (fun K15 hK15 => ?_)
          refine awp_plain 4 (by kernel_rfl) rfl (fun g9 hg9 => ?_)
          simp only [go_sem]
          refine hK15 _ ?_
          refine awp_seq_k (fun K16 hK16 => ?_)
          refine awp_seq_k (fun K17 hK17 => ?_)
          refine awp_plain 3 (by kernel_rfl) rfl (fun g10 hg10 => ?_)
          simp only [go_sem, e13, decide_false]
          refine hK17 _ ?_
          refine awp_f rfl ?_
          refine awp_skip ?_
          refine hK16 _ ?_
          refine awp_seq_k (fun K18 hK18 => ?_)
          refine awp_plain 5 (by kernel_rfl) rfl (fun g12 hg12 => ?_)
          simp only [go_sem, a01, w1, c0]
          try simp (disch := omega) only [wrapN, wrapB, Int.tdiv_eq_ediv_of_nonneg, Int.tmod_eq_emod_of_nonneg]
          refine hK18 _ ?_
          refine awp_plain 8 (by kernel_rfl) rfl (fun g13 hg13 => ?_)
          simp only [go_sem, g00, if_false, if_true, c0]
          refine hK14 _ ?_
          refine awp_plain 2 (by kernel_rfl) rfl (fun g14 hg14 => ?_)
          simp only [go_sem, a01, w1, c0]
          try simp (disch := omega) only [wrapN, wrapB, Int.tdiv_eq_ediv_of_nonneg, Int.tmod_eq_emod_of_nonneg]
          refine ⟨_, ?_, 1, Nat.le_refl _, rfl, le_of ?_⟩
          · omega
          simp only [go_sem]
          first | exact rfl | exact ⟨rfl, rfl⟩ | trivial
        · have : k = 1 := by omega
          subst this
          refine awp_plain 1 (by kernel_rfl) rfl (fun g8 hg8 => ?_)
          simp only [go_sem, lt11, decide_false]
          refine hK12 _ ?_
          refine awp_seq_k (fun K19 hK19 => ?_)
          refine awp_f rfl ?_
          refine awp_exit ?_
          refine hK10 _ ?_
          refine awp_seq_k (fun K20 hK20 => ?_)
          refine awp_ops (by kernel_rfl) rfl (fun g15 hg15 ops15 KR15 hops15 hKR15 => ?_)
          refine aops_eval 2 hops15 ?_
          simp only [go_sem]
          refine aops_pure hops15 rfl rfl rfl (cexpr_e0 ⟨g1, 3, 0⟩ _ _) (CoL.refl _) ?_
          refine aops_last 0 hops15 ?_
          simp only [go_sem]
          refine hKR15 _ ?_
          refine hK20 _ ?_
          refine awp_seq_k (fun K21 hK21 => ?_)
          refine awp_plain 2 (by kernel_rfl) rfl (fun g16 hg16 => ?_)
          simp only [go_sem]
          refine hK21 _ ?_
          refine awp_ret ?_
          refine ret_fmap ⟨g1, 8, 0⟩ ?_
          simp only [go_sem]
          refine ends_ev rfl ?_
          simp only [go_sem]
          exact Co.refl _
end Go.Proofs.T

