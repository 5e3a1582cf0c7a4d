/- A part of the proof, under no conditions of its own: P1. -/
import Derived.Test.YtmmfjicebmeamaaI2
import Derived.Test.YtmmfjicebmeamaaN2
import Derived.Test.YtmmfjicebmeamaaAbT
namespace Go.Proofs.T
open Go Go.Ab Go.RowKit

/-! ## A program of one declaration: what is called with nothing -/

abbrev nilS : D := .val (.slice none 0 0)
abbrev noS : D := .sl false []
set_option maxRecDepth 100000 in
theorem formals_none (g d : Nat) : ACalls E 28 [nilS] [] g d noS [] := by
  refine acalls_of_awp (fn := Try.f28) (N := 19) Try.call28 Try.func28 rfl rfl (by simp) ?_
  simp only [go_sem]
  refine awp_seq_k (fun K1 hK1 => ?_)
  refine awp_plain 1 (by kernel_rfl) rfl (fun g0 hg0 => ?_)
  simp only [go_sem]
  refine hK1 _ ?_
  refine awp_seq_k (fun K2 hK2 => ?_)
  refine awp_plain 1 (by kernel_rfl) rfl (fun g1 hg1 => ?_)
  simp only [go_sem]
  refine hK2 _ ?_
  refine awp_seq_k (fun K3 hK3 => ?_)
  refine awp_seq_k (fun K4 hK4 => ?_)
  refine awp_plain 3 (by kernel_rfl) rfl (fun g2 hg2 => ?_)
  simp only [go_sem]
  refine hK4 _ ?_
  refine awp_block ?_
  refine awp_loop (fun m s => m = 0 ∧ Le { env := [(3, nilS), (7, dN 0), (8, dN 0)], σ := [] } s) 0 ?_ ?_
  · refine ⟨rfl, le_of ?_⟩
    simp only [go_sem]
    first | exact rfl | trivial
  · rintro m s ⟨rfl, hle⟩
    refine awp_keep hle ?_
    clear hle
    refine awp_seq_k (fun K5 hK5 => ?_)
    refine awp_plain 1 (by kernel_rfl) rfl (fun g3 hg3 => ?_)
    simp only [go_sem, show (((0 : Nat) : Int) < ((0 : Nat) : Int)) = False from eq_false (by decide), decide_false]
    refine hK5 _ ?_
    refine awp_seq_k (fun K6 hK6 => ?_)
    refine awp_f rfl ?_
    refine awp_exit ?_
    refine hK3 _ ?_
    refine awp_seq_k (fun K7 hK7 => ?_)
    refine awp_plain 2 (by kernel_rfl) rfl (fun g7 hg7 => ?_)
    simp only [go_sem]
    refine hK7 _ ?_
    refine awp_ret ?_
    refine ends_ev rfl ?_
    simp only [go_sem]
    exact Co.nil _
set_option maxRecDepth 100000 in
theorem params_none (g d : Nat) : ACalls E 29 [nilS] [] g d noS [] := by
  refine acalls_of_awp (fn := Try.f29) (N := 19) Try.call29 Try.func29 rfl rfl (by simp) ?_
  simp only [go_sem]
  refine awp_seq_k (fun K1 hK1 => ?_)
  refine awp_plain 1 (by kernel_rfl) rfl (fun g0 hg0 => ?_)
  simp only [go_sem]
  refine hK1 _ ?_
  refine awp_seq_k (fun K2 hK2 => ?_)
  refine awp_plain 1 (by kernel_rfl) rfl (fun g1 hg1 => ?_)
  simp only [go_sem]
  refine hK2 _ ?_
  refine awp_seq_k (fun K3 hK3 => ?_)
  refine awp_seq_k (fun K4 hK4 => ?_)
  refine awp_plain 3 (by kernel_rfl) rfl (fun g2 hg2 => ?_)
  simp only [go_sem]
  refine hK4 _ ?_
  refine awp_block ?_
  refine awp_loop (fun m s => m = 0 ∧ Le { env := [(3, nilS), (7, dN 0), (8, dN 0)], σ := [] } s) 0 ?_ ?_
  · refine ⟨rfl, le_of ?_⟩
    simp only [go_sem]
    first | exact rfl | trivial
  · rintro m s ⟨rfl, hle⟩
    refine awp_keep hle ?_
    clear hle
    refine awp_seq_k (fun K5 hK5 => ?_)
    refine awp_plain 1 (by kernel_rfl) rfl (fun g3 hg3 => ?_)
    simp only [go_sem, show (((0 : Nat) : Int) < ((0 : Nat) : Int)) = False from eq_false (by decide), decide_false]
    refine hK5 _ ?_
    refine awp_seq_k (fun K6 hK6 => ?_)
    refine awp_f rfl ?_
    refine awp_exit ?_
    refine hK3 _ ?_
    refine awp_seq_k (fun K7 hK7 => ?_)
    refine awp_plain 2 (by kernel_rfl) rfl (fun g7 hg7 => ?_)
    simp only [go_sem]
    refine hK7 _ ?_
    refine awp_ret ?_
    refine ends_ev rfl ?_
    simp only [go_sem]
    exact Co.nil _
theorem grow_none (g d : Nat) : ACalls E 41 [nilS, dI 0] [] g d nilS [] := by
  refine acalls_of_awp (fn := Try.f41) (N := 27) Try.call41 Try.func41 rfl rfl (by simp) ?_
  simp only [go_sem]
  refine awp_seq_k (fun K1 hK1 => ?_)
  refine awp_plain 1 (by kernel_rfl) rfl (fun g0 hg0 => ?_)
  simp only [go_sem]
  refine hK1 _ ?_
  refine awp_seq_k (fun K2 hK2 => ?_)
  refine awp_seq_k (fun K3 hK3 => ?_)
  refine awp_plain 2 (by kernel_rfl) rfl (fun g1 hg1 => ?_)
  simp only [go_sem, show ((0 : Int) < 0) = False from eq_false (by decide), decide_false]
  refine hK3 _ ?_
  refine awp_f rfl ?_
  refine awp_skip ?_
  refine hK2 _ ?_
  refine awp_seq_k (fun K4 hK4 => ?_)
  refine awp_seq_k (fun K5 hK5 => ?_)
  refine awp_plain 8 (by kernel_rfl) rfl (fun g3 hg3 => ?_)
  simp only [go_sem]
  try simp (disch := omega) only [wrapN]
  refine hK5 _ ?_
  refine awp_seq_k (fun K6 hK6 => ?_)
  refine awp_plain 2 (by kernel_rfl) rfl (fun g4 hg4 => ?_)
  simp only [go_sem]
  refine hK6 _ ?_
  refine awp_f rfl ?_
  refine awp_skip ?_
  refine hK4 _ ?_
  refine awp_seq_k (fun K7 hK7 => ?_)
  refine awp_plain 2 (by kernel_rfl) rfl (fun g6 hg6 => ?_)
  simp only [go_sem]
  refine hK7 _ ?_
  refine awp_ret ?_
  refine ends_ev rfl ?_
  simp only [go_sem]
  exact Co.refl _
theorem nn_get (k : Nat) (h : k < 2) : ([noS, noS] : List D)[k]? = some noS := by
  match k, h with
  | 0, _ => rfl
  | 1, _ => rfl
set_option maxRecDepth 100000 in
theorem concat_none (g d : Nat) : ACalls E 27 [.sl true [noS, noS]] [] g d noS [] := by
  refine acalls_of_awp (fn := Try.f27) (N := 36) Try.call27 Try.func27 rfl rfl (by simp) ?_
  simp only [go_sem]
  refine awp_seq_k (fun K1 hK1 => ?_)
  refine awp_plain 1 (by kernel_rfl) rfl (fun g0 hg0 => ?_)
  simp only [go_sem]
  refine hK1 _ ?_
  refine awp_seq_k (fun K2 hK2 => ?_)
  refine awp_plain 1 (by kernel_rfl) rfl (fun g1 hg1 => ?_)
  simp only [go_sem]
  refine hK2 _ ?_
  refine awp_seq_k (fun K3 hK3 => ?_)
  refine awp_seq_k (fun K4 hK4 => ?_)
  refine awp_plain 3 (by kernel_rfl) rfl (fun g2 hg2 => ?_)
  simp only [go_sem]
  refine hK4 _ ?_
  refine awp_block ?_
  refine awp_loop (fun m s => ∃ k, k ≤ 2 ∧ m = 2 - k ∧ Le { env := [(0, .sl true [noS, noS]), (3, dI 0), (9, .sl true [noS, noS]), (10, dN 2), (11, dN k)], σ := [] } s) 2 ?_ ?_
  · refine ⟨0, Nat.zero_le _, rfl, le_of ?_⟩
    simp only [go_sem]
    first | exact rfl | exact ⟨rfl, rfl⟩ | trivial
  · rintro m s ⟨k, hk, rfl, hle⟩
    refine awp_keep hle ?_
    clear hle
    refine awp_seq_k (fun K5 hK5 => ?_)
    by_cases hlt : k < 2
    · have hlt' : (k : Int) < ((2 : Nat) : Int) := by omega
      refine awp_plain 1 (by kernel_rfl) rfl (fun g3 hg3 => ?_)
      simp only [go_sem, hlt', decide_true]
      refine hK5 _ ?_
      refine awp_seq_k (fun K6 hK6 => ?_)
      refine awp_t rfl ?_
      refine awp_skip ?_
      refine hK6 _ ?_
      refine awp_seq_k (fun K7 hK7 => ?_)
      refine awp_block ?_
      refine awp_seq_k (fun K8 hK8 => ?_)
      refine awp_plain 3 (by kernel_rfl) rfl (fun g4 hg4 => ?_)
      simp only [go_sem, nn_get k hlt]
      refine hK8 _ ?_
      refine awp_seq_k (fun K9 hK9 => ?_)
      refine awp_plain 5 (by kernel_rfl) rfl (fun g5 hg5 => ?_)
      simp only [go_sem]
      try simp (disch := omega) only [wrapN]
      refine hK9 _ ?_
      refine awp_seq_k (fun K10 hK10 => ?_)
      refine awp_plain 2 (by kernel_rfl) rfl (fun g6 hg6 => ?_)
      simp only [go_sem]
      refine hK10 _ ?_
      refine awp_f rfl ?_
      refine awp_skip ?_
      refine hK7 _ ?_
      refine awp_plain 2 (by kernel_rfl) rfl (fun g8 hg8 => ?_)
      simp only [go_sem]
      try simp (disch := omega) only [wrapN]
      refine ⟨_, ?_, k + 1, hlt, rfl, le_of ?_⟩
      · omega
      simp only [go_sem]
      first | exact rfl | exact ⟨rfl, rfl⟩ | trivial
    · have : k = 2 := by omega
      subst this
      refine awp_plain 1 (by kernel_rfl) rfl (fun g3 hg3 => ?_)
      simp only [go_sem, show (((2 : Nat) : Int) < ((2 : Nat) : Int)) = False from eq_false (by decide), decide_false]
      refine hK5 _ ?_
      refine awp_seq_k (fun K11 hK11 => ?_)
      refine awp_f rfl ?_
      refine awp_exit ?_
      refine hK3 _ ?_
      refine awp_seq_k (fun K12 hK12 => ?_)
      refine awp_ops (by kernel_rfl) rfl (fun g9 hg9 ops9 KR9 hops9 hKR9 => ?_)
      refine aops_eval 1 hops9 ?_
      simp only [go_sem]
      refine aops_pure hops9 rfl rfl rfl (grow_none _ _) (CoL.refl _) ?_
      refine aops_last 1 hops9 ?_
      simp only [go_sem]
      refine hKR9 _ ?_
      refine hK12 _ ?_
      refine awp_seq_k (fun K13 hK13 => ?_)
      refine awp_seq_k (fun K14 hK14 => ?_)
      refine awp_plain 3 (by kernel_rfl) rfl (fun g10 hg10 => ?_)
      simp only [go_sem]
      refine hK14 _ ?_
      refine awp_block ?_
      refine awp_nil 6 34 3 rfl fun gn hgn => ?_
      refine awp_loop (fun m s => ∃ k a i, k ≤ 2 ∧ m = 2 - k ∧ Le { env := [(6, .own ⟨a, i, 0⟩ 0), (25, .sl true [noS, noS]), (26, dN 2), (27, dN k)], σ := [(⟨a, i, 0⟩, .arr 34 3 [])] } s) 2 ?_ ?_
      · refine ⟨0, gn, 0, Nat.zero_le _, rfl, le_of ?_⟩
        simp only [go_sem]
        first | exact rfl | exact ⟨rfl, rfl⟩ | trivial
      · rintro m s ⟨k, a, i, hk, rfl, hle⟩
        refine awp_keep hle ?_
        clear hle
        refine awp_seq_k (fun K15 hK15 => ?_)
        by_cases hlt : k < 2
        · have hlt' : (k : Int) < ((2 : Nat) : Int) := by omega
          refine awp_plain 1 (by kernel_rfl) rfl (fun g11 hg11 => ?_)
          simp only [go_sem, hlt', decide_true]
          refine hK15 _ ?_
          refine awp_seq_k (fun K16 hK16 => ?_)
          refine awp_t rfl ?_
          refine awp_skip ?_
          refine hK16 _ ?_
          refine awp_seq_k (fun K17 hK17 => ?_)
          refine awp_block ?_
          refine awp_seq_k (fun K18 hK18 => ?_)
          refine awp_plain 3 (by kernel_rfl) rfl (fun g12 hg12 => ?_)
          simp only [go_sem, nn_get k hlt]
          refine hK18 _ ?_
          refine awp_ops (by kernel_rfl) rfl (fun g13 hg13 ops13 KR13 hops13 hKR13 => ?_)
          refine aops_eval 2 hops13 ?_
          simp only [go_sem]
          refine aops_app hops13 rfl rfl rfl rfl rfl es32 sz34 by34 ze34 rfl (by decide) ?_
          simp only [go_sem]
          first | refine ⟨⟨by omega, by omega⟩, ?_⟩ | skip
          refine aops_last 1 hops13 ?_
          simp only [go_sem]
          refine hKR13 _ ?_
          refine hK17 _ ?_
          refine awp_plain 2 (by kernel_rfl) rfl (fun g14 hg14 => ?_)
          simp only [go_sem]
          try simp (disch := omega) only [wrapN]
          refine ⟨_, ?_, k + 1, g13, 33, hlt, rfl, le_of ?_⟩
          · omega
          simp only [go_sem]
          first | exact rfl | exact ⟨rfl, rfl⟩ | trivial
        · have : k = 2 := by omega
          subst this
          refine awp_plain 1 (by kernel_rfl) rfl (fun g11 hg11 => ?_)
          simp only [go_sem, show (((2 : Nat) : Int) < ((2 : Nat) : Int)) = False from eq_false (by decide), decide_false]
          refine hK15 _ ?_
          refine awp_seq_k (fun K19 hK19 => ?_)
          refine awp_f rfl ?_
          refine awp_exit ?_
          refine hK13 _ ?_
          refine awp_seq_k (fun K20 hK20 => ?_)
          refine awp_plain 2 (by kernel_rfl) rfl (fun g15 hg15 => ?_)
          simp only [go_sem]
          refine hK20 _ ?_
          refine awp_ret ?_
          refine ret_frz ⟨a, i, 0⟩ ?_
          simp only [go_sem]
          refine ends_ev rfl ?_
          simp only [go_sem]
          exact Co.inexact _ _
end Go.Proofs.T

