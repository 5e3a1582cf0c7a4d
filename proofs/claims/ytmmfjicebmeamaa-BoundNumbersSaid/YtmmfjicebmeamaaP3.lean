/- A part of the proof, under no conditions of its own: P3. -/
import Derived.Test.YtmmfjicebmeamaaP2
namespace Go.Proofs.T
open Go Go.Ab Go.RowKit

/-! ## The types of the program -/

set_option maxRecDepth 100000 in
theorem copies_calls (l : List Ty) (hl : l.length ≤ 1000000) (h : ∀ t ∈ l, smTy t) (g d : Nat) : ACalls E 32 [slTy l, .func (.func 33) [] []] [] g d (slTy l) [] := by
  refine acalls_of_awp (fn := Try.f32) (N := 22) Try.call32 Try.func32 rfl rfl (by simp) ?_
  simp only [go_sem]
  refine awp_seq_k (fun K1 hK1 => ?_)
  refine awp_plain 1 (by kernel_rfl) rfl (fun g0 hg0 => ?_)
  simp only [go_sem]
  refine hK1 _ ?_
  refine awp_seq_k (fun K2 hK2 => ?_)
  refine awp_plain 1 (by kernel_rfl) rfl (fun g1 hg1 => ?_)
  simp only [go_sem]
  refine hK2 _ ?_
  refine awp_seq_k (fun K3 hK3 => ?_)
  refine awp_seq_k (fun K4 hK4 => ?_)
  refine awp_plain 3 (by kernel_rfl) rfl (fun g2 hg2 => ?_)
  simp only [go_sem]
  refine hK4 _ ?_
  refine awp_block ?_
  refine awp_nil 5 34 3 rfl fun gn hgn => ?_
  refine awp_loop (fun m s => ∃ k a i, k ≤ l.length ∧ m = l.length - k ∧
      Le { env := [(1, .func (.func 33) [] []), (8, slTy l), (9, dN l.length), (10, dN k), (5, .own ⟨a, i, 0⟩ k)], σ := [(⟨a, i, 0⟩, .arr 34 3 ((l.take k).map encTy))] } s) l.length ?_ ?_
  · refine ⟨0, gn, 0, Nat.zero_le _, rfl, le_of ?_⟩
    simp only [go_sem]
    trivial
  · rintro m s ⟨k, a, i, hk, rfl, hle⟩
    refine awp_keep hle ?_
    clear hle
    by_cases hlt : k < l.length
    · refine awp_seq_k (fun K5 hK5 => ?_)
      refine awp_plain 1 (by kernel_rfl) rfl (fun g3 hg3 => ?_)
      simp only [go_sem, hlt]
      refine hK5 _ ?_
      refine awp_seq_k (fun K6 hK6 => ?_)
      refine awp_t rfl ?_
      refine awp_skip ?_
      refine hK6 _ ?_
      refine awp_seq_k (fun K7 hK7 => ?_)
      refine awp_block ?_
      refine awp_seq_k (fun K8 hK8 => ?_)
      refine awp_plain 4 (by kernel_rfl) rfl (fun g4 hg4 => ?_)
      simp only [go_sem, getM hlt]
      refine hK8 _ ?_
      have hn4_a : g4 ≠ a := fresh_g hg4 i 0 (by simp [go_sem])
      refine awp_ops (by kernel_rfl) rfl (fun g5 hg5 ops5 KR5 hops5 hKR5 => ?_)
      refine aops_eval 3 hops5 ?_
      simp only [go_sem, Ne.symm hn4_a]
      refine aops_pure hops5 rfl rfl rfl (clone_calls _ (h _ (List.getElem_mem hlt)) _ _) (CoL.refl _) ?_
      refine aops_eval 1 hops5 ?_
      simp only [go_sem]
      refine aops_app hops5 rfl rfl rfl rfl rfl es32 sz34 by34 ze34 rfl (by decide) ?_
      simp only [go_sem, List.length_take_of_le (Nat.le_of_lt hlt), hn4_a]
      first | refine ⟨⟨by omega, by omega⟩, ?_⟩ | skip
      refine aops_last 1 hops5 ?_
      simp only [go_sem]
      refine hKR5 _ ?_
      refine hK7 _ ?_
      refine awp_plain 2 (by kernel_rfl) rfl (fun g6 hg6 => ?_)
      simp only [go_sem]
      try simp (disch := omega) only [wrapN]
      refine ⟨_, ?_, k + 1, g5, 19, hlt, rfl, le_of ?_⟩
      · omega
      simp only [go_sem, ← takeM _ hlt]
      omega
    · refine awp_seq_k (fun K9 hK9 => ?_)
      refine awp_plain 1 (by kernel_rfl) rfl (fun g3 hg3 => ?_)
      simp only [go_sem, hlt]
      refine hK9 _ ?_
      refine awp_seq_k (fun K10 hK10 => ?_)
      refine awp_f rfl ?_
      refine awp_exit ?_
      refine hK3 _ ?_
      refine awp_seq_k (fun K11 hK11 => ?_)
      refine awp_plain 2 (by kernel_rfl) rfl (fun g7 hg7 => ?_)
      simp only [go_sem]
      refine hK11 _ ?_
      refine awp_ret ?_
      have : k = l.length := by omega
      subst this
      refine ret_frz ⟨a, i, 0⟩ ?_
      simp only [go_sem]
      refine ends_ev rfl ?_
      simp only [go_sem]
      exact Co.of_eq (by simp [])
theorem sm_tT : smTy tT := (smTy_iff _).2 ⟨by decide, by simp [tT, Ty.args], by simp [tT, Ty.args]⟩
theorem depth_tT (g d : Nat) : ACalls E 20 [encTy tT] [] g d (dI 1) [] := by
  refine acalls_of_awp (fn := Try.f20) (N := 20) Try.call20 Try.func20 rfl rfl (by simp) ?_
  simp only [go_sem]
  refine awp_seq_k (fun K1 hK1 => ?_)
  refine awp_plain 2 (by kernel_rfl) rfl (fun g0 hg0 => ?_)
  simp only [go_sem]
  refine hK1 _ ?_
  refine awp_seq_k (fun K2 hK2 => ?_)
  refine awp_plain 1 (by kernel_rfl) rfl (fun g1 hg1 => ?_)
  simp only [go_sem]
  refine hK2 _ ?_
  refine awp_seq_k (fun K3 hK3 => ?_)
  refine awp_seq_k (fun K4 hK4 => ?_)
  refine awp_plain 4 (by kernel_rfl) rfl (fun g2 hg2 => ?_)
  simp only [go_sem, show tT.args = [] from rfl]
  refine hK4 _ ?_
  refine awp_block ?_
  refine awp_loop (fun m s => m = 0 ∧ Le { env := [(3, dI 0), (8, dN 0), (9, dN 0)], σ := [] } s) 0 ?_ ?_
  · refine ⟨rfl, le_of ?_⟩
    simp only [go_sem]
    first | exact rfl | exact ⟨rfl, rfl⟩ | trivial
  · rintro m s ⟨rfl, hle⟩
    refine awp_keep hle ?_
    clear hle
    refine awp_seq_k (fun K5 hK5 => ?_)
    refine awp_plain 1 (by kernel_rfl) rfl (fun g3 hg3 => ?_)
    simp only [go_sem, show (((0 : Nat) : Int) < ((0 : Nat) : Int)) = False from eq_false (by decide), decide_false]
    refine hK5 _ ?_
    refine awp_seq_k (fun K6 hK6 => ?_)
    refine awp_f rfl ?_
    refine awp_exit ?_
    refine hK3 _ ?_
    refine awp_seq_k (fun K7 hK7 => ?_)
    refine awp_plain 3 (by kernel_rfl) rfl (fun g7 hg7 => ?_)
    simp only [go_sem, show (0 : Int) + 1 = 1 from rfl, show IntKind.i64.wrap 1 = 1 from by decide]
    try simp (disch := omega) only [wrapN, wrapB, Int.tdiv_eq_ediv_of_nonneg, Int.tmod_eq_emod_of_nonneg]
    refine hK7 _ ?_
    refine awp_ret ?_
    refine ends_ev rfl ?_
    simp only [go_sem]
    exact Co.of_eq (by simp [])

abbrev sE : D := .val (.string ByteArray.empty)
abbrev dTc : List D := [dI 1, .val (.string sT), nilS, nilS, nilS, sE, nilS, sE, nilS, nilS, sE, nilS, dI 0, dI 0, dI 0, sE, sE, nilS, dI 0, nilS, nilS, dI 0, dI 0]
abbrev p0c : List D := [.sl true [.agg dTc], dI 3, sE, .val (.string sT), nilS, dI 0, nilS, nilS, dI 0]
theorem one_get (k : Nat) (h : k < 1) : ([.agg dTc] : List D)[k]? = some (.agg dTc) := by
  match k, h with
  | 0, _ => rfl
set_option maxRecDepth 100000 in
theorem types_p0 (g d : Nat) : ACalls E 19 [.agg p0c] [] g d (slTy [tT]) [] := by
  refine acalls_of_awp (fn := Try.f19) (N := 57) Try.call19 Try.func19 rfl rfl (by simp) ?_
  simp only [go_sem]
  refine awp_seq_k (fun K1 hK1 => ?_)
  refine awp_plain 2 (by kernel_rfl) rfl (fun g0 hg0 => ?_)
  simp only [go_sem]
  refine hK1 _ ?_
  refine awp_seq_k (fun K2 hK2 => ?_)
  refine awp_plain 1 (by kernel_rfl) rfl (fun g1 hg1 => ?_)
  simp only [go_sem]
  refine hK2 _ ?_
  refine awp_seq_k (fun K3 hK3 => ?_)
  refine awp_seq_k (fun K4 hK4 => ?_)
  refine awp_plain 4 (by kernel_rfl) rfl (fun g2 hg2 => ?_)
  simp only [go_sem]
  refine hK4 _ ?_
  refine awp_block ?_
  refine awp_nil 3 34 3 rfl fun gn hgn => ?_
  have hn : gn ≠ g0 := fresh_g hgn 1 0 (by simp [go_sem])
  refine awp_loop (fun m s => ∃ k a i, k ≤ 1 ∧ m = 1 - k ∧ a ≠ g0 ∧
      Le { env := [(1, .ptr ⟨g0, 1, 0⟩ 0), (9, .sl true [.agg dTc]), (10, dN 1), (11, dN k), (3, .own ⟨a, i, 0⟩ 0)], σ := [(⟨g0, 1, 0⟩, .box 44 p0c), (⟨a, i, 0⟩, .arr 34 3 [])] } s) 1 ?_ ?_
  · refine ⟨0, gn, 0, Nat.zero_le _, rfl, hn, le_of ?_⟩
    simp only [go_sem, hn, Ne.symm hn]
    first | exact rfl | exact ⟨rfl, rfl⟩ | trivial
  · rintro m s ⟨k, a, i, hk, rfl, ha, hle⟩
    refine awp_keep hle ?_
    clear hle
    refine awp_seq_k (fun K5 hK5 => ?_)
    by_cases hlt : k < 1
    · have hlt' : (k : Int) < ((1 : Nat) : Int) := by omega
      refine awp_plain 1 (by kernel_rfl) rfl (fun g3 hg3 => ?_)
      simp only [go_sem, hlt', decide_true]
      refine hK5 _ ?_
      refine awp_seq_k (fun K6 hK6 => ?_)
      refine awp_t rfl ?_
      refine awp_skip ?_
      refine hK6 _ ?_
      refine awp_seq_k (fun K7 hK7 => ?_)
      refine awp_block ?_
      refine awp_seq_k (fun K8 hK8 => ?_)
      refine awp_plain 4 (by kernel_rfl) rfl (fun g4 hg4 => ?_)
      simp only [go_sem, one_get k hlt]
      refine hK8 _ ?_
      refine awp_seq_k (fun K9 hK9 => ?_)
      have hn4_a : g4 ≠ a := fresh_g hg4 i 0 (by simp [go_sem, Ne.symm ha])
      have hn4_g0 : g4 ≠ g0 := fresh_g hg4 1 0 (by simp [go_sem])
      refine awp_any 9 (by kernel_rfl) (by kernel_rfl) rfl (fun g5 hg5 ops5 KR5 hops5 hKR5 => ?_)
      refine qrun_eval 3 hops5 ?_
      simp only [go_sem, Ne.symm hn4_a, Ne.symm hn4_g0]
      refine qrun_pure hops5 rfl rfl rfl (formals_none _ _) (CoL.refl _) rfl ?_
      refine qrun_eval 2 hops5 ?_
      simp only [go_sem, Ne.symm hn4_a, Ne.symm hn4_g0]
      refine qrun_pure hops5 rfl rfl rfl (params_none _ _) (CoL.refl _) rfl ?_
      refine qrun_eval 1 hops5 ?_
      simp only [go_sem]
      refine qrun_pure hops5 rfl rfl rfl (concat_none _ _) (CoL.refl _) rfl ?_
      refine qrun_last 0 hops5 ?_
      simp only [go_sem]
      refine aops_eval 0 hops5 ?_
      simp only [go_sem]
      refine aops_app hops5 rfl rfl rfl rfl rfl es32 sz34 by34 ze34 rfl (by decide) ?_
      simp only [go_sem, Ne.symm ha, hn4_a]
      first | refine ⟨⟨by omega, by omega⟩, ?_⟩ | skip
      refine aops_last 1 hops5 ?_
      simp only [go_sem]
      refine hKR5 _ ?_
      refine hK9 _ ?_
      refine awp_seq_k (fun K10 hK10 => ?_)
      refine awp_seq_k (fun K11 hK11 => ?_)
      have hn5_g0 : g5 ≠ g0 := fresh_g hg5 1 0 (by simp [go_sem, hn4_g0])
      refine awp_plain 4 (by kernel_rfl) rfl (fun g6 hg6 => ?_)
      simp only [go_sem, Ne.symm hn4_g0]
      refine hK11 _ ?_
      refine awp_block ?_
      refine awp_loop (fun m s => m = 0 ∧ Le { env := [(1, .ptr ⟨g0, 1, 0⟩ 0), (9, .sl true [.agg dTc]), (10, dN 1), (11, dN k), (3, .own ⟨g5, 24, 0⟩ 0), (5, .ptr ⟨g4, 5, 0⟩ 0), (27, dN 0), (28, dN 0)], σ := [(⟨g0, 1, 0⟩, .box 44 p0c), (⟨g4, 5, 0⟩, .box 41 dTc), (⟨g5, 24, 0⟩, .arr 34 3 [])] } s) 0 ?_ ?_
      · refine ⟨rfl, le_of ?_⟩
        simp only [go_sem, hn4_g0, Ne.symm hn4_g0, hn5_g0, Ne.symm hn5_g0]
        first | exact rfl | exact ⟨rfl, rfl⟩ | trivial
      · rintro m s ⟨rfl, hle⟩
        refine awp_keep hle ?_
        clear hle
        refine awp_seq_k (fun K12 hK12 => ?_)
        refine awp_plain 1 (by kernel_rfl) rfl (fun g7 hg7 => ?_)
        simp only [go_sem, show (((0 : Nat) : Int) < ((0 : Nat) : Int)) = False from eq_false (by decide), decide_false]
        refine hK12 _ ?_
        refine awp_seq_k (fun K13 hK13 => ?_)
        refine awp_f rfl ?_
        refine awp_exit ?_
        refine hK10 _ ?_
        refine awp_seq_k (fun K14 hK14 => ?_)
        refine awp_plain 3 (by kernel_rfl) rfl (fun g11 hg11 => ?_)
        simp only [go_sem, show ((1 : Int) = 3) = False from eq_false (by decide), decide_false, Ne.symm hn4_g0]
        refine hK14 _ ?_
        refine awp_f rfl ?_
        refine awp_skip ?_
        refine hK7 _ ?_
        refine awp_plain 2 (by kernel_rfl) rfl (fun g13 hg13 => ?_)
        simp only [go_sem]
        try simp (disch := omega) only [wrapN]
        refine ⟨_, ?_, k + 1, g5, 24, hlt, rfl, hn5_g0, le_of ?_⟩
        · omega
        simp only [go_sem, hn4_g0, hn5_g0, Ne.symm hn5_g0]
        first | exact rfl | exact ⟨rfl, rfl⟩ | trivial
    · have : k = 1 := by omega
      subst this
      refine awp_plain 1 (by kernel_rfl) rfl (fun g3 hg3 => ?_)
      simp only [go_sem, show (((1 : Nat) : Int) < ((1 : Nat) : Int)) = False from eq_false (by decide), decide_false]
      refine hK5 _ ?_
      refine awp_seq_k (fun K15 hK15 => ?_)
      refine awp_f rfl ?_
      refine awp_exit ?_
      refine hK3 _ ?_
      refine awp_seq_k (fun K16 hK16 => ?_)
      refine awp_ops (by kernel_rfl) rfl (fun g14 hg14 ops14 KR14 hops14 hKR14 => ?_)
      refine aops_eval 3 hops14 ?_
      simp only [go_sem, ha]
      refine aops_pure hops14 rfl rfl rfl (body_e0 _ _) (CoL.refl _) ?_
      refine aops_app hops14 rfl rfl rfl rfl rfl es32 sz34 by34 ze34 rfl (by decide) ?_
      simp only [go_sem, Ne.symm ha]
      first | refine ⟨⟨by omega, by omega⟩, ?_⟩ | skip
      refine aops_frz ⟨g14, 55, 0⟩ ?_
      simp only [go_sem]
      refine aops_pure hops14 rfl rfl rfl (copies_calls [tT] (by simp) (fun t ht => by rw [List.mem_singleton.1 ht]; exact sm_tT) _ _) (.cons (.inexact _ _) (.cons (.refl _) .nil)) ?_
      refine aops_last 1 hops14 ?_
      simp only [go_sem]
      refine hKR14 _ ?_
      refine hK16 _ ?_
      refine awp_ret ?_
      refine ends_ev rfl ?_
      simp only [go_sem]
      exact Co.refl _
end Go.Proofs.T

