/- A part of the proof, under no conditions of its own: P2. -/
import Derived.Test.YtmmfjicebmeamaaP1
namespace Go.Proofs.T
open Go Go.Ab Go.RowKit

/-! ## The types of one expression -/

def sT : Str := ⟨#[84]⟩
def tT : Ty := .mk sT [] 0
def e0 : Ex := .mk 3 ByteArray.empty tT [] [] 0
abbrev e0c : List D := [dI 3, .val (.string ByteArray.empty), .val (.string sT), nilS, dI 0, nilS, nilS, dI 0]
theorem coE0 : Co (.agg e0c) (encEx e0) := by
  rw [encEx_agg]
  exact .agg (.cons (.refl _) (.cons (.refl _) (.cons (.refl _) (.cons (.nil _) (.cons (.refl _) (.cons (.nil _) (.cons (.nil _) (.cons (.refl _) .nil))))))))
theorem okE0 : okEx e0 := by simp [e0, tT, okEx, okExs, okTy, okTys, sT, ByteArray.size]
theorem nodesE0 : nodesEx e0 = [e0] := by simp [e0, nodesEx, nodesExs]
theorem sub_of {l σ : Sto} (h : leS l σ) : ∀ n o, Ab.get l n = some o → Ab.get σ n = some o := fun n o hn => leS_spec h (n, o) (mem_of_get hn)

set_option maxRecDepth 100000 in
theorem body_e0 (g d : Nat) : ACalls E 31 [.agg e0c] [] g d (.sl false [encTy tT]) [] := by
  refine acalls_of_awp (fn := Try.f31) (N := 28) Try.call31 Try.func31 rfl rfl (by simp) ?_
  simp only [go_sem]
  refine awp_seq_k (fun K1 hK1 => ?_)
  refine awp_plain 2 (by kernel_rfl) rfl (fun g0 hg0 => ?_)
  simp only [go_sem]
  refine hK1 _ ?_
  refine awp_seq_k (fun K2 hK2 => ?_)
  refine awp_plain 1 (by kernel_rfl) rfl (fun g1 hg1 => ?_)
  simp only [go_sem]
  refine hK2 _ ?_
  refine awp_seq_k (fun K3 hK3 => ?_)
  refine awp_seq_k (fun K4 hK4 => ?_)
  refine awp_ops (by kernel_rfl) rfl (fun g2 hg2 ops2 KR2 hops2 hKR2 => ?_)
  refine aops_eval 1 hops2 ?_
  simp only [go_sem]
  refine aops_pure hops2 rfl rfl rfl (allX_calls e0 _ _) (.cons coE0 .nil) ?_
  refine aops_last 0 hops2 ?_
  simp only [go_sem]
  refine hKR2 _ ?_
  refine hK4 _ ?_
  refine awp_block ?_
  refine awp_nil_box ⟨g1, 3, 0⟩ 0 34 3 ?_
  simp only [go_sem]
  intro gn hgn
  have hn : gn ≠ g1 := fresh_g hgn 3 0 (by simp [go_sem])
  have hn0 : gn ≠ g0 := fresh_g hgn 1 0 (by simp [go_sem])
  refine awp_range_k rfl rfl (by decide) ((nodesEx e0).map encEx) (fun k σ => ∃ a i, a ≠ g1 ∧ ∀ n o, Ab.get [(⟨g1, 3, 0⟩, .box 32 [.own ⟨a, i, 0⟩ k]), (⟨a, i, 0⟩, .arr 34 3 (List.replicate k (encTy tT)))] n = some o → Ab.get σ n = some o) ⟨gn, 0, hn, sub_of ?_⟩ (fun n I hY => all1_calls e0 okE0 n I hY) (fun k hk σ hJ KA hKA => ?_) (fun σ hJ => ?_)
  · simp only [go_sem, hn, Ne.symm hn, Ne.symm hn0, List.replicate]
    try trivial
  · have hk0 : k = 0 := by simpa [nodesE0] using hk
    subst hk0
    obtain ⟨a, i, ha, hσ⟩ := hJ
    refine awp_keepT (st' := { env := [(7, encEx e0), (3, .ptr ⟨g1, 3, 0⟩ 0)], σ := [(⟨g1, 3, 0⟩, .box 32 [.own ⟨a, i, 0⟩ 0]), (⟨a, i, 0⟩, .arr 34 3 [])] }) ⟨leE_spec ?_, hσ⟩ ?_
    · simp only [go_sem, nodesE0]
      try trivial
    refine awp_plain 2 (by kernel_rfl) rfl (fun g3 hg3 => ?_)
    simp only [go_sem, e0, tT]
    refine hKA _ (fun KB hKB => ?_)
    refine awp_block ?_
    refine awp_seq_k (fun K5 hK5 => ?_)
    have hn3_a : g3 ≠ a := fresh_g hg3 i 0 (by simp [go_sem, Ne.symm ha])
    have hn3_g1 : g3 ≠ g1 := fresh_g hg3 3 0 (by simp [go_sem])
    refine awp_ops (by kernel_rfl) rfl (fun g4 hg4 ops4 KR4 hops4 hKR4 => ?_)
    refine aops_eval 3 hops4 ?_
    simp only [go_sem, ha, Ne.symm hn3_a, hn3_g1, Ne.symm hn3_g1]
    have hn4_a : g4 ≠ a := fresh_g hg4 i 0 (by simp [go_sem, Ne.symm ha, hn3_a])
    have hn4_g1 : g4 ≠ g1 := fresh_g hg4 3 0 (by simp [go_sem, hn3_g1])
    refine aops_app hops4 rfl rfl rfl rfl rfl es32 sz34 by34 ze34 rfl (by decide) ?_
    simp only [go_sem, Ne.symm ha, hn3_a]
    first | refine ⟨⟨by omega, by omega⟩, ?_⟩ | skip
    refine aops_last 1 hops4 ?_
    simp only [go_sem, hn3_g1, hn4_g1]
    refine hKR4 _ ?_
    refine hK5 _ ?_
    refine awp_seq_k (fun K6 hK6 => ?_)
    refine awp_plain 8 (by kernel_rfl) rfl (fun g5 hg5 => ?_)
    simp only [go_sem, decide_true, Ne.symm hn3_g1]
    refine hK6 _ ?_
    refine awp_t rfl ?_
    refine awp_anyR 5 (by kernel_rfl) (by kernel_rfl) rfl #[true, true, true, true, true, false, false, false, false] (by kernel_rfl) (fun g6 hg6 ops6 KR6 hops6 hKR6 => ?_)
    have hn61 : g6 ≠ g1 := fresh_g hg6 3 0 (by simp [go_sem])
    refine qrun_last 5 hops6 ?_
    simp only [go_sem, hn3_g1, Ne.symm hn3_g1, hn4_g1]
    refine hKR6 _ ?_
    refine aany_one 5 (by kernel_rfl) (by kernel_rfl) ?_
    refine ago_app rfl rfl rfl rfl rfl rfl rfl es32 sz34 by34 ze34 rfl (by decide) ?_
    simp only [go_sem, Ne.symm hn4_g1]
    first | refine ⟨⟨by omega, by omega⟩, ?_⟩ | skip
    refine aany_two 6 8 (by kernel_rfl) (by kernel_rfl) ?_ ?_
    · refine ago_step rfl rfl rfl ?_
      simp only [go_sem]
      refine aany_two 7 8 (by kernel_rfl) (by kernel_rfl) ?_ ?_
      · refine ago_step rfl rfl rfl ?_
        simp only [go_sem]
        refine aany_one 8 (by kernel_rfl) (by kernel_rfl) ?_
        refine ago_step rfl rfl rfl ?_
        simp only [go_sem, hn3_g1]
        refine aany_done (by kernel_rfl) (by decide) ?_
        refine hKB _ ?_
        refine ⟨g6, 25, ?_, sub_of ?_⟩
        · exact hn61
        simp only [go_sem, tT, hn3_g1]
        exact encTy_mk sT [] 0
      · refine ago_step rfl rfl rfl ?_
        simp only [go_sem, hn3_g1]
        refine aany_one 7 (by kernel_rfl) (by kernel_rfl) ?_
        refine ago_step rfl rfl rfl ?_
        simp only [go_sem]
        refine aany_done (by kernel_rfl) (by decide) ?_
        refine hKB _ ?_
        refine ⟨g6, 25, ?_, sub_of ?_⟩
        · exact hn61
        simp only [go_sem, tT, hn3_g1]
        exact encTy_mk sT [] 0
    · refine ago_step rfl rfl rfl ?_
      simp only [go_sem, hn3_g1]
      refine aany_one 6 (by kernel_rfl) (by kernel_rfl) ?_
      refine ago_step rfl rfl rfl ?_
      simp only [go_sem]
      refine aany_one 7 (by kernel_rfl) (by kernel_rfl) ?_
      refine ago_step rfl rfl rfl ?_
      simp only [go_sem]
      refine aany_done (by kernel_rfl) (by decide) ?_
      refine hKB _ ?_
      refine ⟨g6, 25, ?_, sub_of ?_⟩
      · exact hn61
      simp only [go_sem, tT, hn3_g1]
      exact encTy_mk sT [] 0
  · simp only [nodesE0, List.map_cons, List.map_nil, List.length_cons, List.length_nil, Nat.zero_add] at hJ
    obtain ⟨a, i, ha, hσ⟩ := hJ
    refine hK3 _ ?_
    refine awp_seq_k (fun K7 hK7 => ?_)
    refine awp_keepT (st' := { env := [(3, .ptr ⟨g1, 3, 0⟩ 0)], σ := [(⟨g1, 3, 0⟩, .box 32 [.own ⟨a, i, 0⟩ 1]), (⟨a, i, 0⟩, .arr 34 3 [encTy tT])] }) ⟨leE_spec ?_, hσ⟩ ?_
    · simp only [go_sem]
      try trivial
    refine awp_plain 2 (by kernel_rfl) rfl (fun g7 hg7 => ?_)
    simp only [go_sem, ha]
    refine hK7 _ ?_
    refine awp_ret ?_
    refine ret_frz ⟨a, i, 0⟩ ?_
    simp only [go_sem, Ne.symm ha]
    refine ends_ev rfl ?_
    simp only [go_sem]
    exact Co.inexact _ _
end Go.Proofs.T

