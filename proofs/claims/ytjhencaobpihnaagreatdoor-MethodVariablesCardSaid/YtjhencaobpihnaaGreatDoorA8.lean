/- A part of the proof, under no conditions of its own: A8. -/
import Derived.Test.YtjhencaobpihnaaGreatDoorYC
import Derived.Test.YtjhencaobpihnaaGreatDoorL10
import Derived.Lib.ItoaLen
namespace Go.Proofs.T
open Go Go.Ab Go.RowKit

/-! ## Decimal numerals, local names -/

def decS (u : Nat) : Str := ⟨(Lib.decDigits u).toArray⟩
theorem decS_size (u : Nat) (h : u ≤ 9223372036854775807) : (decS u).size ≤ 20 := by
  have h1 : (decS u).size = (Lib.decDigits u).length := by simp [decS, ByteArray.size]
  rw [h1, Lib.decDigits_length]
  exact Lib.nDigits_le20 u (by omega)

theorem decS_small {u : Nat} (h : u < 10) : strOfNums [48 + (u : Int)] = decS u := by
  unfold decS
  rw [Lib.decDigits, dif_pos h]
  simp only [strOfNums, List.map_cons, List.map_nil]
  congr 3
theorem decS_big {u : Nat} (h : ¬ u < 10) : decS (u / 10) ++ strOfNums [48 + ((u : Int) % 10)] = decS u := by
  unfold decS
  conv => rhs; rw [Lib.decDigits, dif_neg h]
  simp only [strOfNums, List.map_cons, List.map_nil]
  apply ByteArray.ext
  simp only [ByteArray.data_append]
  rw [← List.append_toArray]
  congr 4

set_option maxRecDepth 100000 in
theorem decimal_calls : ∀ (u : Nat), u ≤ 9223372036854775807 → ∀ g d, ACalls E 107 [dN u] [] g d (encS (decS u)) [] := by
  intro u
  induction u using Nat.strongRecOn with
  | _ u ih =>
    intro hu g d
    refine acalls_of_awp (fn := Tryz.f107) (N := 20) Tryz.call107 Tryz.func107 rfl rfl (by simp) ?_
    simp only [go_sem]
    refine awp_seq_k (fun K1 hK1 => ?_)
    refine awp_plain 1 (by kernel_rfl) rfl (fun g0 hg0 => ?_)
    simp only [go_sem]
    refine hK1 _ ?_
    refine awp_seq_k (fun K2 hK2 => ?_)
    refine awp_seq_k (fun K3 hK3 => ?_)
    by_cases h : u < 10
    · have h' : (u : Int) < 10 := by omega
      refine awp_plain 2 (by kernel_rfl) rfl (fun g1 hg1 => ?_)
      simp only [go_sem, h']
      refine hK3 _ ?_
      refine awp_t rfl ?_
      refine awp_seq_k (fun K4 hK4 => ?_)
      refine awp_plain 6 (by kernel_rfl) rfl (fun g2 hg2 => ?_)
      simp only [go_sem]
      try simp (disch := omega) only [wrapN, wrapB]
      refine hK4 _ ?_
      refine awp_ret ?_
      rw [← decS_small h]
      refine ends_ev rfl ?_
      simp only [go_sem]
      exact Co.refl _
    · have h' : ¬ (u : Int) < 10 := by omega
      have h3 : (decS (u / 10)).size + (strOfNums [48 + (u : Int) % 10]).size ≤ 9223372036854775807 := by
        have := decS_size (u / 10) (by omega)
        have h4 : (strOfNums [48 + (u : Int) % 10]).size = 1 := strOfNums_size _
        omega
      refine awp_plain 2 (by kernel_rfl) rfl (fun g1 hg1 => ?_)
      simp only [go_sem, h']
      refine hK3 _ ?_
      refine awp_f rfl ?_
      refine awp_skip ?_
      refine hK2 _ ?_
      refine awp_seq_k (fun K5 hK5 => ?_)
      refine awp_any 10 (by kernel_rfl) (by kernel_rfl) rfl (fun g3 hg3 ops3 KR3 hops3 hKR3 => ?_)
      refine qrun_eval 2 hops3 ?_
      simp only [go_sem]
      try simp (disch := omega) only [wrapN, Int.tdiv_eq_ediv_of_nonneg]
      refine qrun_pure hops3 rfl rfl rfl (ih (u / 10) (by omega) (by omega) _ _) (CoL.refl _) rfl ?_
      refine qrun_last 7 hops3 ?_
      simp only [go_sem]
      try simp (disch := omega) only [wrapN, wrapB, Int.tmod_eq_emod_of_nonneg]
      try simp only [go_sem, h3]
      try simp (disch := omega) only [wrapN, wrapB, Int.tdiv_eq_ediv_of_nonneg, Int.tmod_eq_emod_of_nonneg]
      refine aops_last 1 hops3 ?_
      simp only [go_sem]
      try simp only [go_sem, h3]
      refine hKR3 _ ?_
      refine hK5 _ ?_
      refine awp_ret ?_
      rw [← decS_big h]
      refine ends_ev rfl ?_
      simp only [go_sem]
      exact Co.refl _

def localS (u : Nat) : Str := ⟨#[36]⟩ ++ decS u

set_option maxRecDepth 100000 in
theorem refLocal_calls (u : Nat) (hu : u ≤ 9223372036854775807) (g d : Nat) : ACalls E 82 [dN u] [] g d (encS (localS u)) [] := by
  have h0 : ¬ (u : Int) < 0 := by omega
  have h3 : 1 + (decS u).size ≤ 9223372036854775807 := by
    have := decS_size u hu
    omega
  refine acalls_of_awp (fn := Tryz.f82) (N := 8) Tryz.call82 Tryz.func82 rfl rfl (by simp) ?_
  simp only [go_sem]
  refine awp_seq_k (fun K1 hK1 => ?_)
  refine awp_plain 1 (by kernel_rfl) rfl (fun g0 hg0 => ?_)
  simp only [go_sem]
  refine hK1 _ ?_
  refine awp_seq_k (fun K2 hK2 => ?_)
  refine awp_seq_k (fun K3 hK3 => ?_)
  refine awp_plain 2 (by kernel_rfl) rfl (fun g1 hg1 => ?_)
  simp only [go_sem, h0]
  refine hK3 _ ?_
  refine awp_f rfl ?_
  refine awp_skip ?_
  refine hK2 _ ?_
  refine awp_seq_k (fun K4 hK4 => ?_)
  refine awp_ops (by kernel_rfl) rfl (fun g3 hg3 ops3 KR3 hops3 hKR3 => ?_)
  refine aops_eval 1 hops3 ?_
  simp only [go_sem]
  refine aops_pure hops3 rfl rfl rfl (decimal_calls u hu _ _) (CoL.refl _) ?_
  refine aops_last 2 hops3 ?_
  simp only [go_sem, h3]
  try simp (disch := omega) only [wrapN, wrapB, Int.tdiv_eq_ediv_of_nonneg, Int.tmod_eq_emod_of_nonneg]
  refine hKR3 _ ?_
  refine hK4 _ ?_
  refine awp_ret ?_
  refine ends_ev rfl ?_
  simp only [go_sem]
  exact Co.refl _

theorem itoa_calls (u : Nat) (hu : u ≤ 9223372036854775807) (g d : Nat) : ACalls E 109 [dN u] [] g d (encS (decS u)) [] := by
  refine acalls_grown (l := [.int .i64 (u : Int)]) Tryz.call109 fun w0 hA w hb => ?_
  have := Tryz.strconv_Itoa u (by omega) (by omega) w (tab_keeps hA hb)
  rwa [Lib.itoa_nonneg] at this

set_option maxRecDepth 100000 in
theorem local_calls (u : Nat) (hu : u ≤ 9223372036854775807) (g d : Nat) : ACalls E 87 [dN u] [] g d (encS (localS u)) [] := by
  have h0 : ¬ (u : Int) < 0 := by omega
  have h3 : 1 + (decS u).size ≤ 9223372036854775807 := by
    have := decS_size u hu
    omega
  refine acalls_of_awp (fn := Tryz.f87) (N := 8) Tryz.call87 Tryz.func87 rfl rfl (by simp) ?_
  simp only [go_sem]
  refine awp_seq_k (fun K1 hK1 => ?_)
  refine awp_plain 1 (by kernel_rfl) rfl (fun g0 hg0 => ?_)
  simp only [go_sem]
  refine hK1 _ ?_
  refine awp_seq_k (fun K2 hK2 => ?_)
  refine awp_seq_k (fun K3 hK3 => ?_)
  refine awp_plain 2 (by kernel_rfl) rfl (fun g1 hg1 => ?_)
  simp only [go_sem, h0]
  refine hK3 _ ?_
  refine awp_f rfl ?_
  refine awp_skip ?_
  refine hK2 _ ?_
  refine awp_seq_k (fun K4 hK4 => ?_)
  refine awp_ops (by kernel_rfl) rfl (fun g3 hg3 ops3 KR3 hops3 hKR3 => ?_)
  refine aops_eval 1 hops3 ?_
  simp only [go_sem]
  refine aops_pure hops3 rfl rfl rfl (itoa_calls u hu _ _) (CoL.refl _) ?_
  refine aops_last 2 hops3 ?_
  simp only [go_sem, h3]
  try simp (disch := omega) only [wrapN, wrapB, Int.tdiv_eq_ediv_of_nonneg, Int.tmod_eq_emod_of_nonneg]
  refine hKR3 _ ?_
  refine hK4 _ ?_
  refine awp_ret ?_
  refine ends_ev rfl ?_
  simp only [go_sem]
  exact Co.refl _

end Go.Proofs.T

