/- A part of the proof, under no conditions of its own: D2. -/
import Derived.Test.YtgclmhkkiafmjaaDoorD1
import Derived.Test.YtgclmhkkiafmjaaDoorL10
import Derived.Lib.ItoaLen
namespace Go.Proofs.T
open Go Go.Ab Go.RowKit

/-! ## Decimal numerals -/

def decS (u : Nat) : Str := ⟨(Lib.decDigits u).toArray⟩
theorem decS_size (u : Nat) (h : u ≤ 9223372036854775808) : (decS u).size ≤ 20 := by
  have h1 : (decS u).size = (Lib.decDigits u).length := by simp [decS, ByteArray.size]
  rw [h1, Lib.decDigits_length]
  exact Lib.nDigits_le20 u (by omega)
def digits : Str := ⟨#[48, 49, 50, 51, 52, 53, 54, 55, 56, 57]⟩
theorem digit {u : Nat} (h : u < 10) : digits.extract u (u + 1) = decS u := by
  unfold decS
  rw [Lib.decDigits, dif_pos h]
  have : ∀ v : Fin 10, digits.extract v.1 (v.1 + 1) = ⟨[UInt8.ofNat (48 + v.1)].toArray⟩ := by decide
  have := this ⟨u, h⟩
  simpa using this
theorem decS_step {u : Nat} (h : ¬ u < 10) : decS (u / 10) ++ decS (u % 10) = decS u := by
  unfold decS
  conv => rhs; rw [Lib.decDigits, dif_neg h]
  rw [Lib.decDigits.eq_1 (u % 10), dif_pos (by omega)]
  apply ByteArray.ext
  simp only [ByteArray.data_append]
  rw [← List.append_toArray]
def decI (n : Int) : Str := ⟨(Lib.itoa n).toArray⟩
theorem decI_nat (u : Nat) : decI (u : Int) = decS u := by unfold decI decS; rw [Lib.itoa_nonneg]
theorem decI_neg (u : Nat) (h : 1 ≤ u) : decI (-(u : Int)) = ⟨#[45]⟩ ++ decS u := by
  unfold decI decS
  rw [Lib.itoa_neg u h]
  apply ByteArray.ext
  simp [ByteArray.data_append]
theorem itoa2_calls (n : Int) (hn : okI n) (g d : Nat) : ACalls E 25 [dI n] [] g d (encS (decI n)) [] := by
  refine acalls_grown (l := [.int .i64 n]) Tryd.call25 fun w0 hA w hb => ?_
  exact Tryd.strconv_Itoa n hn.1 hn.2 w (tab_keeps hA.tab hb)

set_option maxRecDepth 100000 in
theorem decN_calls : ∀ (u : Nat), u ≤ 9223372036854775807 → ∀ g d, ACalls E 24 [dN u] [] g d (encS (decS u)) [] := by
  intro u
  induction u using Nat.strongRecOn with
  | _ u ih =>
    intro hu g d
    have h0 : ¬ (u : Int) < 0 := by omega
    have h9 : ¬ (u : Int) < -9 := by omega
    refine acalls_of_awp (fn := Tryd.f24) (N := 38) Tryd.call24 Tryd.func24 rfl rfl (by simp) ?_
    simp only [go_sem]
    refine awp_seq_k (fun K1 hK1 => ?_)
    refine awp_plain 1 (by kernel_rfl) rfl (fun g0 hg0 => ?_)
    simp only [go_sem]
    refine hK1 _ ?_
    refine awp_seq_k (fun K2 hK2 => ?_)
    refine awp_seq_k (fun K3 hK3 => ?_)
    refine awp_plain 2 (by kernel_rfl) rfl (fun g1 hg1 => ?_)
    simp only [go_sem, h9]
    refine hK3 _ ?_
    refine awp_f rfl ?_
    refine awp_skip ?_
    refine hK2 _ ?_
    refine awp_seq_k (fun K4 hK4 => ?_)
    refine awp_seq_k (fun K5 hK5 => ?_)
    refine awp_plain 2 (by kernel_rfl) rfl (fun g3 hg3 => ?_)
    simp only [go_sem, h0]
    refine hK5 _ ?_
    refine awp_f rfl ?_
    refine awp_skip ?_
    refine hK4 _ ?_
    refine awp_seq_k (fun K6 hK6 => ?_)
    refine awp_plain 1 (by kernel_rfl) rfl (fun g5 hg5 => ?_)
    simp only [go_sem]
    refine hK6 _ ?_
    refine awp_seq_k (fun K7 hK7 => ?_)
    refine awp_seq_k (fun K8 hK8 => ?_)
    by_cases h : u < 10
    · have h' : (u : Int) < 10 := by omega
      have hc : (u : Int) ≤ (u : Int) + 1 ∧ (u : Int) + 1 ≤ ((10 : Nat) : Int) := by omega
      have hd : (⟨#[48, 49, 50, 51, 52, 53, 54, 55, 56, 57]⟩ : ByteArray).extract u ((u : Int) + 1).toNat = decS u := by
        rw [show ((u : Int) + 1).toNat = u + 1 by omega]
        exact digit h
      refine awp_plain 2 (by kernel_rfl) rfl (fun g6 hg6 => ?_)
      simp only [go_sem, h']
      refine hK8 _ ?_
      refine awp_t rfl ?_
      refine awp_seq_k (fun K9 hK9 => ?_)
      have hw : IntKind.i64.wrap ((u : Int) + 1) = (u : Int) + 1 := wrapN _ (by omega) (by omega)
      refine awp_plain 6 (by kernel_rfl) rfl (fun g7 hg7 => ?_)
      simp only [go_sem, hw, hc, hd]
      try simp (disch := omega) only [wrapN, wrapB, Int.tdiv_eq_ediv_of_nonneg, Int.tmod_eq_emod_of_nonneg]
      refine hK9 _ ?_
      refine awp_ret ?_
      refine ends_ev rfl ?_
      simp only [go_sem]
      exact Co.refl _
    · have h' : ¬ (u : Int) < 10 := by omega
      have hc : 0 ≤ (u : Int) % 10 ∧ (u : Int) % 10 ≤ (u : Int) % 10 + 1 ∧ (u : Int) % 10 + 1 ≤ ((10 : Nat) : Int) := by omega
      have hd : (⟨#[48, 49, 50, 51, 52, 53, 54, 55, 56, 57]⟩ : ByteArray).extract ((u : Int) % 10).toNat ((u : Int) % 10 + 1).toNat = decS (u % 10) := by
        rw [show ((u : Int) % 10 + 1).toNat = u % 10 + 1 by omega, show ((u : Int) % 10).toNat = u % 10 by omega]
        exact digit (by omega)
      have hz : (decS (u / 10)).size + (decS (u % 10)).size ≤ 9223372036854775807 := by
        have := decS_size (u / 10) (by omega)
        have := decS_size (u % 10) (by omega)
        omega
      have ht : (u : Int).tmod 10 = (u : Int) % 10 := Int.tmod_eq_emod_of_nonneg (by omega)
      have hw : IntKind.i64.wrap ((u : Int) % 10 + 1) = (u : Int) % 10 + 1 := wrapN _ (by omega) (by omega)
      refine awp_plain 2 (by kernel_rfl) rfl (fun g6 hg6 => ?_)
      simp only [go_sem, h']
      refine hK8 _ ?_
      refine awp_f rfl ?_
      refine awp_skip ?_
      refine hK7 _ ?_
      refine awp_seq_k (fun K10 hK10 => ?_)
      refine awp_any 11 (by kernel_rfl) (by kernel_rfl) rfl (fun g8 hg8 ops8 KR8 hops8 hKR8 => ?_)
      refine qrun_eval 2 hops8 ?_
      simp only [go_sem]
      try simp (disch := omega) only [wrapN, Int.tdiv_eq_ediv_of_nonneg]
      refine qrun_pure hops8 rfl rfl rfl (ih (u / 10) (by omega) (by omega) _ _) (CoL.refl _) rfl ?_
      refine qrun_last 8 hops8 ?_
      simp only [go_sem, ht, hw, hc, hd, hz]
      try simp (disch := omega) only [wrapN, wrapB, Int.tdiv_eq_ediv_of_nonneg, Int.tmod_eq_emod_of_nonneg]
      refine aops_last 1 hops8 ?_
      simp only [go_sem]
      refine hKR8 _ ?_
      refine hK10 _ ?_
      refine awp_ret ?_
      rw [← decS_step h]
      refine ends_ev rfl ?_
      simp only [go_sem]
      exact Co.refl _

set_option maxRecDepth 100000 in
theorem decNeg_calls : ∀ (u : Nat), 1 ≤ u → u ≤ 9223372036854775808 → ∀ g d, ACalls E 24 [dI (-(u : Int))] [] g d (encS (⟨#[45]⟩ ++ decS u)) [] := by
  intro u
  induction u using Nat.strongRecOn with
  | _ u ih =>
    intro h1 hu g d
    have e0 : (u : Int).tdiv 10 = ((u / 10 : Nat) : Int) := by rw [Int.tdiv_eq_ediv_of_nonneg (by omega)]; omega
    have e1 : (-(u : Int)).tdiv 10 = -((u / 10 : Nat) : Int) := by rw [Int.neg_tdiv, e0]
    have e2 : (-(u : Int)).tmod 10 = -((u % 10 : Nat) : Int) := by rw [Int.neg_tmod, Int.tmod_eq_emod_of_nonneg (by omega)]; omega
    have w1 : IntKind.i64.wrap (-((u / 10 : Nat) : Int)) = -((u / 10 : Nat) : Int) := wrapN _ (by omega) (by omega)
    have w2 : IntKind.i64.wrap (0 - -((u % 10 : Nat) : Int)) = ((u % 10 : Nat) : Int) := by rw [wrapN _ (by omega) (by omega)]; omega
    refine acalls_of_awp (fn := Tryd.f24) (N := 38) Tryd.call24 Tryd.func24 rfl rfl (by simp) ?_
    simp only [go_sem]
    refine awp_seq_k (fun K1 hK1 => ?_)
    refine awp_plain 1 (by kernel_rfl) rfl (fun g0 hg0 => ?_)
    simp only [go_sem]
    refine hK1 _ ?_
    refine awp_seq_k (fun K2 hK2 => ?_)
    refine awp_seq_k (fun K3 hK3 => ?_)
    by_cases h9 : -(u : Int) < -9
    · have hz : 1 + (decS (u / 10)).size + (decS (u % 10)).size ≤ 9223372036854775807 := by
        have := decS_size (u / 10) (by omega)
        have := decS_size (u % 10) (by omega)
        omega
      refine awp_plain 2 (by kernel_rfl) rfl (fun g1 hg1 => ?_)
      simp only [go_sem, h9]
      refine hK3 _ ?_
      refine awp_t rfl ?_
      refine awp_seq_k (fun K4 hK4 => ?_)
      refine awp_ops (by kernel_rfl) rfl (fun g2 hg2 ops2 KR2 hops2 hKR2 => ?_)
      refine aops_eval 2 hops2 ?_
      simp only [go_sem, e1, w1]
      try simp (disch := omega) only [wrapN, wrapB, Int.tdiv_eq_ediv_of_nonneg, Int.tmod_eq_emod_of_nonneg]
      refine aops_pure hops2 rfl rfl rfl (ih (u / 10) (by omega) (by omega) (by omega) _ _) (CoL.refl _) ?_
      refine aops_eval 3 hops2 ?_
      simp only [go_sem, e2, w2]
      try simp (disch := omega) only [wrapN, wrapB, Int.tdiv_eq_ediv_of_nonneg, Int.tmod_eq_emod_of_nonneg]
      refine aops_pure hops2 rfl rfl rfl (decN_calls (u % 10) (by omega) _ _) (CoL.refl _) ?_
      refine aops_last 2 hops2 ?_
      simp only [go_sem, hz]
      try simp (disch := omega) only [wrapN, wrapB, Int.tdiv_eq_ediv_of_nonneg, Int.tmod_eq_emod_of_nonneg]
      refine hKR2 _ ?_
      refine hK4 _ ?_
      refine awp_ret ?_
      have hcat : (⟨#[45]⟩ : Str) ++ decS (u / 10) ++ decS (u % 10) = ⟨#[45]⟩ ++ decS u := by
        rw [ByteArray.append_assoc, decS_step (by omega)]
      rw [← hcat]
      refine ends_ev rfl ?_
      simp only [go_sem]
      exact Co.refl _
    · have h0 : -(u : Int) < 0 := by omega
      have w3 : IntKind.i64.wrap (0 - -(u : Int)) = (u : Int) := by rw [wrapN _ (by omega) (by omega)]; omega
      have hz : 1 + (decS u).size ≤ 9223372036854775807 := by
        have := decS_size u (by omega)
        omega
      refine awp_plain 2 (by kernel_rfl) rfl (fun g1 hg1 => ?_)
      simp only [go_sem, h9]
      refine hK3 _ ?_
      refine awp_f rfl ?_
      refine awp_skip ?_
      refine hK2 _ ?_
      refine awp_seq_k (fun K5 hK5 => ?_)
      refine awp_seq_k (fun K6 hK6 => ?_)
      refine awp_plain 2 (by kernel_rfl) rfl (fun g3 hg3 => ?_)
      simp only [go_sem, h0]
      refine hK6 _ ?_
      refine awp_t rfl ?_
      refine awp_seq_k (fun K7 hK7 => ?_)
      refine awp_ops (by kernel_rfl) rfl (fun g4 hg4 ops4 KR4 hops4 hKR4 => ?_)
      refine aops_eval 2 hops4 ?_
      simp only [go_sem, w3]
      try simp (disch := omega) only [wrapN, wrapB, Int.tdiv_eq_ediv_of_nonneg, Int.tmod_eq_emod_of_nonneg]
      refine aops_pure hops4 rfl rfl rfl (decN_calls u (by omega) _ _) (CoL.refl _) ?_
      refine aops_last 2 hops4 ?_
      simp only [go_sem, hz]
      try simp (disch := omega) only [wrapN, wrapB, Int.tdiv_eq_ediv_of_nonneg, Int.tmod_eq_emod_of_nonneg]
      refine hKR4 _ ?_
      refine hK7 _ ?_
      refine awp_ret ?_
      refine ends_ev rfl ?_
      simp only [go_sem]
      exact Co.refl _

theorem decI_calls (n : Int) (hn : okI n) (g d : Nat) : ACalls E 24 [dI n] [] g d (encS (decI n)) [] := by
  obtain ⟨hn1, hn2⟩ := hn
  by_cases h0 : n < 0
  · obtain ⟨u, rfl⟩ : ∃ u : Nat, n = -(u : Int) := ⟨n.natAbs, by omega⟩
    rw [decI_neg u (by omega)]
    exact decNeg_calls u (by omega) (by omega) g d
  · obtain ⟨u, rfl⟩ : ∃ u : Nat, n = (u : Int) := ⟨n.toNat, by omega⟩
    rw [decI_nat]
    exact decN_calls u (by omega) g d
end Go.Proofs.T

