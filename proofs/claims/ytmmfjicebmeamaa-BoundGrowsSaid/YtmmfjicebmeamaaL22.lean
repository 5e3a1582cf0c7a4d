/- A part of the proof, under no conditions of its own: L22. -/
import Derived.Test.YtmmfjicebmeamaaP9
import Derived.Test.YtmmfjicebmeamaaN3
namespace Go.Proofs.T
open Go Go.Ab Go.RowKit

/-! ## The laws -/

set_option maxRecDepth 100000 in
theorem numbers_calls (a b : Int) (n h : Nat) (ha : 0 ≤ a ∧ a ≤ 18446744073709551615) (hb : 0 ≤ b ∧ b ≤ 18446744073709551615) (hn : n ≤ 255) (hh : h ≤ 255) (g d : Nat) :
    ACalls E 3 [.val (.int .u64 a), .val (.int .u64 b), .val (.int .u8 n), .val (.int .u8 h)] [] g d (dB true) [] := by
  obtain ⟨a1, a2⟩ := ha
  obtain ⟨b1, b2⟩ := hb
  obtain ⟨x, hx⟩ : ∃ x, Int.tmod a 4611686018427387904 = x := ⟨_, rfl⟩
  obtain ⟨y, hy⟩ : ∃ y, Int.tmod b 4611686018427387904 = y := ⟨_, rfl⟩
  have ix : inR x := by
    rw [Int.tmod_eq_emod_of_nonneg a1] at hx
    unfold inR
    omega
  have iy : inR y := by
    rw [Int.tmod_eq_emod_of_nonneg b1] at hy
    unfold inR
    omega
  have wx : IntKind.i64.wrap x = x := wrapN _ (by unfold inR at ix; omega) (by unfold inR at ix; omega)
  have wy : IntKind.i64.wrap y = y := wrapN _ (by unfold inR at iy; omega) (by unfold inR at iy; omega)
  have wn : IntKind.i64.wrap (n : Int) = (n : Int) := wrapN _ (by omega) (by omega)
  have wh : IntKind.i64.wrap (h : Int) = (h : Int) := wrapN _ (by omega) (by omega)
  have m70 : Int.tmod (n : Int) 70 = ((n % 70 : Nat) : Int) := by rw [Int.tmod_eq_emod_of_nonneg (by omega)]; omega
  have m8 : Int.tmod ((n % 70 : Nat) : Int) 8 = ((n % 70 % 8 : Nat) : Int) := by rw [Int.tmod_eq_emod_of_nonneg (by omega)]; omega
  have m40 : Int.tmod (h : Int) 40 = ((h % 40 : Nat) : Int) := by rw [Int.tmod_eq_emod_of_nonneg (by omega)]; omega
  refine acalls_of_awp (fn := Try.f3) (N := 65) Try.call3 Try.func3 rfl rfl (by simp) ?_
  simp only [go_sem]
  refine awp_seq_k (fun K1 hK1 => ?_)
  refine awp_plain 1 (by kernel_rfl) rfl (fun g0 hg0 => ?_)
  simp only [go_sem]
  refine hK1 _ ?_
  refine awp_seq_k (fun K2 hK2 => ?_)
  refine awp_seq_k (fun K3 hK3 => ?_)
  refine awp_ops (by kernel_rfl) rfl (fun g1 hg1 ops1 KR1 hops1 hKR1 => ?_)
  refine aops_eval 0 hops1 ?_
  simp only [go_sem]
  refine aops_pure hops1 rfl rfl rfl (awake22_calls _ _) (CoL.refl _) ?_
  refine aops_last 1 hops1 ?_
  simp only [go_sem]
  refine hKR1 _ ?_
  refine hK3 _ ?_
  refine awp_f rfl ?_
  refine awp_skip ?_
  refine hK2 _ ?_
  refine awp_seq_k (fun K4 hK4 => ?_)
  refine awp_plain 4 (by kernel_rfl) rfl (fun g3 hg3 => ?_)
  simp only [go_sem, hx, wx]
  try simp (disch := omega) only [wrapN, wrapB, Int.tdiv_eq_ediv_of_nonneg, Int.tmod_eq_emod_of_nonneg]
  refine hK4 _ ?_
  refine awp_seq_k (fun K5 hK5 => ?_)
  refine awp_plain 4 (by kernel_rfl) rfl (fun g4 hg4 => ?_)
  simp only [go_sem, hy, wy]
  try simp (disch := omega) only [wrapN, wrapB, Int.tdiv_eq_ediv_of_nonneg, Int.tmod_eq_emod_of_nonneg]
  refine hK5 _ ?_
  refine awp_seq_k (fun K6 hK6 => ?_)
  refine awp_plain 4 (by kernel_rfl) rfl (fun g5 hg5 => ?_)
  simp only [go_sem, wn, m70]
  try simp (disch := omega) only [wrapN, wrapB, Int.tdiv_eq_ediv_of_nonneg, Int.tmod_eq_emod_of_nonneg]
  refine hK6 _ ?_
  refine awp_seq_k (fun K7 hK7 => ?_)
  refine awp_ops (by kernel_rfl) rfl (fun g6 hg6 ops6 KR6 hops6 hKR6 => ?_)
  refine aops_eval 2 hops6 ?_
  simp only [go_sem]
  refine aops_pure hops6 rfl rfl rfl (add_calls x y ix iy _ _) (CoL.refl _) ?_
  refine aops_eval 2 hops6 ?_
  simp only [go_sem]
  refine aops_pure hops6 rfl rfl rfl (refAdd_calls x y ix iy _ _) (CoL.refl _) ?_
  refine aops_eval 4 hops6 ?_
  simp only [go_sem, decide_true]
  refine aops_pure hops6 rfl rfl rfl (mul_calls x y ix iy _ _) (CoL.refl _) ?_
  refine aops_eval 2 hops6 ?_
  simp only [go_sem]
  refine aops_pure hops6 rfl rfl rfl (refMul_calls x y ix iy _ _) (CoL.refl _) ?_
  refine aops_eval 5 hops6 ?_
  simp only [go_sem, decide_true]
  refine aops_pure hops6 rfl rfl rfl (pow_calls x (n % 70) ix (by omega) _ _) (CoL.refl _) ?_
  refine aops_eval 2 hops6 ?_
  simp only [go_sem]
  refine aops_pure hops6 rfl rfl rfl (refPow_calls x ix (n % 70) (by omega) _ _) (CoL.refl _) ?_
  refine aops_eval 9 hops6 ?_
  simp only [go_sem, decide_true, m8, wh, m40]
  try simp (disch := omega) only [wrapN, wrapB, Int.tdiv_eq_ediv_of_nonneg, Int.tmod_eq_emod_of_nonneg]
  refine aops_pure hops6 rfl rfl rfl (types_calls x (n % 70 % 8) (h % 40) ix (by omega) (by omega) _ _) (CoL.refl _) ?_
  refine aops_eval 6 hops6 ?_
  simp only [go_sem, m8, wh, m40]
  try simp (disch := omega) only [wrapN, wrapB, Int.tdiv_eq_ediv_of_nonneg, Int.tmod_eq_emod_of_nonneg]
  refine aops_pure hops6 rfl rfl rfl (refTypes_calls x (n % 70 % 8) ix (by omega) (h % 40) (by omega) _ _) (CoL.refl _) ?_
  refine aops_last 3 hops6 ?_
  simp only [go_sem, decide_true]
  refine hKR6 _ ?_
  refine hK7 _ ?_
  refine awp_ret ?_
  refine ends_ev rfl ?_
  simp only [go_sem]
  exact Co.refl _
set_option maxRecDepth 100000 in
theorem grows_calls (d' a h : Nat) (hd : d' ≤ 255) (ha : a ≤ 255) (hh : h ≤ 255) (g d : Nat) :
    ACalls E 4 [.val (.int .u8 d'), .val (.int .u8 a), .val (.int .u8 h)] [] g d (dB true) [] := by
  have wd : IntKind.i64.wrap (d' : Int) = (d' : Int) := wrapN _ (by omega) (by omega)
  have wa : IntKind.i64.wrap (a : Int) = (a : Int) := wrapN _ (by omega) (by omega)
  have wh : IntKind.i64.wrap (h : Int) = (h : Int) := wrapN _ (by omega) (by omega)
  have m8 : Int.tmod (a : Int) 8 = ((a % 8 : Nat) : Int) := by rw [Int.tmod_eq_emod_of_nonneg (by omega)]; omega
  have m30 : Int.tmod (h : Int) 30 = ((h % 30 : Nat) : Int) := by rw [Int.tmod_eq_emod_of_nonneg (by omega)]; omega
  have ix : inR (d' : Int) := by unfold inR; omega
  have iy : inR ((d' : Int) + 1) := by unfold inR; omega
  have w1 : IntKind.i64.wrap ((d' : Int) + 1) = (d' : Int) + 1 := wrapN _ (by omega) (by omega)
  have w2 : IntKind.i64.wrap (((a % 8 : Nat) : Int) + 1) = ((a % 8 + 1 : Nat) : Int) := by rw [wrapN _ (by omega) (by omega)]; omega
  have w3 : IntKind.i64.wrap (((h % 30 : Nat) : Int) + 1) = ((h % 30 + 1 : Nat) : Int) := by rw [wrapN _ (by omega) (by omega)]; omega
  have mo1 := typS_d ix iy (by omega) (a % 8) (h % 30)
  have mo2 := typS_a ix (a % 8) (h % 30)
  have mo3 := typS_h ix (a % 8) (h % 30)
  refine acalls_of_awp (fn := Try.f4) (N := 58) Try.call4 Try.func4 rfl rfl (by simp) ?_
  simp only [go_sem]
  refine awp_seq_k (fun K1 hK1 => ?_)
  refine awp_plain 1 (by kernel_rfl) rfl (fun g0 hg0 => ?_)
  simp only [go_sem]
  refine hK1 _ ?_
  refine awp_seq_k (fun K2 hK2 => ?_)
  refine awp_seq_k (fun K3 hK3 => ?_)
  refine awp_ops (by kernel_rfl) rfl (fun g1 hg1 ops1 KR1 hops1 hKR1 => ?_)
  refine aops_eval 0 hops1 ?_
  simp only [go_sem]
  refine aops_pure hops1 rfl rfl rfl (awake22_calls _ _) (CoL.refl _) ?_
  refine aops_last 1 hops1 ?_
  simp only [go_sem]
  refine hKR1 _ ?_
  refine hK3 _ ?_
  refine awp_f rfl ?_
  refine awp_skip ?_
  refine hK2 _ ?_
  refine awp_seq_k (fun K4 hK4 => ?_)
  refine awp_plain 3 (by kernel_rfl) rfl (fun g3 hg3 => ?_)
  simp only [go_sem, wd]
  try simp (disch := omega) only [wrapN, wrapB, Int.tdiv_eq_ediv_of_nonneg, Int.tmod_eq_emod_of_nonneg]
  refine hK4 _ ?_
  refine awp_seq_k (fun K5 hK5 => ?_)
  refine awp_plain 4 (by kernel_rfl) rfl (fun g4 hg4 => ?_)
  simp only [go_sem, wa, m8]
  try simp (disch := omega) only [wrapN, wrapB, Int.tdiv_eq_ediv_of_nonneg, Int.tmod_eq_emod_of_nonneg]
  refine hK5 _ ?_
  refine awp_seq_k (fun K6 hK6 => ?_)
  refine awp_plain 4 (by kernel_rfl) rfl (fun g5 hg5 => ?_)
  simp only [go_sem, wh, m30]
  try simp (disch := omega) only [wrapN, wrapB, Int.tdiv_eq_ediv_of_nonneg, Int.tmod_eq_emod_of_nonneg]
  refine hK6 _ ?_
  refine awp_seq_k (fun K7 hK7 => ?_)
  refine awp_ops (by kernel_rfl) rfl (fun g6 hg6 ops6 KR6 hops6 hKR6 => ?_)
  refine aops_eval 3 hops6 ?_
  simp only [go_sem]
  refine aops_pure hops6 rfl rfl rfl (types_calls (d' : Int) (a % 8) (h % 30) ix (by omega) (by omega) _ _) (CoL.refl _) ?_
  refine aops_last 1 hops6 ?_
  simp only [go_sem]
  refine hKR6 _ ?_
  refine hK7 _ ?_
  refine awp_seq_k (fun K8 hK8 => ?_)
  refine awp_ops (by kernel_rfl) rfl (fun g7 hg7 ops7 KR7 hops7 hKR7 => ?_)
  refine aops_eval 4 hops7 ?_
  simp only [go_sem]
  refine aops_pure hops7 rfl rfl rfl (refTypes_calls (d' : Int) (a % 8) ix (by omega) (h % 30) (by omega) _ _) (CoL.refl _) ?_
  refine aops_eval 7 hops7 ?_
  simp only [go_sem, decide_true, w1]
  try simp (disch := omega) only [wrapN, wrapB, Int.tdiv_eq_ediv_of_nonneg, Int.tmod_eq_emod_of_nonneg]
  refine aops_pure hops7 rfl rfl rfl (types_calls ((d' : Int) + 1) (a % 8) (h % 30) iy (by omega) (by omega) _ _) (CoL.refl _) ?_
  refine aops_eval 8 hops7 ?_
  simp only [go_sem, mo1, decide_true, w2]
  try simp (disch := omega) only [wrapN, wrapB, Int.tdiv_eq_ediv_of_nonneg, Int.tmod_eq_emod_of_nonneg]
  refine aops_pure hops7 rfl rfl rfl (types_calls (d' : Int) (a % 8 + 1) (h % 30) ix (by omega) (by omega) _ _) (CoL.refl _) ?_
  refine aops_eval 8 hops7 ?_
  simp only [go_sem, mo2, decide_true, w3]
  try simp (disch := omega) only [wrapN, wrapB, Int.tdiv_eq_ediv_of_nonneg, Int.tmod_eq_emod_of_nonneg]
  refine aops_pure hops7 rfl rfl rfl (types_calls (d' : Int) (a % 8) (h % 30 + 1) ix (by omega) (by omega) _ _) (CoL.refl _) ?_
  refine aops_last 3 hops7 ?_
  simp only [go_sem, mo3, decide_true]
  refine hKR7 _ ?_
  refine hK8 _ ?_
  refine awp_ret ?_
  refine ends_ev rfl ?_
  simp only [go_sem]
  exact Co.refl _
end Go.Proofs.T

