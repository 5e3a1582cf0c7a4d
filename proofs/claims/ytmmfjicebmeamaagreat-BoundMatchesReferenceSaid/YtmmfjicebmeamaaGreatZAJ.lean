/- A part of the proof, under no conditions of its own: ZAJ. -/
import Derived.Test.YtmmfjicebmeamaaGreatZAH
import Derived.Test.YtmmfjicebmeamaaGreatZAE
import Derived.Test.YtmmfjicebmeamaaGreatZAF
namespace Go.Proofs.T
open Go Go.Ab Go.RowKit

/-! ## Names that are right -/

theorem class_0 (c : Int) (h : 97 ≤ c ∧ c ≤ 122) (g d : Nat) : ACalls E 73 [.val (.int .u8 c)] [] g d (dI 1) [] := by
  have x0 : (97 ≤ c) = True := eq_true (by omega)
  have x1 : (c ≤ 122) = True := eq_true (by omega)
  have x2 : (65 ≤ c) = True := eq_true (by omega)
  have x3 : (c ≤ 90) = False := eq_false (by omega)
  have x4 : (48 ≤ c) = True := eq_true (by omega)
  have x5 : (c ≤ 57) = False := eq_false (by omega)
  have x6 : (c = 95) = False := eq_false (by omega)
  have x7 : (c = 9) = False := eq_false (by omega)
  have x8 : (c = 10) = False := eq_false (by omega)
  have x9 : (c = 13) = False := eq_false (by omega)
  have x10 : (c = 32) = False := eq_false (by omega)
  refine acalls_of_awp (fn := Tryz.f73) (N := 39) Tryz.call73 Tryz.func73 rfl rfl (by simp) ?_
  simp only [go_sem]
  refine awp_seq_k (fun K1 hK1 => ?_)
  refine awp_plain 1 (by kernel_rfl) rfl (fun g0 hg0 => ?_)
  simp only [go_sem]
  refine hK1 _ ?_
  refine awp_seq_k (fun K2 hK2 => ?_)
  refine awp_seq_k (fun K3 hK3 => ?_)
  refine awp_plain 14 (by kernel_rfl) rfl (fun g1 hg1 => ?_)
  simp only [go_sem, x0, x1, decide_true]
  refine hK3 _ ?_
  refine awp_t rfl ?_
  refine awp_seq_k (fun K4 hK4 => ?_)
  refine awp_plain 1 (by kernel_rfl) rfl (fun g2 hg2 => ?_)
  simp only [go_sem]
  refine hK4 _ ?_
  refine awp_ret ?_
  refine ends_ev rfl ?_
  simp only [go_sem]
  exact Co.of_eq rfl
theorem class_1 (c : Int) (h : 65 ≤ c ∧ c ≤ 90) (g d : Nat) : ACalls E 73 [.val (.int .u8 c)] [] g d (dI 1) [] := by
  have x0 : (97 ≤ c) = False := eq_false (by omega)
  have x1 : (c ≤ 122) = True := eq_true (by omega)
  have x2 : (65 ≤ c) = True := eq_true (by omega)
  have x3 : (c ≤ 90) = True := eq_true (by omega)
  have x4 : (48 ≤ c) = True := eq_true (by omega)
  have x5 : (c ≤ 57) = False := eq_false (by omega)
  have x6 : (c = 95) = False := eq_false (by omega)
  have x7 : (c = 9) = False := eq_false (by omega)
  have x8 : (c = 10) = False := eq_false (by omega)
  have x9 : (c = 13) = False := eq_false (by omega)
  have x10 : (c = 32) = False := eq_false (by omega)
  refine acalls_of_awp (fn := Tryz.f73) (N := 39) Tryz.call73 Tryz.func73 rfl rfl (by simp) ?_
  simp only [go_sem]
  refine awp_seq_k (fun K1 hK1 => ?_)
  refine awp_plain 1 (by kernel_rfl) rfl (fun g0 hg0 => ?_)
  simp only [go_sem]
  refine hK1 _ ?_
  refine awp_seq_k (fun K2 hK2 => ?_)
  refine awp_seq_k (fun K3 hK3 => ?_)
  refine awp_plain 14 (by kernel_rfl) rfl (fun g1 hg1 => ?_)
  simp only [go_sem, x0, x2, x3, decide_true, decide_false]
  refine hK3 _ ?_
  refine awp_t rfl ?_
  refine awp_seq_k (fun K4 hK4 => ?_)
  refine awp_plain 1 (by kernel_rfl) rfl (fun g2 hg2 => ?_)
  simp only [go_sem]
  refine hK4 _ ?_
  refine awp_ret ?_
  refine ends_ev rfl ?_
  simp only [go_sem]
  exact Co.of_eq rfl
theorem class_2 (c : Int) (h : 48 ≤ c ∧ c ≤ 57) (g d : Nat) : ACalls E 73 [.val (.int .u8 c)] [] g d (dI 2) [] := by
  have x0 : (97 ≤ c) = False := eq_false (by omega)
  have x1 : (c ≤ 122) = True := eq_true (by omega)
  have x2 : (65 ≤ c) = False := eq_false (by omega)
  have x3 : (c ≤ 90) = True := eq_true (by omega)
  have x4 : (48 ≤ c) = True := eq_true (by omega)
  have x5 : (c ≤ 57) = True := eq_true (by omega)
  have x6 : (c = 95) = False := eq_false (by omega)
  have x7 : (c = 9) = False := eq_false (by omega)
  have x8 : (c = 10) = False := eq_false (by omega)
  have x9 : (c = 13) = False := eq_false (by omega)
  have x10 : (c = 32) = False := eq_false (by omega)
  refine acalls_of_awp (fn := Tryz.f73) (N := 39) Tryz.call73 Tryz.func73 rfl rfl (by simp) ?_
  simp only [go_sem]
  refine awp_seq_k (fun K1 hK1 => ?_)
  refine awp_plain 1 (by kernel_rfl) rfl (fun g0 hg0 => ?_)
  simp only [go_sem]
  refine hK1 _ ?_
  refine awp_seq_k (fun K2 hK2 => ?_)
  refine awp_seq_k (fun K3 hK3 => ?_)
  refine awp_plain 14 (by kernel_rfl) rfl (fun g1 hg1 => ?_)
  simp only [go_sem, x0, x2, decide_false]
  refine hK3 _ ?_
  refine awp_f rfl ?_
  refine awp_skip ?_
  refine hK2 _ ?_
  refine awp_seq_k (fun K4 hK4 => ?_)
  refine awp_seq_k (fun K5 hK5 => ?_)
  refine awp_plain 6 (by kernel_rfl) rfl (fun g3 hg3 => ?_)
  simp only [go_sem, x4, x5, decide_true]
  refine hK5 _ ?_
  refine awp_t rfl ?_
  refine awp_seq_k (fun K6 hK6 => ?_)
  refine awp_plain 1 (by kernel_rfl) rfl (fun g4 hg4 => ?_)
  simp only [go_sem]
  refine hK6 _ ?_
  refine awp_ret ?_
  refine ends_ev rfl ?_
  simp only [go_sem]
  exact Co.of_eq rfl
theorem class_3 (c : Int) (h : c = 95) (g d : Nat) : ACalls E 73 [.val (.int .u8 c)] [] g d (dI 3) [] := by
  have x0 : (97 ≤ c) = False := eq_false (by omega)
  have x1 : (c ≤ 122) = True := eq_true (by omega)
  have x2 : (65 ≤ c) = True := eq_true (by omega)
  have x3 : (c ≤ 90) = False := eq_false (by omega)
  have x4 : (48 ≤ c) = True := eq_true (by omega)
  have x5 : (c ≤ 57) = False := eq_false (by omega)
  have x6 : (c = 95) = True := eq_true (by omega)
  have x7 : (c = 9) = False := eq_false (by omega)
  have x8 : (c = 10) = False := eq_false (by omega)
  have x9 : (c = 13) = False := eq_false (by omega)
  have x10 : (c = 32) = False := eq_false (by omega)
  refine acalls_of_awp (fn := Tryz.f73) (N := 39) Tryz.call73 Tryz.func73 rfl rfl (by simp) ?_
  simp only [go_sem]
  refine awp_seq_k (fun K1 hK1 => ?_)
  refine awp_plain 1 (by kernel_rfl) rfl (fun g0 hg0 => ?_)
  simp only [go_sem]
  refine hK1 _ ?_
  refine awp_seq_k (fun K2 hK2 => ?_)
  refine awp_seq_k (fun K3 hK3 => ?_)
  refine awp_plain 14 (by kernel_rfl) rfl (fun g1 hg1 => ?_)
  simp only [go_sem, x0, x2, x3, decide_true, decide_false]
  refine hK3 _ ?_
  refine awp_f rfl ?_
  refine awp_skip ?_
  refine hK2 _ ?_
  refine awp_seq_k (fun K4 hK4 => ?_)
  refine awp_seq_k (fun K5 hK5 => ?_)
  refine awp_plain 6 (by kernel_rfl) rfl (fun g3 hg3 => ?_)
  simp only [go_sem, x4, x5, decide_true, decide_false]
  refine hK5 _ ?_
  refine awp_f rfl ?_
  refine awp_skip ?_
  refine hK4 _ ?_
  refine awp_seq_k (fun K6 hK6 => ?_)
  refine awp_seq_k (fun K7 hK7 => ?_)
  refine awp_plain 2 (by kernel_rfl) rfl (fun g5 hg5 => ?_)
  simp only [go_sem, x6, decide_true]
  refine hK7 _ ?_
  refine awp_t rfl ?_
  refine awp_seq_k (fun K8 hK8 => ?_)
  refine awp_plain 1 (by kernel_rfl) rfl (fun g6 hg6 => ?_)
  simp only [go_sem]
  refine hK8 _ ?_
  refine awp_ret ?_
  refine ends_ev rfl ?_
  simp only [go_sem]
  exact Co.of_eq rfl
theorem class_4 (c : Int) (h : c = 9) (g d : Nat) : ACalls E 73 [.val (.int .u8 c)] [] g d (dI 4) [] := by
  have x0 : (97 ≤ c) = False := eq_false (by omega)
  have x1 : (c ≤ 122) = True := eq_true (by omega)
  have x2 : (65 ≤ c) = False := eq_false (by omega)
  have x3 : (c ≤ 90) = True := eq_true (by omega)
  have x4 : (48 ≤ c) = False := eq_false (by omega)
  have x5 : (c ≤ 57) = True := eq_true (by omega)
  have x6 : (c = 95) = False := eq_false (by omega)
  have x7 : (c = 9) = True := eq_true (by omega)
  have x8 : (c = 10) = False := eq_false (by omega)
  have x9 : (c = 13) = False := eq_false (by omega)
  have x10 : (c = 32) = False := eq_false (by omega)
  refine acalls_of_awp (fn := Tryz.f73) (N := 39) Tryz.call73 Tryz.func73 rfl rfl (by simp) ?_
  simp only [go_sem]
  refine awp_seq_k (fun K1 hK1 => ?_)
  refine awp_plain 1 (by kernel_rfl) rfl (fun g0 hg0 => ?_)
  simp only [go_sem]
  refine hK1 _ ?_
  refine awp_seq_k (fun K2 hK2 => ?_)
  refine awp_seq_k (fun K3 hK3 => ?_)
  refine awp_plain 14 (by kernel_rfl) rfl (fun g1 hg1 => ?_)
  simp only [go_sem, x0, x2, decide_false]
  refine hK3 _ ?_
  refine awp_f rfl ?_
  refine awp_skip ?_
  refine hK2 _ ?_
  refine awp_seq_k (fun K4 hK4 => ?_)
  refine awp_seq_k (fun K5 hK5 => ?_)
  refine awp_plain 6 (by kernel_rfl) rfl (fun g3 hg3 => ?_)
  simp only [go_sem, x4, decide_false]
  refine hK5 _ ?_
  refine awp_f rfl ?_
  refine awp_skip ?_
  refine hK4 _ ?_
  refine awp_seq_k (fun K6 hK6 => ?_)
  refine awp_seq_k (fun K7 hK7 => ?_)
  refine awp_plain 2 (by kernel_rfl) rfl (fun g5 hg5 => ?_)
  simp only [go_sem, x6, decide_false]
  refine hK7 _ ?_
  refine awp_f rfl ?_
  refine awp_skip ?_
  refine hK6 _ ?_
  refine awp_seq_k (fun K8 hK8 => ?_)
  refine awp_seq_k (fun K9 hK9 => ?_)
  refine awp_plain 14 (by kernel_rfl) rfl (fun g7 hg7 => ?_)
  simp only [go_sem, x7, decide_true]
  refine hK9 _ ?_
  refine awp_t rfl ?_
  refine awp_seq_k (fun K10 hK10 => ?_)
  refine awp_plain 1 (by kernel_rfl) rfl (fun g8 hg8 => ?_)
  simp only [go_sem]
  refine hK10 _ ?_
  refine awp_ret ?_
  refine ends_ev rfl ?_
  simp only [go_sem]
  exact Co.of_eq rfl
theorem class_5 (c : Int) (h : c = 10) (g d : Nat) : ACalls E 73 [.val (.int .u8 c)] [] g d (dI 4) [] := by
  have x0 : (97 ≤ c) = False := eq_false (by omega)
  have x1 : (c ≤ 122) = True := eq_true (by omega)
  have x2 : (65 ≤ c) = False := eq_false (by omega)
  have x3 : (c ≤ 90) = True := eq_true (by omega)
  have x4 : (48 ≤ c) = False := eq_false (by omega)
  have x5 : (c ≤ 57) = True := eq_true (by omega)
  have x6 : (c = 95) = False := eq_false (by omega)
  have x7 : (c = 9) = False := eq_false (by omega)
  have x8 : (c = 10) = True := eq_true (by omega)
  have x9 : (c = 13) = False := eq_false (by omega)
  have x10 : (c = 32) = False := eq_false (by omega)
  refine acalls_of_awp (fn := Tryz.f73) (N := 39) Tryz.call73 Tryz.func73 rfl rfl (by simp) ?_
  simp only [go_sem]
  refine awp_seq_k (fun K1 hK1 => ?_)
  refine awp_plain 1 (by kernel_rfl) rfl (fun g0 hg0 => ?_)
  simp only [go_sem]
  refine hK1 _ ?_
  refine awp_seq_k (fun K2 hK2 => ?_)
  refine awp_seq_k (fun K3 hK3 => ?_)
  refine awp_plain 14 (by kernel_rfl) rfl (fun g1 hg1 => ?_)
  simp only [go_sem, x0, x2, decide_false]
  refine hK3 _ ?_
  refine awp_f rfl ?_
  refine awp_skip ?_
  refine hK2 _ ?_
  refine awp_seq_k (fun K4 hK4 => ?_)
  refine awp_seq_k (fun K5 hK5 => ?_)
  refine awp_plain 6 (by kernel_rfl) rfl (fun g3 hg3 => ?_)
  simp only [go_sem, x4, decide_false]
  refine hK5 _ ?_
  refine awp_f rfl ?_
  refine awp_skip ?_
  refine hK4 _ ?_
  refine awp_seq_k (fun K6 hK6 => ?_)
  refine awp_seq_k (fun K7 hK7 => ?_)
  refine awp_plain 2 (by kernel_rfl) rfl (fun g5 hg5 => ?_)
  simp only [go_sem, x6, decide_false]
  refine hK7 _ ?_
  refine awp_f rfl ?_
  refine awp_skip ?_
  refine hK6 _ ?_
  refine awp_seq_k (fun K8 hK8 => ?_)
  refine awp_seq_k (fun K9 hK9 => ?_)
  refine awp_plain 14 (by kernel_rfl) rfl (fun g7 hg7 => ?_)
  simp only [go_sem, x7, x8, decide_true, decide_false]
  refine hK9 _ ?_
  refine awp_t rfl ?_
  refine awp_seq_k (fun K10 hK10 => ?_)
  refine awp_plain 1 (by kernel_rfl) rfl (fun g8 hg8 => ?_)
  simp only [go_sem]
  refine hK10 _ ?_
  refine awp_ret ?_
  refine ends_ev rfl ?_
  simp only [go_sem]
  exact Co.of_eq rfl
theorem class_6 (c : Int) (h : c = 13) (g d : Nat) : ACalls E 73 [.val (.int .u8 c)] [] g d (dI 4) [] := by
  have x0 : (97 ≤ c) = False := eq_false (by omega)
  have x1 : (c ≤ 122) = True := eq_true (by omega)
  have x2 : (65 ≤ c) = False := eq_false (by omega)
  have x3 : (c ≤ 90) = True := eq_true (by omega)
  have x4 : (48 ≤ c) = False := eq_false (by omega)
  have x5 : (c ≤ 57) = True := eq_true (by omega)
  have x6 : (c = 95) = False := eq_false (by omega)
  have x7 : (c = 9) = False := eq_false (by omega)
  have x8 : (c = 10) = False := eq_false (by omega)
  have x9 : (c = 13) = True := eq_true (by omega)
  have x10 : (c = 32) = False := eq_false (by omega)
  refine acalls_of_awp (fn := Tryz.f73) (N := 39) Tryz.call73 Tryz.func73 rfl rfl (by simp) ?_
  simp only [go_sem]
  refine awp_seq_k (fun K1 hK1 => ?_)
  refine awp_plain 1 (by kernel_rfl) rfl (fun g0 hg0 => ?_)
  simp only [go_sem]
  refine hK1 _ ?_
  refine awp_seq_k (fun K2 hK2 => ?_)
  refine awp_seq_k (fun K3 hK3 => ?_)
  refine awp_plain 14 (by kernel_rfl) rfl (fun g1 hg1 => ?_)
  simp only [go_sem, x0, x2, decide_false]
  refine hK3 _ ?_
  refine awp_f rfl ?_
  refine awp_skip ?_
  refine hK2 _ ?_
  refine awp_seq_k (fun K4 hK4 => ?_)
  refine awp_seq_k (fun K5 hK5 => ?_)
  refine awp_plain 6 (by kernel_rfl) rfl (fun g3 hg3 => ?_)
  simp only [go_sem, x4, decide_false]
  refine hK5 _ ?_
  refine awp_f rfl ?_
  refine awp_skip ?_
  refine hK4 _ ?_
  refine awp_seq_k (fun K6 hK6 => ?_)
  refine awp_seq_k (fun K7 hK7 => ?_)
  refine awp_plain 2 (by kernel_rfl) rfl (fun g5 hg5 => ?_)
  simp only [go_sem, x6, decide_false]
  refine hK7 _ ?_
  refine awp_f rfl ?_
  refine awp_skip ?_
  refine hK6 _ ?_
  refine awp_seq_k (fun K8 hK8 => ?_)
  refine awp_seq_k (fun K9 hK9 => ?_)
  refine awp_plain 14 (by kernel_rfl) rfl (fun g7 hg7 => ?_)
  simp only [go_sem, x7, x8, x9, decide_true, decide_false]
  refine hK9 _ ?_
  refine awp_t rfl ?_
  refine awp_seq_k (fun K10 hK10 => ?_)
  refine awp_plain 1 (by kernel_rfl) rfl (fun g8 hg8 => ?_)
  simp only [go_sem]
  refine hK10 _ ?_
  refine awp_ret ?_
  refine ends_ev rfl ?_
  simp only [go_sem]
  exact Co.of_eq rfl
theorem class_7 (c : Int) (h : c = 32) (g d : Nat) : ACalls E 73 [.val (.int .u8 c)] [] g d (dI 4) [] := by
  have x0 : (97 ≤ c) = False := eq_false (by omega)
  have x1 : (c ≤ 122) = True := eq_true (by omega)
  have x2 : (65 ≤ c) = False := eq_false (by omega)
  have x3 : (c ≤ 90) = True := eq_true (by omega)
  have x4 : (48 ≤ c) = False := eq_false (by omega)
  have x5 : (c ≤ 57) = True := eq_true (by omega)
  have x6 : (c = 95) = False := eq_false (by omega)
  have x7 : (c = 9) = False := eq_false (by omega)
  have x8 : (c = 10) = False := eq_false (by omega)
  have x9 : (c = 13) = False := eq_false (by omega)
  have x10 : (c = 32) = True := eq_true (by omega)
  refine acalls_of_awp (fn := Tryz.f73) (N := 39) Tryz.call73 Tryz.func73 rfl rfl (by simp) ?_
  simp only [go_sem]
  refine awp_seq_k (fun K1 hK1 => ?_)
  refine awp_plain 1 (by kernel_rfl) rfl (fun g0 hg0 => ?_)
  simp only [go_sem]
  refine hK1 _ ?_
  refine awp_seq_k (fun K2 hK2 => ?_)
  refine awp_seq_k (fun K3 hK3 => ?_)
  refine awp_plain 14 (by kernel_rfl) rfl (fun g1 hg1 => ?_)
  simp only [go_sem, x0, x2, decide_false]
  refine hK3 _ ?_
  refine awp_f rfl ?_
  refine awp_skip ?_
  refine hK2 _ ?_
  refine awp_seq_k (fun K4 hK4 => ?_)
  refine awp_seq_k (fun K5 hK5 => ?_)
  refine awp_plain 6 (by kernel_rfl) rfl (fun g3 hg3 => ?_)
  simp only [go_sem, x4, decide_false]
  refine hK5 _ ?_
  refine awp_f rfl ?_
  refine awp_skip ?_
  refine hK4 _ ?_
  refine awp_seq_k (fun K6 hK6 => ?_)
  refine awp_seq_k (fun K7 hK7 => ?_)
  refine awp_plain 2 (by kernel_rfl) rfl (fun g5 hg5 => ?_)
  simp only [go_sem, x6, decide_false]
  refine hK7 _ ?_
  refine awp_f rfl ?_
  refine awp_skip ?_
  refine hK6 _ ?_
  refine awp_seq_k (fun K8 hK8 => ?_)
  refine awp_seq_k (fun K9 hK9 => ?_)
  refine awp_plain 14 (by kernel_rfl) rfl (fun g7 hg7 => ?_)
  simp only [go_sem, x7, x8, x9, x10, decide_true, decide_false]
  refine hK9 _ ?_
  refine awp_t rfl ?_
  refine awp_seq_k (fun K10 hK10 => ?_)
  refine awp_plain 1 (by kernel_rfl) rfl (fun g8 hg8 => ?_)
  simp only [go_sem]
  refine hK10 _ ?_
  refine awp_ret ?_
  refine ends_ev rfl ?_
  simp only [go_sem]
  exact Co.of_eq rfl
theorem class_8 (c : Int) (h : 122 < c) (g d : Nat) : ACalls E 73 [.val (.int .u8 c)] [] g d (dI 0) [] := by
  have x0 : (97 ≤ c) = True := eq_true (by omega)
  have x1 : (c ≤ 122) = False := eq_false (by omega)
  have x2 : (65 ≤ c) = True := eq_true (by omega)
  have x3 : (c ≤ 90) = False := eq_false (by omega)
  have x4 : (48 ≤ c) = True := eq_true (by omega)
  have x5 : (c ≤ 57) = False := eq_false (by omega)
  have x6 : (c = 95) = False := eq_false (by omega)
  have x7 : (c = 9) = False := eq_false (by omega)
  have x8 : (c = 10) = False := eq_false (by omega)
  have x9 : (c = 13) = False := eq_false (by omega)
  have x10 : (c = 32) = False := eq_false (by omega)
  refine acalls_of_awp (fn := Tryz.f73) (N := 39) Tryz.call73 Tryz.func73 rfl rfl (by simp) ?_
  simp only [go_sem]
  refine awp_seq_k (fun K1 hK1 => ?_)
  refine awp_plain 1 (by kernel_rfl) rfl (fun g0 hg0 => ?_)
  simp only [go_sem]
  refine hK1 _ ?_
  refine awp_seq_k (fun K2 hK2 => ?_)
  refine awp_seq_k (fun K3 hK3 => ?_)
  refine awp_plain 14 (by kernel_rfl) rfl (fun g1 hg1 => ?_)
  simp only [go_sem, x0, x1, x2, x3, decide_true, decide_false]
  refine hK3 _ ?_
  refine awp_f rfl ?_
  refine awp_skip ?_
  refine hK2 _ ?_
  refine awp_seq_k (fun K4 hK4 => ?_)
  refine awp_seq_k (fun K5 hK5 => ?_)
  refine awp_plain 6 (by kernel_rfl) rfl (fun g3 hg3 => ?_)
  simp only [go_sem, x4, x5, decide_true, decide_false]
  refine hK5 _ ?_
  refine awp_f rfl ?_
  refine awp_skip ?_
  refine hK4 _ ?_
  refine awp_seq_k (fun K6 hK6 => ?_)
  refine awp_seq_k (fun K7 hK7 => ?_)
  refine awp_plain 2 (by kernel_rfl) rfl (fun g5 hg5 => ?_)
  simp only [go_sem, x6, decide_false]
  refine hK7 _ ?_
  refine awp_f rfl ?_
  refine awp_skip ?_
  refine hK6 _ ?_
  refine awp_seq_k (fun K8 hK8 => ?_)
  refine awp_seq_k (fun K9 hK9 => ?_)
  refine awp_plain 14 (by kernel_rfl) rfl (fun g7 hg7 => ?_)
  simp only [go_sem, x7, x8, x9, x10, decide_false]
  refine hK9 _ ?_
  refine awp_f rfl ?_
  refine awp_skip ?_
  refine hK8 _ ?_
  refine awp_seq_k (fun K10 hK10 => ?_)
  refine awp_plain 1 (by kernel_rfl) rfl (fun g9 hg9 => ?_)
  simp only [go_sem]
  refine hK10 _ ?_
  refine awp_ret ?_
  refine ends_ev rfl ?_
  simp only [go_sem]
  exact Co.of_eq rfl
theorem class_9 (c : Int) (h : 91 ≤ c ∧ c ≤ 96 ∧ c ≠ 95) (g d : Nat) : ACalls E 73 [.val (.int .u8 c)] [] g d (dI 0) [] := by
  have x0 : (97 ≤ c) = False := eq_false (by omega)
  have x1 : (c ≤ 122) = True := eq_true (by omega)
  have x2 : (65 ≤ c) = True := eq_true (by omega)
  have x3 : (c ≤ 90) = False := eq_false (by omega)
  have x4 : (48 ≤ c) = True := eq_true (by omega)
  have x5 : (c ≤ 57) = False := eq_false (by omega)
  have x6 : (c = 95) = False := eq_false (by omega)
  have x7 : (c = 9) = False := eq_false (by omega)
  have x8 : (c = 10) = False := eq_false (by omega)
  have x9 : (c = 13) = False := eq_false (by omega)
  have x10 : (c = 32) = False := eq_false (by omega)
  refine acalls_of_awp (fn := Tryz.f73) (N := 39) Tryz.call73 Tryz.func73 rfl rfl (by simp) ?_
  simp only [go_sem]
  refine awp_seq_k (fun K1 hK1 => ?_)
  refine awp_plain 1 (by kernel_rfl) rfl (fun g0 hg0 => ?_)
  simp only [go_sem]
  refine hK1 _ ?_
  refine awp_seq_k (fun K2 hK2 => ?_)
  refine awp_seq_k (fun K3 hK3 => ?_)
  refine awp_plain 14 (by kernel_rfl) rfl (fun g1 hg1 => ?_)
  simp only [go_sem, x0, x2, x3, decide_true, decide_false]
  refine hK3 _ ?_
  refine awp_f rfl ?_
  refine awp_skip ?_
  refine hK2 _ ?_
  refine awp_seq_k (fun K4 hK4 => ?_)
  refine awp_seq_k (fun K5 hK5 => ?_)
  refine awp_plain 6 (by kernel_rfl) rfl (fun g3 hg3 => ?_)
  simp only [go_sem, x4, x5, decide_true, decide_false]
  refine hK5 _ ?_
  refine awp_f rfl ?_
  refine awp_skip ?_
  refine hK4 _ ?_
  refine awp_seq_k (fun K6 hK6 => ?_)
  refine awp_seq_k (fun K7 hK7 => ?_)
  refine awp_plain 2 (by kernel_rfl) rfl (fun g5 hg5 => ?_)
  simp only [go_sem, x6, decide_false]
  refine hK7 _ ?_
  refine awp_f rfl ?_
  refine awp_skip ?_
  refine hK6 _ ?_
  refine awp_seq_k (fun K8 hK8 => ?_)
  refine awp_seq_k (fun K9 hK9 => ?_)
  refine awp_plain 14 (by kernel_rfl) rfl (fun g7 hg7 => ?_)
  simp only [go_sem, x7, x8, x9, x10, decide_false]
  refine hK9 _ ?_
  refine awp_f rfl ?_
  refine awp_skip ?_
  refine hK8 _ ?_
  refine awp_seq_k (fun K10 hK10 => ?_)
  refine awp_plain 1 (by kernel_rfl) rfl (fun g9 hg9 => ?_)
  simp only [go_sem]
  refine hK10 _ ?_
  refine awp_ret ?_
  refine ends_ev rfl ?_
  simp only [go_sem]
  exact Co.of_eq rfl
theorem class_10 (c : Int) (h : 58 ≤ c ∧ c ≤ 64) (g d : Nat) : ACalls E 73 [.val (.int .u8 c)] [] g d (dI 0) [] := by
  have x0 : (97 ≤ c) = False := eq_false (by omega)
  have x1 : (c ≤ 122) = True := eq_true (by omega)
  have x2 : (65 ≤ c) = False := eq_false (by omega)
  have x3 : (c ≤ 90) = True := eq_true (by omega)
  have x4 : (48 ≤ c) = True := eq_true (by omega)
  have x5 : (c ≤ 57) = False := eq_false (by omega)
  have x6 : (c = 95) = False := eq_false (by omega)
  have x7 : (c = 9) = False := eq_false (by omega)
  have x8 : (c = 10) = False := eq_false (by omega)
  have x9 : (c = 13) = False := eq_false (by omega)
  have x10 : (c = 32) = False := eq_false (by omega)
  refine acalls_of_awp (fn := Tryz.f73) (N := 39) Tryz.call73 Tryz.func73 rfl rfl (by simp) ?_
  simp only [go_sem]
  refine awp_seq_k (fun K1 hK1 => ?_)
  refine awp_plain 1 (by kernel_rfl) rfl (fun g0 hg0 => ?_)
  simp only [go_sem]
  refine hK1 _ ?_
  refine awp_seq_k (fun K2 hK2 => ?_)
  refine awp_seq_k (fun K3 hK3 => ?_)
  refine awp_plain 14 (by kernel_rfl) rfl (fun g1 hg1 => ?_)
  simp only [go_sem, x0, x2, decide_false]
  refine hK3 _ ?_
  refine awp_f rfl ?_
  refine awp_skip ?_
  refine hK2 _ ?_
  refine awp_seq_k (fun K4 hK4 => ?_)
  refine awp_seq_k (fun K5 hK5 => ?_)
  refine awp_plain 6 (by kernel_rfl) rfl (fun g3 hg3 => ?_)
  simp only [go_sem, x4, x5, decide_true, decide_false]
  refine hK5 _ ?_
  refine awp_f rfl ?_
  refine awp_skip ?_
  refine hK4 _ ?_
  refine awp_seq_k (fun K6 hK6 => ?_)
  refine awp_seq_k (fun K7 hK7 => ?_)
  refine awp_plain 2 (by kernel_rfl) rfl (fun g5 hg5 => ?_)
  simp only [go_sem, x6, decide_false]
  refine hK7 _ ?_
  refine awp_f rfl ?_
  refine awp_skip ?_
  refine hK6 _ ?_
  refine awp_seq_k (fun K8 hK8 => ?_)
  refine awp_seq_k (fun K9 hK9 => ?_)
  refine awp_plain 14 (by kernel_rfl) rfl (fun g7 hg7 => ?_)
  simp only [go_sem, x7, x8, x9, x10, decide_false]
  refine hK9 _ ?_
  refine awp_f rfl ?_
  refine awp_skip ?_
  refine hK8 _ ?_
  refine awp_seq_k (fun K10 hK10 => ?_)
  refine awp_plain 1 (by kernel_rfl) rfl (fun g9 hg9 => ?_)
  simp only [go_sem]
  refine hK10 _ ?_
  refine awp_ret ?_
  refine ends_ev rfl ?_
  simp only [go_sem]
  exact Co.of_eq rfl
theorem class_11 (c : Int) (h : c < 48 ∧ c ≠ 9 ∧ c ≠ 10 ∧ c ≠ 13 ∧ c ≠ 32) (g d : Nat) : ACalls E 73 [.val (.int .u8 c)] [] g d (dI 0) [] := by
  have x0 : (97 ≤ c) = False := eq_false (by omega)
  have x1 : (c ≤ 122) = True := eq_true (by omega)
  have x2 : (65 ≤ c) = False := eq_false (by omega)
  have x3 : (c ≤ 90) = True := eq_true (by omega)
  have x4 : (48 ≤ c) = False := eq_false (by omega)
  have x5 : (c ≤ 57) = True := eq_true (by omega)
  have x6 : (c = 95) = False := eq_false (by omega)
  have x7 : (c = 9) = False := eq_false (by omega)
  have x8 : (c = 10) = False := eq_false (by omega)
  have x9 : (c = 13) = False := eq_false (by omega)
  have x10 : (c = 32) = False := eq_false (by omega)
  refine acalls_of_awp (fn := Tryz.f73) (N := 39) Tryz.call73 Tryz.func73 rfl rfl (by simp) ?_
  simp only [go_sem]
  refine awp_seq_k (fun K1 hK1 => ?_)
  refine awp_plain 1 (by kernel_rfl) rfl (fun g0 hg0 => ?_)
  simp only [go_sem]
  refine hK1 _ ?_
  refine awp_seq_k (fun K2 hK2 => ?_)
  refine awp_seq_k (fun K3 hK3 => ?_)
  refine awp_plain 14 (by kernel_rfl) rfl (fun g1 hg1 => ?_)
  simp only [go_sem, x0, x2, decide_false]
  refine hK3 _ ?_
  refine awp_f rfl ?_
  refine awp_skip ?_
  refine hK2 _ ?_
  refine awp_seq_k (fun K4 hK4 => ?_)
  refine awp_seq_k (fun K5 hK5 => ?_)
  refine awp_plain 6 (by kernel_rfl) rfl (fun g3 hg3 => ?_)
  simp only [go_sem, x4, decide_false]
  refine hK5 _ ?_
  refine awp_f rfl ?_
  refine awp_skip ?_
  refine hK4 _ ?_
  refine awp_seq_k (fun K6 hK6 => ?_)
  refine awp_seq_k (fun K7 hK7 => ?_)
  refine awp_plain 2 (by kernel_rfl) rfl (fun g5 hg5 => ?_)
  simp only [go_sem, x6, decide_false]
  refine hK7 _ ?_
  refine awp_f rfl ?_
  refine awp_skip ?_
  refine hK6 _ ?_
  refine awp_seq_k (fun K8 hK8 => ?_)
  refine awp_seq_k (fun K9 hK9 => ?_)
  refine awp_plain 14 (by kernel_rfl) rfl (fun g7 hg7 => ?_)
  simp only [go_sem, x7, x8, x9, x10, decide_false]
  refine hK9 _ ?_
  refine awp_f rfl ?_
  refine awp_skip ?_
  refine hK8 _ ?_
  refine awp_seq_k (fun K10 hK10 => ?_)
  refine awp_plain 1 (by kernel_rfl) rfl (fun g9 hg9 => ?_)
  simp only [go_sem]
  refine hK10 _ ?_
  refine awp_ret ?_
  refine ends_ev rfl ?_
  simp only [go_sem]
  exact Co.of_eq rfl
theorem class_ex (c : Int) : ∃ k : Int, ∀ g d, ACalls E 73 [.val (.int .u8 c)] [] g d (dI k) [] := by
  have hh : (97 ≤ c ∧ c ≤ 122) ∨ (65 ≤ c ∧ c ≤ 90) ∨ (48 ≤ c ∧ c ≤ 57) ∨ (c = 95) ∨ (c = 9) ∨ (c = 10) ∨ (c = 13) ∨ (c = 32) ∨ (122 < c) ∨ (91 ≤ c ∧ c ≤ 96 ∧ c ≠ 95) ∨ (58 ≤ c ∧ c ≤ 64) ∨ (c < 48 ∧ c ≠ 9 ∧ c ≠ 10 ∧ c ≠ 13 ∧ c ≠ 32) := by omega
  rcases hh with h | h | h | h | h | h | h | h | h | h | h | h
  · exact ⟨1, class_0 c h⟩
  · exact ⟨1, class_1 c h⟩
  · exact ⟨2, class_2 c h⟩
  · exact ⟨3, class_3 c h⟩
  · exact ⟨4, class_4 c h⟩
  · exact ⟨4, class_5 c h⟩
  · exact ⟨4, class_6 c h⟩
  · exact ⟨4, class_7 c h⟩
  · exact ⟨0, class_8 c h⟩
  · exact ⟨0, class_9 c h⟩
  · exact ⟨0, class_10 c h⟩
  · exact ⟨0, class_11 c h⟩
end Go.Proofs.T


namespace Go.Proofs.T
open Go Go.Ab Go.RowKit

noncomputable def cls (c : Int) : Int := Classical.choose (class_ex c)
theorem class_calls (c : Int) (g d : Nat) : ACalls E 73 [.val (.int .u8 c)] [] g d (dI (cls c)) [] := Classical.choose_spec (class_ex c) g d

def rw0 : Str := ⟨#[112, 97, 99, 107, 97, 103, 101]⟩
def rw1 : Str := ⟨#[109, 97, 105, 110]⟩
def rw2 : Str := ⟨#[116, 121, 112, 101]⟩
def rw3 : Str := ⟨#[115, 116, 114, 117, 99, 116]⟩
def rw4 : Str := ⟨#[105, 110, 116, 101, 114, 102, 97, 99, 101]⟩
def rw5 : Str := ⟨#[102, 117, 110, 99]⟩
def rw6 : Str := ⟨#[114, 101, 116, 117, 114, 110]⟩

theorem reserved_ex (s : Str) : ∃ b : Bool, ∀ g d, ACalls E 74 [encS s] [] g d (dB b) [] := by
  by_cases h0 : s = ⟨#[112, 97, 99, 107, 97, 103, 101]⟩
  · refine ⟨true, fun g d => ?_⟩
    subst h0
    refine acalls_of_awp (fn := Tryz.f74) (N := 27) Tryz.call74 Tryz.func74 rfl rfl (by simp) ?_
    simp only [go_sem]
    refine awp_seq_k (fun K1 hK1 => ?_)
    refine awp_plain 1 (by kernel_rfl) rfl (fun g0 hg0 => ?_)
    simp only [go_sem]
    refine hK1 _ ?_
    refine awp_seq_k (fun K2 hK2 => ?_)
    refine awp_seq_k (fun K3 hK3 => ?_)
    refine awp_plain 14 (by kernel_rfl) rfl (fun g1 hg1 => ?_)
    simp only [go_sem, decide_true]
    refine hK3 _ ?_
    refine awp_t rfl ?_
    refine awp_seq_k (fun K4 hK4 => ?_)
    refine awp_plain 1 (by kernel_rfl) rfl (fun g2 hg2 => ?_)
    simp only [go_sem]
    refine hK4 _ ?_
    refine awp_ret ?_
    refine ends_ev rfl ?_
    simp only [go_sem]
    exact Co.refl _
  by_cases h1 : s = ⟨#[109, 97, 105, 110]⟩
  · refine ⟨true, fun g d => ?_⟩
    subst h1
    refine acalls_of_awp (fn := Tryz.f74) (N := 27) Tryz.call74 Tryz.func74 rfl rfl (by simp) ?_
    simp only [go_sem]
    refine awp_seq_k (fun K1 hK1 => ?_)
    refine awp_plain 1 (by kernel_rfl) rfl (fun g0 hg0 => ?_)
    simp only [go_sem]
    refine hK1 _ ?_
    refine awp_seq_k (fun K2 hK2 => ?_)
    refine awp_seq_k (fun K3 hK3 => ?_)
    refine awp_plain 14 (by kernel_rfl) rfl (fun g1 hg1 => ?_)
    simp only [go_sem, show ((⟨#[109, 97, 105, 110]⟩ : Str) = ⟨#[112, 97, 99, 107, 97, 103, 101]⟩) = False from eq_false (by decide), decide_true, decide_false]
    refine hK3 _ ?_
    refine awp_t rfl ?_
    refine awp_seq_k (fun K4 hK4 => ?_)
    refine awp_plain 1 (by kernel_rfl) rfl (fun g2 hg2 => ?_)
    simp only [go_sem]
    refine hK4 _ ?_
    refine awp_ret ?_
    refine ends_ev rfl ?_
    simp only [go_sem]
    exact Co.refl _
  by_cases h2 : s = ⟨#[116, 121, 112, 101]⟩
  · refine ⟨true, fun g d => ?_⟩
    subst h2
    refine acalls_of_awp (fn := Tryz.f74) (N := 27) Tryz.call74 Tryz.func74 rfl rfl (by simp) ?_
    simp only [go_sem]
    refine awp_seq_k (fun K1 hK1 => ?_)
    refine awp_plain 1 (by kernel_rfl) rfl (fun g0 hg0 => ?_)
    simp only [go_sem]
    refine hK1 _ ?_
    refine awp_seq_k (fun K2 hK2 => ?_)
    refine awp_seq_k (fun K3 hK3 => ?_)
    refine awp_plain 14 (by kernel_rfl) rfl (fun g1 hg1 => ?_)
    simp only [go_sem, show ((⟨#[116, 121, 112, 101]⟩ : Str) = ⟨#[112, 97, 99, 107, 97, 103, 101]⟩) = False from eq_false (by decide), show ((⟨#[116, 121, 112, 101]⟩ : Str) = ⟨#[109, 97, 105, 110]⟩) = False from eq_false (by decide), decide_true, decide_false]
    refine hK3 _ ?_
    refine awp_t rfl ?_
    refine awp_seq_k (fun K4 hK4 => ?_)
    refine awp_plain 1 (by kernel_rfl) rfl (fun g2 hg2 => ?_)
    simp only [go_sem]
    refine hK4 _ ?_
    refine awp_ret ?_
    refine ends_ev rfl ?_
    simp only [go_sem]
    exact Co.refl _
  by_cases h3 : s = ⟨#[115, 116, 114, 117, 99, 116]⟩
  · refine ⟨true, fun g d => ?_⟩
    subst h3
    refine acalls_of_awp (fn := Tryz.f74) (N := 27) Tryz.call74 Tryz.func74 rfl rfl (by simp) ?_
    simp only [go_sem]
    refine awp_seq_k (fun K1 hK1 => ?_)
    refine awp_plain 1 (by kernel_rfl) rfl (fun g0 hg0 => ?_)
    simp only [go_sem]
    refine hK1 _ ?_
    refine awp_seq_k (fun K2 hK2 => ?_)
    refine awp_seq_k (fun K3 hK3 => ?_)
    refine awp_plain 14 (by kernel_rfl) rfl (fun g1 hg1 => ?_)
    simp only [go_sem, show ((⟨#[115, 116, 114, 117, 99, 116]⟩ : Str) = ⟨#[112, 97, 99, 107, 97, 103, 101]⟩) = False from eq_false (by decide), show ((⟨#[115, 116, 114, 117, 99, 116]⟩ : Str) = ⟨#[109, 97, 105, 110]⟩) = False from eq_false (by decide), show ((⟨#[115, 116, 114, 117, 99, 116]⟩ : Str) = ⟨#[116, 121, 112, 101]⟩) = False from eq_false (by decide), decide_true, decide_false]
    refine hK3 _ ?_
    refine awp_t rfl ?_
    refine awp_seq_k (fun K4 hK4 => ?_)
    refine awp_plain 1 (by kernel_rfl) rfl (fun g2 hg2 => ?_)
    simp only [go_sem]
    refine hK4 _ ?_
    refine awp_ret ?_
    refine ends_ev rfl ?_
    simp only [go_sem]
    exact Co.refl _
  by_cases h4 : s = ⟨#[105, 110, 116, 101, 114, 102, 97, 99, 101]⟩
  · refine ⟨true, fun g d => ?_⟩
    subst h4
    refine acalls_of_awp (fn := Tryz.f74) (N := 27) Tryz.call74 Tryz.func74 rfl rfl (by simp) ?_
    simp only [go_sem]
    refine awp_seq_k (fun K1 hK1 => ?_)
    refine awp_plain 1 (by kernel_rfl) rfl (fun g0 hg0 => ?_)
    simp only [go_sem]
    refine hK1 _ ?_
    refine awp_seq_k (fun K2 hK2 => ?_)
    refine awp_seq_k (fun K3 hK3 => ?_)
    refine awp_plain 14 (by kernel_rfl) rfl (fun g1 hg1 => ?_)
    simp only [go_sem, show ((⟨#[105, 110, 116, 101, 114, 102, 97, 99, 101]⟩ : Str) = ⟨#[112, 97, 99, 107, 97, 103, 101]⟩) = False from eq_false (by decide), show ((⟨#[105, 110, 116, 101, 114, 102, 97, 99, 101]⟩ : Str) = ⟨#[109, 97, 105, 110]⟩) = False from eq_false (by decide), show ((⟨#[105, 110, 116, 101, 114, 102, 97, 99, 101]⟩ : Str) = ⟨#[116, 121, 112, 101]⟩) = False from eq_false (by decide), show ((⟨#[105, 110, 116, 101, 114, 102, 97, 99, 101]⟩ : Str) = ⟨#[115, 116, 114, 117, 99, 116]⟩) = False from eq_false (by decide), decide_false]
    refine hK3 _ ?_
    refine awp_f rfl ?_
    refine awp_skip ?_
    refine hK2 _ ?_
    refine awp_seq_k (fun K4 hK4 => ?_)
    refine awp_plain 11 (by kernel_rfl) rfl (fun g3 hg3 => ?_)
    simp only [go_sem, decide_true]
    refine hK4 _ ?_
    refine awp_ret ?_
    refine ends_ev rfl ?_
    simp only [go_sem]
    exact Co.refl _
  by_cases h5 : s = ⟨#[102, 117, 110, 99]⟩
  · refine ⟨true, fun g d => ?_⟩
    subst h5
    refine acalls_of_awp (fn := Tryz.f74) (N := 27) Tryz.call74 Tryz.func74 rfl rfl (by simp) ?_
    simp only [go_sem]
    refine awp_seq_k (fun K1 hK1 => ?_)
    refine awp_plain 1 (by kernel_rfl) rfl (fun g0 hg0 => ?_)
    simp only [go_sem]
    refine hK1 _ ?_
    refine awp_seq_k (fun K2 hK2 => ?_)
    refine awp_seq_k (fun K3 hK3 => ?_)
    refine awp_plain 14 (by kernel_rfl) rfl (fun g1 hg1 => ?_)
    simp only [go_sem, show ((⟨#[102, 117, 110, 99]⟩ : Str) = ⟨#[112, 97, 99, 107, 97, 103, 101]⟩) = False from eq_false (by decide), show ((⟨#[102, 117, 110, 99]⟩ : Str) = ⟨#[109, 97, 105, 110]⟩) = False from eq_false (by decide), show ((⟨#[102, 117, 110, 99]⟩ : Str) = ⟨#[116, 121, 112, 101]⟩) = False from eq_false (by decide), show ((⟨#[102, 117, 110, 99]⟩ : Str) = ⟨#[115, 116, 114, 117, 99, 116]⟩) = False from eq_false (by decide), decide_false]
    refine hK3 _ ?_
    refine awp_f rfl ?_
    refine awp_skip ?_
    refine hK2 _ ?_
    refine awp_seq_k (fun K4 hK4 => ?_)
    refine awp_plain 11 (by kernel_rfl) rfl (fun g3 hg3 => ?_)
    simp only [go_sem, show ((⟨#[102, 117, 110, 99]⟩ : Str) = ⟨#[105, 110, 116, 101, 114, 102, 97, 99, 101]⟩) = False from eq_false (by decide), decide_true, decide_false]
    refine hK4 _ ?_
    refine awp_ret ?_
    refine ends_ev rfl ?_
    simp only [go_sem]
    exact Co.refl _
  by_cases h6 : s = ⟨#[114, 101, 116, 117, 114, 110]⟩
  · refine ⟨true, fun g d => ?_⟩
    subst h6
    refine acalls_of_awp (fn := Tryz.f74) (N := 27) Tryz.call74 Tryz.func74 rfl rfl (by simp) ?_
    simp only [go_sem]
    refine awp_seq_k (fun K1 hK1 => ?_)
    refine awp_plain 1 (by kernel_rfl) rfl (fun g0 hg0 => ?_)
    simp only [go_sem]
    refine hK1 _ ?_
    refine awp_seq_k (fun K2 hK2 => ?_)
    refine awp_seq_k (fun K3 hK3 => ?_)
    refine awp_plain 14 (by kernel_rfl) rfl (fun g1 hg1 => ?_)
    simp only [go_sem, show ((⟨#[114, 101, 116, 117, 114, 110]⟩ : Str) = ⟨#[112, 97, 99, 107, 97, 103, 101]⟩) = False from eq_false (by decide), show ((⟨#[114, 101, 116, 117, 114, 110]⟩ : Str) = ⟨#[109, 97, 105, 110]⟩) = False from eq_false (by decide), show ((⟨#[114, 101, 116, 117, 114, 110]⟩ : Str) = ⟨#[116, 121, 112, 101]⟩) = False from eq_false (by decide), show ((⟨#[114, 101, 116, 117, 114, 110]⟩ : Str) = ⟨#[115, 116, 114, 117, 99, 116]⟩) = False from eq_false (by decide), decide_false]
    refine hK3 _ ?_
    refine awp_f rfl ?_
    refine awp_skip ?_
    refine hK2 _ ?_
    refine awp_seq_k (fun K4 hK4 => ?_)
    refine awp_plain 11 (by kernel_rfl) rfl (fun g3 hg3 => ?_)
    simp only [go_sem, show ((⟨#[114, 101, 116, 117, 114, 110]⟩ : Str) = ⟨#[105, 110, 116, 101, 114, 102, 97, 99, 101]⟩) = False from eq_false (by decide), show ((⟨#[114, 101, 116, 117, 114, 110]⟩ : Str) = ⟨#[102, 117, 110, 99]⟩) = False from eq_false (by decide), decide_true, decide_false]
    refine hK4 _ ?_
    refine awp_ret ?_
    refine ends_ev rfl ?_
    simp only [go_sem]
    exact Co.refl _
  refine ⟨false, fun g d => ?_⟩
  refine acalls_of_awp (fn := Tryz.f74) (N := 27) Tryz.call74 Tryz.func74 rfl rfl (by simp) ?_
  simp only [go_sem]
  refine awp_seq_k (fun K1 hK1 => ?_)
  refine awp_plain 1 (by kernel_rfl) rfl (fun g0 hg0 => ?_)
  simp only [go_sem]
  refine hK1 _ ?_
  refine awp_seq_k (fun K2 hK2 => ?_)
  refine awp_seq_k (fun K3 hK3 => ?_)
  refine awp_plain 14 (by kernel_rfl) rfl (fun g1 hg1 => ?_)
  simp only [go_sem, h0, h1, h2, h3, decide_false]
  refine hK3 _ ?_
  refine awp_f rfl ?_
  refine awp_skip ?_
  refine hK2 _ ?_
  refine awp_seq_k (fun K4 hK4 => ?_)
  refine awp_plain 11 (by kernel_rfl) rfl (fun g3 hg3 => ?_)
  simp only [go_sem, h4, h5, h6, decide_false]
  refine hK4 _ ?_
  refine awp_ret ?_
  refine ends_ev rfl ?_
  simp only [go_sem]
  exact Co.refl _
noncomputable def resS (s : Str) : Bool := Classical.choose (reserved_ex s)
theorem reserved_calls (s : Str) (g d : Nat) : ACalls E 74 [encS s] [] g d (dB (resS s)) [] := Classical.choose_spec (reserved_ex s) g d

noncomputable def okB (b : UInt8) : Bool := !decide (cls b.toNat = 0) && !decide (cls b.toNat = 4)
noncomputable def nmOk (s : Str) : Bool := match s.data.toList with
  | [] => false
  | b :: _ => decide (cls b.toNat = 1) && s.data.toList.all okB && !resS s
set_option maxRecDepth 100000 in
theorem is_calls (s : Str) (hs : s.size ≤ 9223372036854775807) (g d : Nat) : ACalls E 42 [encS s] [] g d (dB (nmOk s)) [] := by
  have hsz : s.size = s.data.toList.length := by rw [Array.length_toList]; rfl
  by_cases h0 : s.size = 0
  · have hv : nmOk s = false := by
      unfold nmOk
      rw [List.eq_nil_of_length_eq_zero (by omega : s.data.toList.length = 0)]
    have h0' : ((s.size : Int) = 0) = True := eq_true (by omega)
    rw [hv]
    refine acalls_of_awp (fn := Tryz.f42) (N := 33) Tryz.call42 Tryz.func42 rfl rfl (by simp) ?_
    simp only [go_sem]
    refine awp_seq_k (fun K1 hK1 => ?_)
    refine awp_plain 1 (by kernel_rfl) rfl (fun g0 hg0 => ?_)
    simp only [go_sem]
    refine hK1 _ ?_
    refine awp_seq_k (fun K2 hK2 => ?_)
    refine awp_seq_k (fun K3 hK3 => ?_)
    refine awp_plain 9 (by kernel_rfl) rfl (fun g1 hg1 => ?_)
    simp only [go_sem, h0', decide_true]
    refine hK3 _ ?_
    refine awp_t rfl ?_
    refine awp_seq_k (fun K4 hK4 => ?_)
    refine awp_plain 1 (by kernel_rfl) rfl (fun g2 hg2 => ?_)
    simp only [go_sem]
    refine hK4 _ ?_
    refine awp_ret ?_
    refine ends_ev rfl ?_
    simp only [go_sem]
    exact Co.refl _
  · have h0' : ((s.size : Int) = 0) = False := eq_false (by omega)
    have hp : 0 < s.size := by omega
    obtain ⟨b, r, hbr⟩ : ∃ b r, s.data.toList = b :: r := by
      cases hl : s.data.toList with
      | nil => rw [hl] at hsz; exact absurd (show s.size = 0 from hsz) h0
      | cons b r => exact ⟨b, r, rfl⟩
    have hl0 : 0 < s.data.toList.length := by rw [← hsz]; exact hp
    have hb0 : s.data.toList[0]'hl0 = b := by simp [hbr]
    have hgs : s[0]? = some b := by rw [str_get hp, hb0]
    by_cases h1 : cls b.toNat = 1
    · have hv : nmOk s = (s.data.toList.all okB && !resS s) := by
        unfold nmOk
        rw [hbr]
        simp [h1]
      refine acalls_of_awp (fn := Tryz.f42) (N := 33) Tryz.call42 Tryz.func42 rfl rfl (by simp) ?_
      simp only [go_sem]
      refine awp_seq_k (fun K1 hK1 => ?_)
      refine awp_plain 1 (by kernel_rfl) rfl (fun g0 hg0 => ?_)
      simp only [go_sem]
      refine hK1 _ ?_
      refine awp_seq_k (fun K2 hK2 => ?_)
      refine awp_seq_k (fun K3 hK3 => ?_)
      refine awp_ops (by kernel_rfl) rfl (fun g1 hg1 ops1 KR1 hops1 hKR1 => ?_)
      refine aops_eval 6 hops1 ?_
      simp only [go_sem]
      try simp only [go_sem, h0', decide_false, hgs]
      refine aops_pure hops1 rfl rfl rfl (class_calls _ _ _) (CoL.refl _) ?_
      refine aops_last 2 hops1 ?_
      simp only [go_sem, h1, decide_true, Bool.not_true]
      refine hKR1 _ ?_
      refine hK3 _ ?_
      refine awp_f rfl ?_
      refine awp_skip ?_
      refine hK2 _ ?_
      refine awp_seq_k (fun K4 hK4 => ?_)
      refine awp_seq_k (fun K5 hK5 => ?_)
      refine awp_plain 1 (by kernel_rfl) rfl (fun g3 hg3 => ?_)
      simp only [go_sem]
      refine hK5 _ ?_
      refine awp_block ?_
      refine awp_loop (fun m st => ∃ k, k ≤ s.size ∧ m = s.size - k ∧ (s.data.toList.take k).all okB = true ∧ Le { env := [(0, encS s), (3, dN k)], σ := [] } st) s.size ?_ ?_
      · refine ⟨0, Nat.zero_le _, rfl, rfl, le_of ?_⟩
        simp only [go_sem]
        all_goals first | exact rfl | exact ⟨rfl, rfl⟩ | trivial
      · rintro m st ⟨k, hk, rfl, hall, hle⟩
        refine awp_keep hle ?_
        clear hle
        refine awp_seq_k (fun K6 hK6 => ?_)
        refine awp_seq_k (fun K7 hK7 => ?_)
        by_cases hlt : k < s.size
        · have hlt' : ((k : Int) < (s.size : Int)) = True := eq_true (by omega)
          have hnn : (0 : Int) ≤ (k : Int) := by omega
          have htake : (s.data.toList.take (k + 1)).all okB = okB (s.data.toList[k]'(by omega)) := by
            rw [List.take_add_one, List.getElem?_eq_getElem (by omega : k < s.data.toList.length), List.all_append, hall]
            simp
          refine awp_plain 4 (by kernel_rfl) rfl (fun g4 hg4 => ?_)
          simp only [go_sem, hlt', decide_true]
          refine hK7 _ ?_
          refine awp_t rfl ?_
          refine awp_skip ?_
          refine hK6 _ ?_
          refine awp_seq_k (fun K8 hK8 => ?_)
          refine awp_block ?_
          refine awp_seq_k (fun K9 hK9 => ?_)
          refine awp_ops (by kernel_rfl) rfl (fun g6 hg6 ops6 KR6 hops6 hKR6 => ?_)
          refine aops_eval 3 hops6 ?_
          simp only [go_sem, hnn, Int.toNat_natCast, str_get hlt]
          refine aops_pure hops6 rfl rfl rfl (class_calls _ _ _) (CoL.refl _) ?_
          refine aops_last 1 hops6 ?_
          simp only [go_sem]
          refine hKR6 _ ?_
          refine hK9 _ ?_
          refine awp_seq_k (fun K10 hK10 => ?_)
          by_cases c0 : cls (s.data.toList[k]'(by omega)).toNat = 0
          · have hf : nmOk s = false := by
              rw [hv]
              have : s.data.toList.all okB = false := by
                rw [List.all_eq_false]
                exact ⟨_, List.getElem_mem (by omega : k < s.data.toList.length), by simp only [okB, c0, decide_true, Bool.not_true, Bool.false_and]; decide⟩
              rw [this]; rfl
            refine awp_plain 6 (by kernel_rfl) rfl (fun g7 hg7 => ?_)
            simp only [go_sem, c0, decide_true]
            refine hK10 _ ?_
            refine awp_t rfl ?_
            refine awp_seq_k (fun K11 hK11 => ?_)
            refine awp_plain 1 (by kernel_rfl) rfl (fun g8 hg8 => ?_)
            simp only [go_sem]
            refine hK11 _ ?_
            refine awp_ret ?_
            refine ends_ev rfl ?_
            simp only [go_sem]
            exact Co.of_eq (by rw [hf])
          · by_cases c4 : cls (s.data.toList[k]'(by omega)).toNat = 4
            · have hf : nmOk s = false := by
                rw [hv]
                have : s.data.toList.all okB = false := by
                  rw [List.all_eq_false]
                  exact ⟨_, List.getElem_mem (by omega : k < s.data.toList.length), by simp only [okB, c4, decide_true, Bool.not_true, Bool.and_false]; decide⟩
                rw [this]; rfl
              refine awp_plain 6 (by kernel_rfl) rfl (fun g7 hg7 => ?_)
              simp only [go_sem, c4, decide_true, decide_false]
              refine hK10 _ ?_
              refine awp_t rfl ?_
              refine awp_seq_k (fun K12 hK12 => ?_)
              refine awp_plain 1 (by kernel_rfl) rfl (fun g8 hg8 => ?_)
              simp only [go_sem]
              refine hK12 _ ?_
              refine awp_ret ?_
              refine ends_ev rfl ?_
              simp only [go_sem]
              exact Co.of_eq (by rw [hf])
            · refine awp_plain 6 (by kernel_rfl) rfl (fun g7 hg7 => ?_)
              simp only [go_sem, c0, c4, decide_false]
              refine hK10 _ ?_
              refine awp_f rfl ?_
              refine awp_skip ?_
              refine hK8 _ ?_
              refine awp_plain 3 (by kernel_rfl) rfl (fun g5 hg5 => ?_)
              simp only [go_sem]
              try simp (disch := omega) only [wrapN]
              refine ⟨_, ?_, k + 1, hlt, rfl, ?_, le_of ?_⟩
              · omega
              · rw [htake]; simp only [okB, c0, c4, decide_false, Bool.not_false, Bool.and_self]
              simp only [go_sem]
              all_goals first | exact rfl | exact ⟨rfl, rfl⟩ | trivial | omega
        · have : k = s.size := by omega
          subst this
          have hlt' : ((s.size : Int) < (s.size : Int)) = False := eq_false (by omega)
          rw [hsz, List.take_length] at hall
          refine awp_plain 4 (by kernel_rfl) rfl (fun g4 hg4 => ?_)
          simp only [go_sem, hlt', decide_false]
          refine hK7 _ ?_
          refine awp_f rfl ?_
          refine awp_exit ?_
          refine hK4 _ ?_
          refine awp_seq_k (fun K13 hK13 => ?_)
          refine awp_ops (by kernel_rfl) rfl (fun g9 hg9 ops9 KR9 hops9 hKR9 => ?_)
          refine aops_eval 1 hops9 ?_
          simp only [go_sem]
          refine aops_pure hops9 rfl rfl rfl (reserved_calls s _ _) (CoL.refl _) ?_
          refine aops_last 2 hops9 ?_
          simp only [go_sem]
          refine hKR9 _ ?_
          refine hK13 _ ?_
          refine awp_ret ?_
          refine ends_ev rfl ?_
          simp only [go_sem]
          exact Co.of_eq (by rw [hv, hall]; simp [])
    · have hv : nmOk s = false := by
        unfold nmOk
        rw [hbr]
        simp [h1]
      refine acalls_of_awp (fn := Tryz.f42) (N := 33) Tryz.call42 Tryz.func42 rfl rfl (by simp) ?_
      simp only [go_sem]
      refine awp_seq_k (fun K1 hK1 => ?_)
      refine awp_plain 1 (by kernel_rfl) rfl (fun g0 hg0 => ?_)
      simp only [go_sem]
      refine hK1 _ ?_
      refine awp_seq_k (fun K2 hK2 => ?_)
      refine awp_seq_k (fun K3 hK3 => ?_)
      refine awp_ops (by kernel_rfl) rfl (fun g1 hg1 ops1 KR1 hops1 hKR1 => ?_)
      refine aops_eval 6 hops1 ?_
      simp only [go_sem]
      try simp only [go_sem, h0', decide_false, hgs]
      refine aops_pure hops1 rfl rfl rfl (class_calls _ _ _) (CoL.refl _) ?_
      refine aops_last 2 hops1 ?_
      simp only [go_sem, h1, decide_false, Bool.not_false]
      refine hKR1 _ ?_
      refine hK3 _ ?_
      refine awp_t rfl ?_
      refine awp_seq_k (fun K4 hK4 => ?_)
      refine awp_plain 1 (by kernel_rfl) rfl (fun g2 hg2 => ?_)
      simp only [go_sem]
      refine hK4 _ ?_
      refine awp_ret ?_
      refine ends_ev rfl ?_
      simp only [go_sem]
      exact Co.of_eq (by rw [hv])
end Go.Proofs.T


namespace Go.Ab
open Go Go.RowKit

section
variable {E : Ctx} {N : Nat} {l : List Oper} {g : Nat} {st : St}

def regOk2 (N : Nat) (l : List Oper) (nq : Nat) : Bool :=
  dstsOk N l && edgesOk 0 l && allIdx (looksOk (masks l []) l) 0 l && allIdx (fun i _ => decide (i < nq + 1) || (List.range i).all fun j => bit (masks l []) i j) 0 l

/-- What holds when the operations in L have come up. -/
structure Inv2 (w0 : World) (E : Ctx) (N : Nat) (l : List Oper) (g : Nat) (st : St) (tr : List (D × Sto)) (G1 : Gh) (w1 : World) (L : Nat → Bool) (τ0 τ : Kp) (G : Gh) (w : World) (a : Act) : Prop where
  size : a.tmps.size = N
  defers : Marks G w a.defers
  wf : WF w0 G w
  old : ∀ t d, lk st.env t = some d → (∀ (j : Nat) o, L j = true → l[j]? = some o → o.dst ≠ some t) → t < N ∧ V G w (a.tmps.getD t undef) d
  new : ∀ (j : Nat) o t v nw, L j = true → l[j]? = some o → o.dst = some t → tr[j]? = some (v, nw) → V G w (a.tmps.getD t undef) v
  objs : Objs w0 G w (Kp.or (kapp L 0 tr (get st.σ)) τ)
  fresh : g < G.top ∧ ∀ (j : Nat) o d, L j = false → l[j]? = some o → o.dst = some d → ∀ q, G.ρ ⟨g, d, q⟩ = none
  step : Step (fun n => n.g = g) G1 w1 (Kp.or (get st.σ) τ0) G w (Kp.or (kapp L 0 tr (get st.σ)) τ)
  down : Down l (fun i => L i = true)

theorem TOp.frame {o : Oper} {e : Operand → D} {κs κs' τ κ : Kp} {v : D} (h : TOp E g o e κs v κs') (hsub : ∀ n x, κs n = some x → κ n = some x) (hτ : ∀ n x, τ n = some x → κ n = some x ∧ κs n = none) : TOp E g o e κ v (Kp.or κs' τ) := by
  intro w0 hA G w a hw hV ho hf K Q' hK
  refine h w0 hA G w a hw hV (ho.sub hsub) hf K Q' fun G' w' x hw' hv ho' hs => ?_
  obtain ⟨f1, f2⟩ := Go.Ab.frame hw ho hsub hτ hs ho'
  exact hK G' w' x hw' hv f1 f2

end
end Go.Ab

namespace Go.Ab
open Go Go.RowKit
section
variable {E : Ctx} {N : Nat} {st : St}

end
end Go.Ab

namespace Go.Ab
open Go Go.RowKit

/-- What an operation leaves: its value, new things, and those that are gone. -/
structure TE where
  v : D
  nw : Sto
  dead : List Nm

def minus (κ : Kp) (ms : List Nm) : Kp := fun n => if n ∈ ms then none else κ n

def turnOk (M : List Nat) (ds : List (Option Tmp)) (i : Nat) (ms : List Nm) : Bool :=
  ms.all fun m => (List.range ds.length).all fun j => !((ds[j]?).join == some m.i) || bit M i j

def TStep (E : Ctx) (ops : List Oper) (M : List Nat) (g : Nat) (σ0 : Sto) (i : Nat) (o : Oper) (σ : Sto) (env : List (Nat × D)) (p : TE) : Prop :=
  (∀ q ∈ p.nw, q.1.g = g ∧ o.dst = some q.1.i) ∧
  ((wantD ops env o = some true ∧ QOp E g o (ev E env) (get σ0) p.v p.nw ∧ p.dead = []) ∨ (wantD ops env o = some false ∧ p.v = .val undef ∧ p.nw = [] ∧ p.dead = []) ∨
   (wantD ops env o = some true ∧ ∃ σs : Sto, p.dead = σs.map (·.1) ∧ TOp E g o (ev E env) (get σs) p.v (get p.nw) ∧ (∀ q ∈ σs, get σ q.1 = some q.2) ∧ (∀ m ∈ p.dead, m.g = g) ∧ turnOk M (ops.map (·.dst)) i p.dead = true))

inductive TTrace (E : Ctx) (ops : List Oper) (M : List Nat) (g : Nat) (σ0 : Sto) : Nat → Sto → List Oper → List (Nat × D) → List TE → List (Nat × D) → Prop
  | nil {i : Nat} {σ : Sto} {env : List (Nat × D)} : TTrace E ops M g σ0 i σ [] env [] env
  | cons {i : Nat} {σ : Sto} {o : Oper} {r : List Oper} {env env' : List (Nat × D)} {p : TE} {tr : List TE} : TStep E ops M g σ0 i o σ env p → TTrace E ops M g σ0 (i + 1) (p.nw ++ dels σ p.dead) r (putE env o.dst p.v) tr env' →
      TTrace E ops M g σ0 i σ (o :: r) env (p :: tr) env'

def accT : List TE → Sto → Sto
  | [], σ => σ
  | p :: r, σ => accT r (p.nw ++ dels σ p.dead)

def QRunT (E : Ctx) (ops : List Oper) (M : List Nat) (g : Nat) (σ0 : Sto) (i : Nat) (K : St → Prop) (l : List Oper) (st : St) : Prop :=
  ∃ tr env', TTrace E ops M g σ0 i st.σ l st.env tr env' ∧ K ⟨env', accT tr st.σ⟩

section
variable {E : Ctx} {N : Nat} {ops : List Oper} {M : List Nat} {g i0 : Nat} {σ0 : Sto} {st : St}

theorem qrunT_nil {K : St → Prop} (h : K st) : QRunT E ops M g σ0 i0 K [] st := ⟨[], st.env, .nil, h⟩

theorem qrunT_cons {K : St → Prop} {o : Oper} {r : List Oper} {p : TE} (hs : TStep E ops M g σ0 i0 o st.σ st.env p) (h : QRunT E ops M g σ0 (i0 + 1) K r { env := putE st.env o.dst p.v, σ := p.nw ++ dels st.σ p.dead }) : QRunT E ops M g σ0 i0 K (o :: r) st :=
  let ⟨tr, env', h1, h2⟩ := h
  ⟨p :: tr, env', .cons hs h1, h2⟩

theorem TTrace.length {l : List Oper} {σ : Sto} {env env' : List (Nat × D)} {tr : List TE} (h : TTrace E ops M g σ0 i0 σ l env tr env') : tr.length = l.length := by
  induction h with
  | nil => rfl
  | cons _ _ ih => simp [ih]

theorem TTrace.split {l : List Oper} {σ : Sto} {env env' : List (Nat × D)} {tr : List TE} (h : TTrace E ops M g σ0 i0 σ l env tr env') :
    ∀ (i : Nat) o, l[i]? = some o → ∃ envi p, TTrace E ops M g σ0 i0 σ (l.take i) env (tr.take i) envi ∧ tr[i]? = some p ∧ TStep E ops M g σ0 (i0 + i) o (accT (tr.take i) σ) envi p := by
  induction h with
  | nil => intro i o h; simp at h
  | cons hs _ ih =>
    intro i o ho
    cases i with
    | zero => simp only [List.getElem?_cons_zero, Option.some.injEq] at ho; subst ho; exact ⟨_, _, .nil, rfl, hs⟩
    | succ i =>
      obtain ⟨envi, p, h1, h2, h3⟩ := ih i o (by simpa using ho)
      refine ⟨envi, p, .cons hs h1, h2, ?_⟩
      rw [show ∀ a : Nat, a + (i + 1) = a + 1 + i by omega]
      exact h3

theorem TTrace.env {l : List Oper} {σ : Sto} {env env' : List (Nat × D)} {tr : List TE} (h : TTrace E ops M g σ0 i0 σ l env tr env') (t : Nat) :
    (∃ (j : Nat) (o : Oper) (p : TE), l[j]? = some o ∧ o.dst = some t ∧ tr[j]? = some p ∧ lk env' t = some p.v) ∨ ((∀ (j : Nat) o, l[j]? = some o → o.dst ≠ some t) ∧ lk env' t = lk env t) := by
  induction h with
  | nil => exact .inr ⟨fun j o h => by simp at h, rfl⟩
  | cons hs _ ih =>
    rename_i i σ o r env env' p tr _
    rcases ih with ⟨j, o', p', h1, h2, h3, h4⟩ | ⟨h1, h2⟩
    · exact .inl ⟨j + 1, o', p', by simpa using h1, h2, by simpa using h3, h4⟩
    · by_cases hd : o.dst = some t
      · refine .inl ⟨0, o, p, rfl, hd, rfl, ?_⟩
        rw [h2, hd]
        simp [putE, lk]
      · refine .inr ⟨fun j o' ho => ?_, ?_⟩
        · cases j with
          | zero => simp only [List.getElem?_cons_zero, Option.some.injEq] at ho; subst ho; exact hd
          | succ j => exact h1 j o' (by simpa using ho)
        · rw [h2]
          cases hx : o.dst with
          | none => rfl
          | some d =>
            simp only [putE, lk]
            rw [if_neg (fun e => hd (by rw [hx, e]))]

/-! ### The objects when the operations in 'L' have come up -/
def kappT (L : Nat → Bool) : Nat → List TE → Kp → Kp
  | _, [], κ => κ
  | k, p :: r, κ => kappT L (k + 1) r (if L k then Kp.or (get p.nw) (minus κ p.dead) else κ)

theorem get_dels_minus (σ : Sto) (ms : List Nm) : get (dels σ ms) = minus (get σ) ms := by
  funext n
  rw [get_dels, minus]

theorem kappT_congr {L L' : Nat → Bool} : ∀ (k : Nat) (tr : List TE) (κ : Kp), (∀ j, k ≤ j → L j = L' j) → kappT L k tr κ = kappT L' k tr κ
  | _, [], _, _ => rfl
  | k, _ :: r, κ, h => by
    simp only [kappT, h k (Nat.le_refl _)]
    exact kappT_congr (k + 1) r _ fun j hj => h j (by omega)

theorem kappT_in (L : Nat → Bool) (a : Kp) (ms : List Nm) : ∀ (k : Nat) (tr : List TE) (κ : Kp),
    (∀ (j : Nat) p, tr[j]? = some p → L (k + j) = true → Dis a (get p.nw) ∧ (∀ n, a n ≠ none → n ∉ p.dead) ∧ ∀ n ∈ ms, get p.nw n = none) → kappT L k tr (Kp.or a (minus κ ms)) = Kp.or a (minus (kappT L k tr κ) ms)
  | _, [], _, _ => rfl
  | k, p :: r, κ, h => by
    simp only [kappT]
    have ih := fun κ' => kappT_in L a ms (k + 1) r κ' (fun j q hj hL => h (j + 1) q (by simpa using hj) (by rw [show k + (j + 1) = k + 1 + j by omega]; exact hL))
    split
    · rename_i hL
      obtain ⟨h1, h2, h3⟩ := h 0 p rfl (by simpa using hL)
      rw [← ih]
      congr 1
      funext n
      simp only [Kp.or, minus]
      rcases h1 n with e | e
      · simp only [e, Option.none_or]
        by_cases hm : n ∈ ms
        · simp [hm, h3 n hm]
        · simp [hm]
      · simp only [e, Option.none_or]
        by_cases hd : n ∈ p.dead
        · have : a n = none := by
            cases ha : a n with
            | none => rfl
            | some y => exact absurd hd (h2 n (by simp [ha]))
          simp [hd, this]
        · simp [hd]
    · exact ih κ

theorem kappT_put {L L' : Nat → Bool} {i : Nat} (hi : L i = false) (hi' : L' i = true) (ho : ∀ j, j ≠ i → L' j = L j) : ∀ (k : Nat) (tr : List TE) (κ : Kp) (p : TE), k ≤ i → tr[i - k]? = some p →
    (∀ (j : Nat) q, tr[j]? = some q → i < k + j → L (k + j) = true → Dis (get p.nw) (get q.nw) ∧ (∀ n, get p.nw n ≠ none → n ∉ q.dead) ∧ ∀ n ∈ p.dead, get q.nw n = none) → kappT L' k tr κ = Kp.or (get p.nw) (minus (kappT L k tr κ) p.dead)
  | k, [], κ, p, _, h, _ => by simp at h
  | k, q :: r, κ, p, hk, h, hd => by
    simp only [kappT]
    by_cases he : k = i
    · subst he
      simp only [Nat.sub_self, List.getElem?_cons_zero, Option.some.injEq] at h
      subst h
      rw [hi, hi']
      simp only [if_true, Bool.false_eq_true, if_false]
      rw [kappT_congr (L' := L) (k + 1) r _ fun j hj => ho j (by omega)]
      exact kappT_in L _ _ (k + 1) r κ fun j x hx hL => hd (j + 1) x (by simpa using hx) (by omega) (by rw [show k + (j + 1) = k + 1 + j by omega]; exact hL)
    · rw [ho k he]
      rw [show i - k = (i - (k + 1)) + 1 by omega, List.getElem?_cons_succ] at h
      exact kappT_put hi hi' ho (k + 1) r _ p (by omega) h (fun j x hj hlt hL => hd (j + 1) x (by simpa using hj) (by omega) (by rw [show k + (j + 1) = k + 1 + j by omega]; exact hL))

theorem kappT_get {L : Nat → Bool} {m : Nm} {ob : Ob} : ∀ (k : Nat) (tr : List TE) (κ : Kp), (∀ (j : Nat) p, tr[j]? = some p → L (k + j) = true → m ∉ p.dead) →
    (∀ (j : Nat) p, tr[j]? = some p → L (k + j) = true → get p.nw m = none ∨ get p.nw m = some ob) → (κ m = some ob ∨ ∃ (j : Nat) (p : TE), tr[j]? = some p ∧ L (k + j) = true ∧ get p.nw m = some ob) → kappT L k tr κ m = some ob
  | _, [], _, _, _, h => by
    rcases h with h | ⟨j, p, h, _⟩
    · exact h
    · simp at h
  | k, p :: r, κ, h1, h2, h3 => by
    simp only [kappT]
    refine kappT_get (k + 1) r _ (fun j q hj hL => h1 (j + 1) q (by simpa using hj) (by rw [show k + (j + 1) = k + 1 + j by omega]; exact hL)) (fun j q hj hL => h2 (j + 1) q (by simpa using hj) (by rw [show k + (j + 1) = k + 1 + j by omega]; exact hL)) ?_
    rcases h3 with h3 | ⟨j, q, hj, hL, hq⟩
    · left
      split
      · rename_i hL
        have a1 := h1 0 p rfl (by simpa using hL)
        rcases h2 0 p rfl (by simpa using hL) with a2 | a2
        · simp [Kp.or, a2, minus, a1, h3]
        · simp [Kp.or, a2]
      · exact h3
    · cases j with
      | zero =>
        left
        simp only [List.getElem?_cons_zero, Option.some.injEq] at hj
        subst hj
        rw [if_pos (by simpa using hL)]
        simp [Kp.or, hq]
      | succ j => exact .inr ⟨j, q, by simpa using hj, by rw [show k + 1 + j = k + (j + 1) by omega]; exact hL, hq⟩

theorem kappT_old {L : Nat → Bool} {n : Nm} : ∀ (k : Nat) (tr : List TE) (κ : Kp), (∀ p ∈ tr, get p.nw n = none ∧ n ∉ p.dead) → kappT L k tr κ n = κ n
  | _, [], _, _ => rfl
  | k, p :: r, κ, h => by
    simp only [kappT]
    rw [kappT_old (k + 1) r _ fun p hp => h p (List.mem_cons_of_mem _ hp)]
    obtain ⟨h1, h2⟩ := h p List.mem_cons_self
    split
    · simp [Kp.or, h1, minus, h2]
    · rfl

theorem kappT_all {L : Nat → Bool} : ∀ (k : Nat) (tr : List TE) (σ : Sto), (∀ j, k ≤ j → j < k + tr.length → L j = true) → kappT L k tr (get σ) = get (accT tr σ)
  | _, [], _, _ => rfl
  | k, p :: r, σ, h => by
    simp only [kappT, accT]
    rw [h k (Nat.le_refl _) (by simp), if_pos rfl, ← get_dels_minus, ← get_append]
    exact kappT_all (k + 1) r _ fun j h1 h2 => h j (by omega) (by simp; omega)

theorem kappT_none {L : Nat → Bool} : ∀ (k : Nat) (tr : List TE) (κ : Kp), (∀ j, L j = false) → kappT L k tr κ = κ
  | _, [], _, _ => rfl
  | k, p :: r, κ, h => by
    simp only [kappT]
    rw [h k]
    exact kappT_none (k + 1) r _ h

theorem get_app_some {a b : Sto} {m : Nm} {ob : Ob} (h : get (a ++ b) m = some ob) : get a m = some ob ∨ (get a m = none ∧ get b m = some ob) := by
  rw [get_append] at h
  simp only [Kp.or] at h
  cases ha : get a m with
  | none => rw [ha] at h; exact .inr ⟨rfl, by simpa using h⟩
  | some x => rw [ha] at h; exact .inl (by simpa using h)

theorem accT_some {m : Nm} {ob : Ob} : ∀ (tr : List TE) (σ : Sto), get (accT tr σ) m = some ob → get σ m = some ob ∨ ∃ (j : Nat) (p : TE), tr[j]? = some p ∧ get p.nw m = some ob
  | [], σ, h => .inl h
  | p :: r, σ, h => by
    rcases accT_some r _ h with h | ⟨j, q, h1, h2⟩
    · rcases get_app_some h with h | ⟨_, h⟩
      · exact .inr ⟨0, p, rfl, h⟩
      · rw [get_dels_minus, minus] at h
        split at h
        · cases h
        · exact .inl h
    · exact .inr ⟨j + 1, q, by simpa using h1, h2⟩

theorem accT_gone {m : Nm} : ∀ (tr : List TE) (σ : Sto), get σ m = none → (∀ p ∈ tr, get p.nw m = none) → get (accT tr σ) m = none
  | [], _, h, _ => h
  | p :: r, σ, h, hn => by
    refine accT_gone r _ ?_ fun q hq => hn q (List.mem_cons_of_mem _ hq)
    rw [get_append, Kp.or, hn p List.mem_cons_self, get_dels_minus, minus, h]
    simp

theorem accT_dead {m : Nm} : ∀ (tr : List TE) (σ : Sto) (k : Nat) (p : TE), tr[k]? = some p → m ∈ p.dead → (∀ (j : Nat) q, k ≤ j → tr[j]? = some q → get q.nw m = none) → get (accT tr σ) m = none
  | [], _, _, _, h, _, _ => by simp at h
  | q :: r, σ, 0, p, h, hm, hn => by
    simp only [List.getElem?_cons_zero, Option.some.injEq] at h
    subst h
    refine accT_gone r _ ?_ fun x hx => ?_
    · rw [get_append, Kp.or, hn 0 q (Nat.le_refl _) rfl, get_dels_minus, minus, if_pos hm]
      rfl
    · obtain ⟨j, hj⟩ := List.mem_iff_getElem?.1 hx
      exact hn (j + 1) x (by omega) (by simpa using hj)
  | q :: r, σ, k + 1, p, h, hm, hn => accT_dead r _ k p (by simpa using h) hm fun j x hkj hx => hn (j + 1) x (by omega) (by simpa using hx)

end
end Go.Ab
