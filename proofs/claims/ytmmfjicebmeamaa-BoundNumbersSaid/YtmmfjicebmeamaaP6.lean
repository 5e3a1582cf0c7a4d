/- A part of the proof, under no conditions of its own: P6. -/
import Derived.Test.YtmmfjicebmeamaaP5
namespace Go.Proofs.T
open Go Go.Ab Go.RowKit

/-! ## No nodes -/

theorem cloneSig_none (g d : Nat) : ACalls E 23 [nilS] [] g d (.own ⟨g, d, 1⟩ 0) [(⟨g, d, 1⟩, .arr 36 7 [])] := by
  refine acalls_of_awp (fn := Try.f23) (N := 8) Try.call23 Try.func23 rfl rfl (by simp) ?_
  simp only [go_sem]
  refine awp_seq_k (fun K1 hK1 => ?_)
  refine awp_plain 1 (by kernel_rfl) rfl (fun g0 hg0 => ?_)
  simp only [go_sem]
  refine hK1 _ ?_
  refine awp_seq_k (fun K2 hK2 => ?_)
  refine awp_seq_k (fun K3 hK3 => ?_)
  refine awp_plain 2 (by kernel_rfl) rfl (fun g1 hg1 => ?_)
  simp only [go_sem]
  refine hK3 _ ?_
  refine awp_t rfl ?_
  refine awp_seq_k (fun K4 hK4 => ?_)
  refine awp_plain 1 (by kernel_rfl) rfl (fun g2 hg2 => ?_)
  simp only [go_sem]
  refine hK4 _ ?_
  refine awp_ret ?_
  refine ret_nil 2 36 7 rfl fun gz hgz => ?_
  refine ends_own [⟨gz, 0, 0⟩] rfl ?_
  simp only [go_sem, newSto]
  exact Co.refl _
set_option maxRecDepth 100000 in
theorem nodes1_none (b : Bool) (s : Str) (x : D) (g d : Nat) : ACalls E 22 [dB b, encS s, nilS, x] [] g d (.tup []) [] := by
  refine acalls_of_awp (fn := Try.f22) (N := 21) Try.call22 Try.func22 rfl rfl (by simp) ?_
  simp only [go_sem]
  refine awp_seq_k (fun K1 hK1 => ?_)
  refine awp_plain 3 (by kernel_rfl) rfl (fun g0 hg0 => ?_)
  simp only [go_sem]
  refine hK1 _ ?_
  refine awp_block ?_
  refine awp_loop (fun m s => m = 0 ∧ Le { env := [(9, dN 0), (10, dN 0)], σ := [] } s) 0 ?_ ?_
  · refine ⟨rfl, le_of ?_⟩
    simp only [go_sem]
    first | exact rfl | exact ⟨rfl, rfl⟩ | trivial
  · rintro m s ⟨rfl, hle⟩
    refine awp_keep hle ?_
    clear hle
    refine awp_seq_k (fun K2 hK2 => ?_)
    refine awp_plain 1 (by kernel_rfl) rfl (fun g1 hg1 => ?_)
    simp only [go_sem, show (((0 : Nat) : Int) < ((0 : Nat) : Int)) = False from eq_false (by decide), decide_false]
    refine hK2 _ ?_
    refine awp_seq_k (fun K3 hK3 => ?_)
    refine awp_f rfl ?_
    refine awp_exit ?_
    refine ends_ev rfl ?_
    simp only [go_sem]
    exact Co.refl _
theorem ba_get0 (x : UInt8) (r b c : List UInt8) : (⟨(((x :: r).append b).append c).toArray⟩ : ByteArray)[Int.toNat 0]? = some x := by
  have h : Int.toNat 0 < (⟨(((x :: r).append b).append c).toArray⟩ : ByteArray).size := by simp [ByteArray.size]
  rw [getElem?_pos (⟨(((x :: r).append b).append c).toArray⟩ : ByteArray) (Int.toNat 0) h]
  rfl
set_option maxRecDepth 100000 in
theorem len64_0 (g d : Nat) : ACalls E 54 [.val (.int .u64 0)] [] g d (dI 0) [] := by
  have e1 : ((4294967296 : Int) ≤ 0) = False := eq_false (by decide)
  have e2 : ((65536 : Int) ≤ 0) = False := eq_false (by decide)
  have e3 : ((256 : Int) ≤ 0) = False := eq_false (by decide)
  refine acalls_of_awp (fn := Try.f54) (N := 25) Try.call54 Try.func54 rfl rfl (by simp) ?_
  simp only [go_sem]
  refine awp_seq_k (fun K1 hK1 => ?_)
  refine awp_plain 1 (by kernel_rfl) rfl (fun g0 hg0 => ?_)
  simp only [go_sem]
  refine hK1 _ ?_
  refine awp_seq_k (fun K2 hK2 => ?_)
  refine awp_seq_k (fun K3 hK3 => ?_)
  refine awp_plain 2 (by kernel_rfl) rfl (fun g1 hg1 => ?_)
  simp only [go_sem, e1, decide_false]
  refine hK3 _ ?_
  refine awp_f rfl ?_
  refine awp_skip ?_
  refine hK2 _ ?_
  refine awp_seq_k (fun K4 hK4 => ?_)
  refine awp_seq_k (fun K5 hK5 => ?_)
  refine awp_plain 2 (by kernel_rfl) rfl (fun g4 hg4 => ?_)
  simp only [go_sem, e2, decide_false]
  refine hK5 _ ?_
  refine awp_f rfl ?_
  refine awp_skip ?_
  refine hK4 _ ?_
  refine awp_seq_k (fun K6 hK6 => ?_)
  refine awp_seq_k (fun K7 hK7 => ?_)
  refine awp_plain 2 (by kernel_rfl) rfl (fun g7 hg7 => ?_)
  simp only [go_sem, e3, decide_false]
  refine hK7 _ ?_
  refine awp_f rfl ?_
  refine awp_skip ?_
  refine hK6 _ ?_
  refine awp_seq_k (fun K8 hK8 => ?_)
  refine awp_plain 7 (by kernel_rfl) rfl (fun g10 hg10 => ?_)
  simp only [go_sem]
  try simp (disch := omega) only [wrapB]
  rw [ba_get0]
  try simp only [go_sem, show ((UInt8.toNat 0 : Nat) : Int) = 0 from rfl]
  try simp (disch := omega) only [wrapN]
  refine hK8 _ ?_
  refine awp_ret ?_
  refine ends_ev rfl ?_
  simp only [go_sem]
  exact Co.of_eq rfl
end Go.Proofs.T

