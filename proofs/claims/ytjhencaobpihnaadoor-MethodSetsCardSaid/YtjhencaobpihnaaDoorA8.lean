/- A part of the proof, under no conditions of its own: A8. -/
import Derived.Test.YtjhencaobpihnaaDoorYC
import Derived.Test.YtjhencaobpihnaaDoorL10
import Derived.Lib.ItoaLen
namespace Go.Proofs.T
open Go Go.Ab Go.RowKit

/-! ## Decimal numerals, local names -/

def decS (u : Nat) : Str := ⟨(Lib.decDigits u).toArray⟩
theorem decS_size (u : Nat) (h : u ≤ 9223372036854775807) : (decS u).size ≤ 20 := by
  have h1 : (decS u).size = (Lib.decDigits u).length := by simp [decS, ByteArray.size]
  rw [h1, Lib.decDigits_length]
  exact Lib.nDigits_le20 u (by omega)

theorem decS_small {u : Nat} (h : u < 10) : strOfNums [48 + (u : Int)] = decS u := by
  unfold decS
  rw [Lib.decDigits, dif_pos h]
  simp only [strOfNums, List.map_cons, List.map_nil]
  congr 3
theorem decS_big {u : Nat} (h : ¬ u < 10) : decS (u / 10) ++ strOfNums [48 + ((u : Int) % 10)] = decS u := by
  unfold decS
  conv => rhs; rw [Lib.decDigits, dif_neg h]
  simp only [strOfNums, List.map_cons, List.map_nil]
  apply ByteArray.ext
  simp only [ByteArray.data_append]
  rw [← List.append_toArray]
  congr 4

def localS (u : Nat) : Str := ⟨#[36]⟩ ++ decS u

theorem itoa_calls (u : Nat) (hu : u ≤ 9223372036854775807) (g d : Nat) : ACalls E 75 [dN u] [] g d (encS (decS u)) [] := by
  refine acalls_grown (l := [.int .i64 (u : Int)]) Tryd.call75 fun w0 hA w hb => ?_
  have := Tryd.strconv_Itoa u (by omega) (by omega) w (tab_keeps hA hb)
  rwa [Lib.itoa_nonneg] at this

set_option maxRecDepth 100000 in
theorem local_calls (u : Nat) (hu : u ≤ 9223372036854775807) (g d : Nat) : ACalls E 48 [dN u] [] g d (encS (localS u)) [] := by
  have h0 : ¬ (u : Int) < 0 := by omega
  have h3 : 1 + (decS u).size ≤ 9223372036854775807 := by
    have := decS_size u hu
    omega
  refine acalls_of_awp (fn := Tryd.f48) (N := 8) Tryd.call48 Tryd.func48 rfl rfl (by simp) ?_
  simp only [go_sem]
  refine awp_seq_k (fun K1 hK1 => ?_)
  refine awp_plain 1 (by kernel_rfl) rfl (fun g0 hg0 => ?_)
  simp only [go_sem]
  refine hK1 _ ?_
  refine awp_seq_k (fun K2 hK2 => ?_)
  refine awp_seq_k (fun K3 hK3 => ?_)
  refine awp_plain 2 (by kernel_rfl) rfl (fun g1 hg1 => ?_)
  simp only [go_sem, h0]
  refine hK3 _ ?_
  refine awp_f rfl ?_
  refine awp_skip ?_
  refine hK2 _ ?_
  refine awp_seq_k (fun K4 hK4 => ?_)
  refine awp_ops (by kernel_rfl) rfl (fun g3 hg3 ops3 KR3 hops3 hKR3 => ?_)
  refine aops_eval 1 hops3 ?_
  simp only [go_sem]
  refine aops_pure hops3 rfl rfl rfl (itoa_calls u hu _ _) (CoL.refl _) ?_
  refine aops_last 2 hops3 ?_
  simp only [go_sem, h3]
  try simp (disch := omega) only [wrapN, wrapB, Int.tdiv_eq_ediv_of_nonneg, Int.tmod_eq_emod_of_nonneg]
  refine hKR3 _ ?_
  refine hK4 _ ?_
  refine awp_ret ?_
  refine ends_ev rfl ?_
  simp only [go_sem]
  exact Co.refl _

end Go.Proofs.T

