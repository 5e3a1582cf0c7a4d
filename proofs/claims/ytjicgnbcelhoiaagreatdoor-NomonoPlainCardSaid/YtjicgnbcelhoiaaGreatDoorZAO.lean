/- A part of the proof, under no conditions of its own: ZAO. -/
import Derived.Test.YtjicgnbcelhoiaaGreatDoorZAN
import Derived.Test.YtjicgnbcelhoiaaGreatDoorZAH
import Derived.Test.YtjicgnbcelhoiaaGreatDoorZAM
namespace Go.Proofs.T
open Go Go.Ab Go.RowKit
noncomputable def cls (c : Int) : Int := Classical.choose (class_ex c)
theorem class_calls (c : Int) (g d : Nat) : ACalls E 106 [.val (.int .u8 c)] [] g d (dI (cls c)) [] := Classical.choose_spec (class_ex c) g d
def rw0 : Str := ⟨#[112, 97, 99, 107, 97, 103, 101]⟩
def rw1 : Str := ⟨#[109, 97, 105, 110]⟩
def rw2 : Str := ⟨#[116, 121, 112, 101]⟩
def rw3 : Str := ⟨#[115, 116, 114, 117, 99, 116]⟩
def rw4 : Str := ⟨#[105, 110, 116, 101, 114, 102, 97, 99, 101]⟩
def rw5 : Str := ⟨#[102, 117, 110, 99]⟩
def rw6 : Str := ⟨#[114, 101, 116, 117, 114, 110]⟩
theorem reserved_ex (s : Str) : ∃ b : Bool, ∀ g d, ACalls E 107 [encS s] [] g d (dB b) [] := by
 by_cases h0 : s = ⟨#[112, 97, 99, 107, 97, 103, 101]⟩
 ·refine ⟨true, fun g d => ?_⟩
  subst h0
  refine acalls_of_awp (fn := Tryz.f107) (N := 27) Tryz.call107 Tryz.func107 rfl rfl (by simp) ?_
  simp only [go_sem]
  refine awp_seq_k (fun K1 hK1 => ?_)
  refine awp_plain 1 (by kernel_rfl) rfl (fun g0 hg0 => ?_)
  simp only [go_sem]
  refine hK1 _ ?_
  refine awp_seq_k (fun K2 hK2 => ?_)
  refine awp_seq_k (fun K3 hK3 => ?_)
  refine awp_plain 14 (by kernel_rfl) rfl (fun g1 hg1 => ?_)
  simp only [go_sem, decide_true]
  refine hK3 _ ?_
  refine awp_t rfl ?_
  refine awp_seq_k (fun K4 hK4 => ?_)
  refine awp_plain 1 (by kernel_rfl) rfl (fun g2 hg2 => ?_)
  simp only [go_sem]
  refine hK4 _ ?_
  refine awp_ret ?_
  refine ends_ev rfl ?_
  simp only [go_sem]
  exact Co.refl _
 by_cases h1 : s = ⟨#[109, 97, 105, 110]⟩
 ·refine ⟨true, fun g d => ?_⟩
  subst h1
  refine acalls_of_awp (fn := Tryz.f107) (N := 27) Tryz.call107 Tryz.func107 rfl rfl (by simp) ?_
  simp only [go_sem]
  refine awp_seq_k (fun K1 hK1 => ?_)
  refine awp_plain 1 (by kernel_rfl) rfl (fun g0 hg0 => ?_)
  simp only [go_sem]
  refine hK1 _ ?_
  refine awp_seq_k (fun K2 hK2 => ?_)
  refine awp_seq_k (fun K3 hK3 => ?_)
  refine awp_plain 14 (by kernel_rfl) rfl (fun g1 hg1 => ?_)
  simp only [go_sem, show ((⟨#[109, 97, 105, 110]⟩ : Str) = ⟨#[112, 97, 99, 107, 97, 103, 101]⟩) = False from eq_false (by decide), decide_true, decide_false]
  refine hK3 _ ?_
  refine awp_t rfl ?_
  refine awp_seq_k (fun K4 hK4 => ?_)
  refine awp_plain 1 (by kernel_rfl) rfl (fun g2 hg2 => ?_)
  simp only [go_sem]
  refine hK4 _ ?_
  refine awp_ret ?_
  refine ends_ev rfl ?_
  simp only [go_sem]
  exact Co.refl _
 by_cases h2 : s = ⟨#[116, 121, 112, 101]⟩
 ·refine ⟨true, fun g d => ?_⟩
  subst h2
  refine acalls_of_awp (fn := Tryz.f107) (N := 27) Tryz.call107 Tryz.func107 rfl rfl (by simp) ?_
  simp only [go_sem]
  refine awp_seq_k (fun K1 hK1 => ?_)
  refine awp_plain 1 (by kernel_rfl) rfl (fun g0 hg0 => ?_)
  simp only [go_sem]
  refine hK1 _ ?_
  refine awp_seq_k (fun K2 hK2 => ?_)
  refine awp_seq_k (fun K3 hK3 => ?_)
  refine awp_plain 14 (by kernel_rfl) rfl (fun g1 hg1 => ?_)
  simp only [go_sem, show ((⟨#[116, 121, 112, 101]⟩ : Str) = ⟨#[112, 97, 99, 107, 97, 103, 101]⟩) = False from eq_false (by decide), show ((⟨#[116, 121, 112, 101]⟩ : Str) = ⟨#[109, 97, 105, 110]⟩) = False from eq_false (by decide), decide_true, decide_false]
  refine hK3 _ ?_
  refine awp_t rfl ?_
  refine awp_seq_k (fun K4 hK4 => ?_)
  refine awp_plain 1 (by kernel_rfl) rfl (fun g2 hg2 => ?_)
  simp only [go_sem]
  refine hK4 _ ?_
  refine awp_ret ?_
  refine ends_ev rfl ?_
  simp only [go_sem]
  exact Co.refl _
 by_cases h3 : s = ⟨#[115, 116, 114, 117, 99, 116]⟩
 ·refine ⟨true, fun g d => ?_⟩
  subst h3
  refine acalls_of_awp (fn := Tryz.f107) (N := 27) Tryz.call107 Tryz.func107 rfl rfl (by simp) ?_
  simp only [go_sem]
  refine awp_seq_k (fun K1 hK1 => ?_)
  refine awp_plain 1 (by kernel_rfl) rfl (fun g0 hg0 => ?_)
  simp only [go_sem]
  refine hK1 _ ?_
  refine awp_seq_k (fun K2 hK2 => ?_)
  refine awp_seq_k (fun K3 hK3 => ?_)
  refine awp_plain 14 (by kernel_rfl) rfl (fun g1 hg1 => ?_)
  simp only [go_sem, show ((⟨#[115, 116, 114, 117, 99, 116]⟩ : Str) = ⟨#[112, 97, 99, 107, 97, 103, 101]⟩) = False from eq_false (by decide), show ((⟨#[115, 116, 114, 117, 99, 116]⟩ : Str) = ⟨#[109, 97, 105, 110]⟩) = False from eq_false (by decide), show ((⟨#[115, 116, 114, 117, 99, 116]⟩ : Str) = ⟨#[116, 121, 112, 101]⟩) = False from eq_false (by decide), decide_true, decide_false]
  refine hK3 _ ?_
  refine awp_t rfl ?_
  refine awp_seq_k (fun K4 hK4 => ?_)
  refine awp_plain 1 (by kernel_rfl) rfl (fun g2 hg2 => ?_)
  simp only [go_sem]
  refine hK4 _ ?_
  refine awp_ret ?_
  refine ends_ev rfl ?_
  simp only [go_sem]
  exact Co.refl _
 by_cases h4 : s = ⟨#[105, 110, 116, 101, 114, 102, 97, 99, 101]⟩
 ·refine ⟨true, fun g d => ?_⟩
  subst h4
  refine acalls_of_awp (fn := Tryz.f107) (N := 27) Tryz.call107 Tryz.func107 rfl rfl (by simp) ?_
  simp only [go_sem]
  refine awp_seq_k (fun K1 hK1 => ?_)
  refine awp_plain 1 (by kernel_rfl) rfl (fun g0 hg0 => ?_)
  simp only [go_sem]
  refine hK1 _ ?_
  refine awp_seq_k (fun K2 hK2 => ?_)
  refine awp_seq_k (fun K3 hK3 => ?_)
  refine awp_plain 14 (by kernel_rfl) rfl (fun g1 hg1 => ?_)
  simp only [go_sem, show ((⟨#[105, 110, 116, 101, 114, 102, 97, 99, 101]⟩ : Str) = ⟨#[112, 97, 99, 107, 97, 103, 101]⟩) = False from eq_false (by decide), show ((⟨#[105, 110, 116, 101, 114, 102, 97, 99, 101]⟩ : Str) = ⟨#[109, 97, 105, 110]⟩) = False from eq_false (by decide), show ((⟨#[105, 110, 116, 101, 114, 102, 97, 99, 101]⟩ : Str) = ⟨#[116, 121, 112, 101]⟩) = False from eq_false (by decide), show ((⟨#[105, 110, 116, 101, 114, 102, 97, 99, 101]⟩ : Str) = ⟨#[115, 116, 114, 117, 99, 116]⟩) = False from eq_false (by decide), decide_false]
  refine hK3 _ ?_
  refine awp_f rfl ?_
  refine awp_skip ?_
  refine hK2 _ ?_
  refine awp_seq_k (fun K4 hK4 => ?_)
  refine awp_plain 11 (by kernel_rfl) rfl (fun g3 hg3 => ?_)
  simp only [go_sem, decide_true]
  refine hK4 _ ?_
  refine awp_ret ?_
  refine ends_ev rfl ?_
  simp only [go_sem]
  exact Co.refl _
 by_cases h5 : s = ⟨#[102, 117, 110, 99]⟩
 ·refine ⟨true, fun g d => ?_⟩
  subst h5
  refine acalls_of_awp (fn := Tryz.f107) (N := 27) Tryz.call107 Tryz.func107 rfl rfl (by simp) ?_
  simp only [go_sem]
  refine awp_seq_k (fun K1 hK1 => ?_)
  refine awp_plain 1 (by kernel_rfl) rfl (fun g0 hg0 => ?_)
  simp only [go_sem]
  refine hK1 _ ?_
  refine awp_seq_k (fun K2 hK2 => ?_)
  refine awp_seq_k (fun K3 hK3 => ?_)
  refine awp_plain 14 (by kernel_rfl) rfl (fun g1 hg1 => ?_)
  simp only [go_sem, show ((⟨#[102, 117, 110, 99]⟩ : Str) = ⟨#[112, 97, 99, 107, 97, 103, 101]⟩) = False from eq_false (by decide), show ((⟨#[102, 117, 110, 99]⟩ : Str) = ⟨#[109, 97, 105, 110]⟩) = False from eq_false (by decide), show ((⟨#[102, 117, 110, 99]⟩ : Str) = ⟨#[116, 121, 112, 101]⟩) = False from eq_false (by decide), show ((⟨#[102, 117, 110, 99]⟩ : Str) = ⟨#[115, 116, 114, 117, 99, 116]⟩) = False from eq_false (by decide), decide_false]
  refine hK3 _ ?_
  refine awp_f rfl ?_
  refine awp_skip ?_
  refine hK2 _ ?_
  refine awp_seq_k (fun K4 hK4 => ?_)
  refine awp_plain 11 (by kernel_rfl) rfl (fun g3 hg3 => ?_)
  simp only [go_sem, show ((⟨#[102, 117, 110, 99]⟩ : Str) = ⟨#[105, 110, 116, 101, 114, 102, 97, 99, 101]⟩) = False from eq_false (by decide), decide_true, decide_false]
  refine hK4 _ ?_
  refine awp_ret ?_
  refine ends_ev rfl ?_
  simp only [go_sem]
  exact Co.refl _
 by_cases h6 : s = ⟨#[114, 101, 116, 117, 114, 110]⟩
 ·refine ⟨true, fun g d => ?_⟩
  subst h6
  refine acalls_of_awp (fn := Tryz.f107) (N := 27) Tryz.call107 Tryz.func107 rfl rfl (by simp) ?_
  simp only [go_sem]
  refine awp_seq_k (fun K1 hK1 => ?_)
  refine awp_plain 1 (by kernel_rfl) rfl (fun g0 hg0 => ?_)
  simp only [go_sem]
  refine hK1 _ ?_
  refine awp_seq_k (fun K2 hK2 => ?_)
  refine awp_seq_k (fun K3 hK3 => ?_)
  refine awp_plain 14 (by kernel_rfl) rfl (fun g1 hg1 => ?_)
  simp only [go_sem, show ((⟨#[114, 101, 116, 117, 114, 110]⟩ : Str) = ⟨#[112, 97, 99, 107, 97, 103, 101]⟩) = False from eq_false (by decide), show ((⟨#[114, 101, 116, 117, 114, 110]⟩ : Str) = ⟨#[109, 97, 105, 110]⟩) = False from eq_false (by decide), show ((⟨#[114, 101, 116, 117, 114, 110]⟩ : Str) = ⟨#[116, 121, 112, 101]⟩) = False from eq_false (by decide), show ((⟨#[114, 101, 116, 117, 114, 110]⟩ : Str) = ⟨#[115, 116, 114, 117, 99, 116]⟩) = False from eq_false (by decide), decide_false]
  refine hK3 _ ?_
  refine awp_f rfl ?_
  refine awp_skip ?_
  refine hK2 _ ?_
  refine awp_seq_k (fun K4 hK4 => ?_)
  refine awp_plain 11 (by kernel_rfl) rfl (fun g3 hg3 => ?_)
  simp only [go_sem, show ((⟨#[114, 101, 116, 117, 114, 110]⟩ : Str) = ⟨#[105, 110, 116, 101, 114, 102, 97, 99, 101]⟩) = False from eq_false (by decide), show ((⟨#[114, 101, 116, 117, 114, 110]⟩ : Str) = ⟨#[102, 117, 110, 99]⟩) = False from eq_false (by decide), decide_true, decide_false]
  refine hK4 _ ?_
  refine awp_ret ?_
  refine ends_ev rfl ?_
  simp only [go_sem]
  exact Co.refl _
 refine ⟨false, fun g d => ?_⟩
 refine acalls_of_awp (fn := Tryz.f107) (N := 27) Tryz.call107 Tryz.func107 rfl rfl (by simp) ?_
 simp only [go_sem]
 refine awp_seq_k (fun K1 hK1 => ?_)
 refine awp_plain 1 (by kernel_rfl) rfl (fun g0 hg0 => ?_)
 simp only [go_sem]
 refine hK1 _ ?_
 refine awp_seq_k (fun K2 hK2 => ?_)
 refine awp_seq_k (fun K3 hK3 => ?_)
 refine awp_plain 14 (by kernel_rfl) rfl (fun g1 hg1 => ?_)
 simp only [go_sem, h0, h1, h2, h3, decide_false]
 refine hK3 _ ?_
 refine awp_f rfl ?_
 refine awp_skip ?_
 refine hK2 _ ?_
 refine awp_seq_k (fun K4 hK4 => ?_)
 refine awp_plain 11 (by kernel_rfl) rfl (fun g3 hg3 => ?_)
 simp only [go_sem, h4, h5, h6, decide_false]
 refine hK4 _ ?_
 refine awp_ret ?_
 refine ends_ev rfl ?_
 simp only [go_sem]
 exact Co.refl _
noncomputable def resS (s : Str) : Bool := Classical.choose (reserved_ex s)
theorem reserved_calls (s : Str) (g d : Nat) : ACalls E 107 [encS s] [] g d (dB (resS s)) [] := Classical.choose_spec (reserved_ex s) g d
noncomputable def okB (b : UInt8) : Bool := !decide (cls b.toNat = 0) && !decide (cls b.toNat = 4)
noncomputable def nmOk (s : Str) : Bool := match s.data.toList with
 | [] => false
 | b :: _ => decide (cls b.toNat = 1) && s.data.toList.all okB && !resS s
set_option maxRecDepth 100000 in
theorem is_calls (s : Str) (hs : s.size ≤ 9223372036854775807) (g d : Nat) : ACalls E 78 [encS s] [] g d (dB (nmOk s)) [] := by
 have hsz : s.size = s.data.toList.length := by rw [Array.length_toList]; rfl
 by_cases h0 : s.size = 0
 ·have hv : nmOk s = false := by
   unfold nmOk
   rw [List.eq_nil_of_length_eq_zero (by omega : s.data.toList.length = 0)]
  have h0' : ((s.size : Int) = 0) = True := eq_true (by omega)
  rw [hv]
  refine acalls_of_awp (fn := Tryz.f78) (N := 33) Tryz.call78 Tryz.func78 rfl rfl (by simp) ?_
  simp only [go_sem]
  refine awp_seq_k (fun K1 hK1 => ?_)
  refine awp_plain 1 (by kernel_rfl) rfl (fun g0 hg0 => ?_)
  simp only [go_sem]
  refine hK1 _ ?_
  refine awp_seq_k (fun K2 hK2 => ?_)
  refine awp_seq_k (fun K3 hK3 => ?_)
  refine awp_plain 9 (by kernel_rfl) rfl (fun g1 hg1 => ?_)
  simp only [go_sem, h0', decide_true]
  refine hK3 _ ?_
  refine awp_t rfl ?_
  refine awp_seq_k (fun K4 hK4 => ?_)
  refine awp_plain 1 (by kernel_rfl) rfl (fun g2 hg2 => ?_)
  simp only [go_sem]
  refine hK4 _ ?_
  refine awp_ret ?_
  refine ends_ev rfl ?_
  simp only [go_sem]
  exact Co.refl _
 ·have h0' : ((s.size : Int) = 0) = False := eq_false (by omega)
  have hp : 0 < s.size := by omega
  obtain ⟨b, r, hbr⟩ : ∃ b r, s.data.toList = b :: r := by
   cases hl : s.data.toList with
   | nil => rw [hl] at hsz; exact absurd (show s.size = 0 from hsz) h0
   | cons b r => exact ⟨b, r, rfl⟩
  have hl0 : 0 < s.data.toList.length := by rw [← hsz]; exact hp
  have hb0 : s.data.toList[0]'hl0 = b := by simp [hbr]
  have hgs : s[0]? = some b := by rw [str_get hp, hb0]
  by_cases h1 : cls b.toNat = 1
  ·have hv : nmOk s = (s.data.toList.all okB && !resS s) := by
    unfold nmOk
    rw [hbr]
    simp [h1]
   refine acalls_of_awp (fn := Tryz.f78) (N := 33) Tryz.call78 Tryz.func78 rfl rfl (by simp) ?_
   simp only [go_sem]
   refine awp_seq_k (fun K1 hK1 => ?_)
   refine awp_plain 1 (by kernel_rfl) rfl (fun g0 hg0 => ?_)
   simp only [go_sem]
   refine hK1 _ ?_
   refine awp_seq_k (fun K2 hK2 => ?_)
   refine awp_seq_k (fun K3 hK3 => ?_)
   refine awp_ops (by kernel_rfl) rfl (fun g1 hg1 ops1 KR1 hops1 hKR1 => ?_)
   refine aops_eval 6 hops1 ?_
   simp only [go_sem]
   try simp only [go_sem, h0', decide_false, hgs]
   refine aops_pure hops1 rfl rfl rfl (class_calls _ _ _) (CoL.refl _) ?_
   refine aops_last 2 hops1 ?_
   simp only [go_sem, h1, decide_true, Bool.not_true]
   refine hKR1 _ ?_
   refine hK3 _ ?_
   refine awp_f rfl ?_
   refine awp_skip ?_
   refine hK2 _ ?_
   refine awp_seq_k (fun K4 hK4 => ?_)
   refine awp_seq_k (fun K5 hK5 => ?_)
   refine awp_plain 1 (by kernel_rfl) rfl (fun g3 hg3 => ?_)
   simp only [go_sem]
   refine hK5 _ ?_
   refine awp_block ?_
   refine awp_loop (fun m st => ∃ k, k ≤ s.size ∧ m = s.size - k ∧ (s.data.toList.take k).all okB = true ∧ Le { env := [(0, encS s), (3, dN k)], σ := [] } st) s.size ?_ ?_
   ·refine ⟨0, Nat.zero_le _, rfl, rfl, le_of ?_⟩
    simp only [go_sem]
    all_goals first | exact rfl | exact ⟨rfl, rfl⟩ | trivial
   ·rintro m st ⟨k, hk, rfl, hall, hle⟩
    refine awp_keep hle ?_
    clear hle
    refine awp_seq_k (fun K6 hK6 => ?_)
    refine awp_seq_k (fun K7 hK7 => ?_)
    by_cases hlt : k < s.size
    ·have hlt' : ((k : Int) < (s.size : Int)) = True := eq_true (by omega)
     have hnn : (0 : Int) ≤ (k : Int) := by omega
     have htake : (s.data.toList.take (k + 1)).all okB = okB (s.data.toList[k]'(by omega)) := by
      rw [List.take_add_one, List.getElem?_eq_getElem (by omega : k < s.data.toList.length), List.all_append, hall]
      simp
     refine awp_plain 4 (by kernel_rfl) rfl (fun g4 hg4 => ?_)
     simp only [go_sem, hlt', decide_true]
     refine hK7 _ ?_
     refine awp_t rfl ?_
     refine awp_skip ?_
     refine hK6 _ ?_
     refine awp_seq_k (fun K8 hK8 => ?_)
     refine awp_block ?_
     refine awp_seq_k (fun K9 hK9 => ?_)
     refine awp_ops (by kernel_rfl) rfl (fun g6 hg6 ops6 KR6 hops6 hKR6 => ?_)
     refine aops_eval 3 hops6 ?_
     simp only [go_sem, hnn, Int.toNat_natCast, str_get hlt]
     refine aops_pure hops6 rfl rfl rfl (class_calls _ _ _) (CoL.refl _) ?_
     refine aops_last 1 hops6 ?_
     simp only [go_sem]
     refine hKR6 _ ?_
     refine hK9 _ ?_
     refine awp_seq_k (fun K10 hK10 => ?_)
     by_cases c0 : cls (s.data.toList[k]'(by omega)).toNat = 0
     ·have hf : nmOk s = false := by
       rw [hv]
       have : s.data.toList.all okB = false := by
        rw [List.all_eq_false]
        exact ⟨_, List.getElem_mem (by omega : k < s.data.toList.length), by simp only [okB, c0, decide_true, Bool.not_true, Bool.false_and]; decide⟩
       rw [this]; rfl
      refine awp_plain 6 (by kernel_rfl) rfl (fun g7 hg7 => ?_)
      simp only [go_sem, c0, decide_true]
      refine hK10 _ ?_
      refine awp_t rfl ?_
      refine awp_seq_k (fun K11 hK11 => ?_)
      refine awp_plain 1 (by kernel_rfl) rfl (fun g8 hg8 => ?_)
      simp only [go_sem]
      refine hK11 _ ?_
      refine awp_ret ?_
      refine ends_ev rfl ?_
      simp only [go_sem]
      exact Co.of_eq (by rw [hf])
     ·by_cases c4 : cls (s.data.toList[k]'(by omega)).toNat = 4
      ·have hf : nmOk s = false := by
        rw [hv]
        have : s.data.toList.all okB = false := by
         rw [List.all_eq_false]
         exact ⟨_, List.getElem_mem (by omega : k < s.data.toList.length), by simp only [okB, c4, decide_true, Bool.not_true, Bool.and_false]; decide⟩
        rw [this]; rfl
       refine awp_plain 6 (by kernel_rfl) rfl (fun g7 hg7 => ?_)
       simp only [go_sem, c4, decide_true, decide_false]
       refine hK10 _ ?_
       refine awp_t rfl ?_
       refine awp_seq_k (fun K12 hK12 => ?_)
       refine awp_plain 1 (by kernel_rfl) rfl (fun g8 hg8 => ?_)
       simp only [go_sem]
       refine hK12 _ ?_
       refine awp_ret ?_
       refine ends_ev rfl ?_
       simp only [go_sem]
       exact Co.of_eq (by rw [hf])
      ·refine awp_plain 6 (by kernel_rfl) rfl (fun g7 hg7 => ?_)
       simp only [go_sem, c0, c4, decide_false]
       refine hK10 _ ?_
       refine awp_f rfl ?_
       refine awp_skip ?_
       refine hK8 _ ?_
       refine awp_plain 3 (by kernel_rfl) rfl (fun g5 hg5 => ?_)
       simp only [go_sem]
       try simp (disch := omega) only [wrapN]
       refine ⟨_, ?_, k + 1, hlt, rfl, ?_, le_of ?_⟩
       ·omega
       ·rw [htake]; simp only [okB, c0, c4, decide_false, Bool.not_false, Bool.and_self]
       simp only [go_sem]
       all_goals first | exact rfl | exact ⟨rfl, rfl⟩ | trivial | omega
    ·have : k = s.size := by omega
     subst this
     have hlt' : ((s.size : Int) < (s.size : Int)) = False := eq_false (by omega)
     rw [hsz, List.take_length] at hall
     refine awp_plain 4 (by kernel_rfl) rfl (fun g4 hg4 => ?_)
     simp only [go_sem, hlt', decide_false]
     refine hK7 _ ?_
     refine awp_f rfl ?_
     refine awp_exit ?_
     refine hK4 _ ?_
     refine awp_seq_k (fun K13 hK13 => ?_)
     refine awp_ops (by kernel_rfl) rfl (fun g9 hg9 ops9 KR9 hops9 hKR9 => ?_)
     refine aops_eval 1 hops9 ?_
     simp only [go_sem]
     refine aops_pure hops9 rfl rfl rfl (reserved_calls s _ _) (CoL.refl _) ?_
     refine aops_last 2 hops9 ?_
     simp only [go_sem]
     refine hKR9 _ ?_
     refine hK13 _ ?_
     refine awp_ret ?_
     refine ends_ev rfl ?_
     simp only [go_sem]
     exact Co.of_eq (by rw [hv, hall]; simp [])
  ·have hv : nmOk s = false := by
    unfold nmOk
    rw [hbr]
    simp [h1]
   refine acalls_of_awp (fn := Tryz.f78) (N := 33) Tryz.call78 Tryz.func78 rfl rfl (by simp) ?_
   simp only [go_sem]
   refine awp_seq_k (fun K1 hK1 => ?_)
   refine awp_plain 1 (by kernel_rfl) rfl (fun g0 hg0 => ?_)
   simp only [go_sem]
   refine hK1 _ ?_
   refine awp_seq_k (fun K2 hK2 => ?_)
   refine awp_seq_k (fun K3 hK3 => ?_)
   refine awp_ops (by kernel_rfl) rfl (fun g1 hg1 ops1 KR1 hops1 hKR1 => ?_)
   refine aops_eval 6 hops1 ?_
   simp only [go_sem]
   try simp only [go_sem, h0', decide_false, hgs]
   refine aops_pure hops1 rfl rfl rfl (class_calls _ _ _) (CoL.refl _) ?_
   refine aops_last 2 hops1 ?_
   simp only [go_sem, h1, decide_false, Bool.not_false]
   refine hKR1 _ ?_
   refine hK3 _ ?_
   refine awp_t rfl ?_
   refine awp_seq_k (fun K4 hK4 => ?_)
   refine awp_plain 1 (by kernel_rfl) rfl (fun g2 hg2 => ?_)
   simp only [go_sem]
   refine hK4 _ ?_
   refine awp_ret ?_
   refine ends_ev rfl ?_
   simp only [go_sem]
   exact Co.of_eq (by rw [hv])
end Go.Proofs.T
namespace Go.Proofs.T
open Go Go.Ab Go.RowKit
mutual
def namesTy : Ty → List Str
 | .mk n a _ => n :: namesTys a
def namesTys : List Ty → List Str
 | [] => []
 | t :: r => namesTy t ++ namesTys r
end
theorem namesTy_eq (t : Ty) : namesTy t = t.name :: namesTys t.args := by cases t; rfl
theorem namesTys_app : ∀ a b : List Ty, namesTys (a ++ b) = namesTys a ++ namesTys b
 | [], b => rfl
 | x :: a, b => by simp [namesTys, namesTys_app a b]
theorem namesTys_take (c : List Ty) (i : Nat) (h : i < c.length) : namesTys (c.take (i + 1)) = namesTys (c.take i) ++ namesTy c[i] := by
 rw [List.take_add_one, List.getElem?_eq_getElem h, namesTys_app]
 simp [namesTys]
theorem namesTys_len (c : List Ty) (i : Nat) : (namesTys (c.take i)).length ≤ (namesTys c).length := by
 have := congrArg (fun l => (namesTys l).length) (List.take_append_drop i c)
 simp only [namesTys_app, List.length_append] at this
 omega
theorem namesTys_get (c : List Ty) (i : Nat) (h : i < c.length) : (namesTy c[i]).length ≤ (namesTys c).length := by
 have h1 := namesTys_take c i h
 have h2 := namesTys_len c (i + 1)
 rw [h1, List.length_append] at h2
 omega
theorem namesTy_pos (t : Ty) : 0 < (namesTy t).length := by rw [namesTy_eq]; simp
theorem okRowsN : ∀ l : List Str, okRows 1 (l.map encS) := fun l => okRows_map 1 encS l fun _ => ⟨rfl, rfl⟩
set_option maxRecDepth 100000 in
theorem list04_calls : ∀ t : Ty, okTy t → (namesTy t).length ≤ 1000000 → ∀ g d, ACalls E 113 [encTy t] [] g d (slS (namesTy t)) [] := by
 intro t
 induction t using Ty.ind with
 | h t ih =>
 intro hok0 hlen g d
 have hok := (okTy_iff t).1 hok0
 have hn := namesTy_eq t
 have hl1 : (namesTys t.args).length + 1 ≤ 1000000 := by rw [hn] at hlen; simpa using hlen
 refine acalls_of_awp (fn := Tryz.f113) (N := 24) Tryz.call113 Tryz.func113 rfl rfl (by simp) ?_
 simp only [go_sem]
 refine awp_seq_k (fun K1 hK1 => ?_)
 refine awp_plain 2 (by kernel_rfl) rfl (fun g0 hg0 => ?_)
 simp only [go_sem]
 refine hK1 _ ?_
 refine awp_seq_k (fun K2 hK2 => ?_)
 refine awp_plain 4 (by kernel_rfl) rfl (fun g1 hg1 => ?_)
 simp only [go_sem]
 refine hK2 _ ?_
 refine awp_seq_k (fun K3 hK3 => ?_)
 refine awp_seq_k (fun K4 hK4 => ?_)
 refine awp_plain 1 (by kernel_rfl) rfl (fun g2 hg2 => ?_)
 simp only [go_sem]
 refine hK4 _ ?_
 refine awp_block ?_
 refine awp_loop (fun m s => ∃ k, k ≤ t.args.length ∧ m = t.args.length - k ∧ ((k = 0 ∧ Le { env := [(1, .ptr ⟨g0, 1, 0⟩ 0), (4, dN 0), (3, .sl true [encS t.name])], σ := [(⟨g0, 1, 0⟩, .box 25 (tyC t))] } s) ∨
   ∃ a i, a ≠ g0 ∧ Le { env := [(1, .ptr ⟨g0, 1, 0⟩ 0), (4, dN k), (3, .own ⟨a, i, 0⟩ (1 + (namesTys (t.args.take k)).length))], σ := [(⟨g0, 1, 0⟩, .box 25 (tyC t)), (⟨a, i, 0⟩, .arr 9 1 (encS t.name :: (namesTys (t.args.take k)).map encS))] } s)) t.args.length ?_ ?_
 ·refine ⟨0, Nat.zero_le _, rfl, .inl ⟨rfl, le_of ?_⟩⟩
  simp only [go_sem, tyC]
  all_goals first | exact rfl | exact ⟨rfl, rfl⟩ | trivial
 ·rintro m s ⟨k, hk, rfl, ⟨rfl, hle⟩ | ⟨a, i, ha, hle⟩⟩
  ·refine awp_keep hle ?_
   clear hle
   refine awp_seq_k (fun K5 hK5 => ?_)
   refine awp_seq_k (fun K6 hK6 => ?_)
   by_cases hlt : 0 < t.args.length
   ·have hlt' : (((0 : Nat) : Int) < (t.args.length : Int)) = True := eq_true (by omega)
    have hb := namesTys_get t.args 0 hlt
    have hp := namesTy_pos t.args[0]
    refine awp_plain 5 (by kernel_rfl) rfl (fun g3 hg3 => ?_)
    simp only [go_sem, hlt', decide_true, tyC]
    refine hK6 _ ?_
    refine awp_t rfl ?_
    refine awp_skip ?_
    refine hK5 _ ?_
    refine awp_seq_k (fun K7 hK7 => ?_)
    refine awp_block ?_
    refine awp_ops (by kernel_rfl) rfl (fun g5 hg5 ops5 KR5 hops5 hKR5 => ?_)
    refine aops_eval 6 hops5 ?_
    simp only [go_sem, getM hlt]
    have hn5_g0 : g5 ≠ g0 := fresh_g hg5 1 0 (by simp [go_sem])
    refine aops_pure hops5 rfl rfl rfl (ih _ (List.getElem_mem hlt) (hok.2.2 _ (List.getElem_mem hlt)) (by omega) _ _) (CoL.refl _) ?_
    refine aops_appx hops5 rfl rfl rfl rfl rfl es67 sz9 by9 ze9 rfl (by decide) ?_
    simp only [go_sem, okRowsN]
    refine ⟨hp, ⟨by omega, by omega⟩, ?_⟩
    refine aops_last 1 hops5 ?_
    simp only [go_sem]
    refine hKR5 _ ?_
    refine hK7 _ ?_
    refine awp_plain 3 (by kernel_rfl) rfl (fun g4 hg4 => ?_)
    simp only [go_sem, tyC]
    try simp (disch := omega) only [wrapN]
    refine ⟨_, ?_, 1, hlt, rfl, .inr ⟨g5, 22, hn5_g0, le_of ?_⟩⟩
    ·omega
    have h1 := namesTys_take t.args 0 hlt
    rw [List.take_zero] at h1
    have h2 : namesTys (t.args.take 1) = namesTy t.args[0] := h1
    simp only [go_sem, h2, hn5_g0, Ne.symm hn5_g0]
    all_goals first | exact rfl | exact ⟨rfl, rfl⟩ | trivial
   ·have h0 : t.args = [] := List.eq_nil_of_length_eq_zero (by omega)
    have hlt' : (((0 : Nat) : Int) < (t.args.length : Int)) = False := eq_false (by omega)
    refine awp_plain 5 (by kernel_rfl) rfl (fun g3 hg3 => ?_)
    simp only [go_sem, hlt', decide_false, tyC]
    refine hK6 _ ?_
    refine awp_f rfl ?_
    refine awp_exit ?_
    refine hK3 _ ?_
    refine awp_seq_k (fun K8 hK8 => ?_)
    refine awp_plain 2 (by kernel_rfl) rfl (fun g6 hg6 => ?_)
    simp only [go_sem]
    refine hK8 _ ?_
    refine awp_ret ?_
    refine ends_ev rfl ?_
    simp only [go_sem]
    exact by rw [hn, h0]; exact Co.inexact _ _
  ·refine awp_keep hle ?_
   clear hle
   refine awp_seq_k (fun K9 hK9 => ?_)
   refine awp_seq_k (fun K10 hK10 => ?_)
   by_cases hlt : k < t.args.length
   ·have hb := namesTys_get t.args k hlt
    have hc := namesTys_len t.args (k + 1)
    have h1 := namesTys_take t.args k hlt
    rw [h1, List.length_append] at hc
    refine awp_plain 5 (by kernel_rfl) rfl (fun g3 hg3 => ?_)
    simp only [go_sem, hlt, tyC, ha]
    refine hK10 _ ?_
    refine awp_t rfl ?_
    refine awp_skip ?_
    refine hK9 _ ?_
    refine awp_seq_k (fun K11 hK11 => ?_)
    refine awp_block ?_
    refine awp_ops (by kernel_rfl) rfl (fun g5 hg5 ops5 KR5 hops5 hKR5 => ?_)
    refine aops_eval 6 hops5 ?_
    simp only [go_sem, getM hlt, ha]
    refine aops_pure hops5 rfl rfl rfl (ih _ (List.getElem_mem hlt) (hok.2.2 _ (List.getElem_mem hlt)) (by omega) _ _) (CoL.refl _) ?_
    refine aops_app hops5 rfl rfl rfl rfl rfl es67 sz9 by9 ze9 rfl (by decide) ?_
    simp only [go_sem, okRowsN, Ne.symm ha]
    first | refine ⟨⟨by omega, by omega⟩, ?_⟩ | skip
    have hn5_g0 : g5 ≠ g0 := fresh_g hg5 1 0 (by simp [go_sem])
    refine aops_last 1 hops5 ?_
    simp only [go_sem]
    refine hKR5 _ ?_
    refine hK11 _ ?_
    refine awp_plain 3 (by kernel_rfl) rfl (fun g4 hg4 => ?_)
    simp only [go_sem, tyC]
    try simp (disch := omega) only [wrapN]
    refine ⟨_, ?_, k + 1, hlt, rfl, .inr ⟨g5, 22, hn5_g0, le_of ?_⟩⟩
    ·omega
    simp only [go_sem, h1, List.map_append, List.length_append, Nat.add_assoc, hn5_g0, Ne.symm hn5_g0]
    all_goals first | exact rfl | exact ⟨rfl, rfl⟩ | trivial | omega
   ·have : k = t.args.length := by omega
    subst this
    refine awp_plain 5 (by kernel_rfl) rfl (fun g3 hg3 => ?_)
    simp only [go_sem, hlt, tyC, ha]
    refine hK10 _ ?_
    refine awp_f rfl ?_
    refine awp_exit ?_
    refine hK3 _ ?_
    refine awp_seq_k (fun K12 hK12 => ?_)
    refine awp_plain 2 (by kernel_rfl) rfl (fun g6 hg6 => ?_)
    simp only [go_sem]
    refine hK12 _ ?_
    refine awp_ret ?_
    refine ret_frz ⟨a, i, 0⟩ ?_
    simp only [go_sem, Ne.symm ha]
    refine ends_ev rfl ?_
    simp only [go_sem]
    exact Co.of_eq (by rw [hn]; rfl)
end Go.Proofs.T
namespace Go.Proofs.T
open Go Go.Ab Go.RowKit
noncomputable def rightTy (t : Ty) : Bool := (namesTy t).all nmOk
theorem names_ok : ∀ t : Ty, okTy t → ∀ s ∈ namesTy t, s.size ≤ 9223372036854775807 := by
 intro t
 induction t using Ty.ind with
 | h t ih =>
 intro hok s hs
 obtain ⟨h1, h2, h3⟩ := (okTy_iff t).1 hok
 rw [namesTy_eq] at hs
 rcases List.mem_cons.1 hs with rfl | hs
 ·exact h1
 ·have : ∀ l : List Ty, (∀ x ∈ l, x ∈ t.args) → s ∈ namesTys l → s.size ≤ 9223372036854775807 := by
   intro l
   induction l with
   | nil => intro _ h; cases h
   | cons x r ihr =>
    intro hl h
    rcases List.mem_append.1 h with h | h
    ·exact ih x (hl x List.mem_cons_self) (h3 x (hl x List.mem_cons_self)) s h
    ·exact ihr (fun y hy => hl y (List.mem_cons_of_mem _ hy)) h
  exact this t.args (fun _ h => h) hs
set_option maxRecDepth 100000 in
theorem right04_calls (t : Ty) (hok : okTy t) (hlen : (namesTy t).length ≤ 1000000) (g d : Nat) : ACalls E 84 [encTy t] [] g d (dB (rightTy t)) [] := by
 have hsz := names_ok t hok
 refine acalls_of_awp (fn := Tryz.f84) (N := 19) Tryz.call84 Tryz.func84 rfl rfl (by simp) ?_
 simp only [go_sem]
 refine awp_seq_k (fun K1 hK1 => ?_)
 refine awp_plain 2 (by kernel_rfl) rfl (fun g0 hg0 => ?_)
 simp only [go_sem]
 refine hK1 _ ?_
 refine awp_seq_k (fun K2 hK2 => ?_)
 refine awp_ops (by kernel_rfl) rfl (fun g1 hg1 ops1 KR1 hops1 hKR1 => ?_)
 refine aops_eval 1 hops1 ?_
 simp only [go_sem]
 refine aops_pure hops1 rfl rfl rfl (list04_calls t hok hlen _ _) (CoL.refl _) ?_
 refine aops_last 1 hops1 ?_
 simp only [go_sem]
 refine hKR1 _ ?_
 refine hK2 _ ?_
 refine awp_seq_k (fun K3 hK3 => ?_)
 refine awp_seq_k (fun K4 hK4 => ?_)
 refine awp_plain 1 (by kernel_rfl) rfl (fun g2 hg2 => ?_)
 simp only [go_sem]
 refine hK4 _ ?_
 refine awp_block ?_
 refine awp_loop (fun m s => ∃ k, k ≤ (namesTy t).length ∧ m = (namesTy t).length - k ∧ ((namesTy t).take k).all nmOk = true ∧ Le { env := [(3, slS (namesTy t)), (4, dN k)], σ := [] } s) (namesTy t).length ?_ ?_
 ·refine ⟨0, Nat.zero_le _, rfl, rfl, le_of ?_⟩
  simp only [go_sem]
  all_goals first | exact rfl | exact ⟨rfl, rfl⟩ | trivial
 ·rintro m s ⟨k, hk, rfl, hall, hle⟩
  refine awp_keep hle ?_
  clear hle
  refine awp_seq_k (fun K5 hK5 => ?_)
  refine awp_seq_k (fun K6 hK6 => ?_)
  by_cases hlt : k < (namesTy t).length
  ·have htake : ((namesTy t).take (k + 1)).all nmOk = nmOk (namesTy t)[k] := by
    rw [List.take_add_one, List.getElem?_eq_getElem hlt, List.all_append, hall]
    simp
   refine awp_plain 4 (by kernel_rfl) rfl (fun g3 hg3 => ?_)
   simp only [go_sem, hlt]
   refine hK6 _ ?_
   refine awp_t rfl ?_
   refine awp_skip ?_
   refine hK5 _ ?_
   refine awp_seq_k (fun K7 hK7 => ?_)
   refine awp_block ?_
   refine awp_seq_k (fun K8 hK8 => ?_)
   refine awp_ops (by kernel_rfl) rfl (fun g5 hg5 ops5 KR5 hops5 hKR5 => ?_)
   refine aops_eval 4 hops5 ?_
   simp only [go_sem, getM hlt]
   cases hb : nmOk (namesTy t)[k] with
   | false =>
    have hf : rightTy t = false := by
     unfold rightTy
     rw [List.all_eq_false]
     exact ⟨_, List.getElem_mem hlt, by rw [hb]; decide⟩
    refine aops_pure hops5 rfl rfl rfl (is_calls (namesTy t)[k] (hsz _ (List.getElem_mem hlt)) _ _) (CoL.refl _) ?_
    refine aops_last 1 hops5 ?_
    simp only [go_sem, hb, Bool.not_false]
    refine hKR5 _ ?_
    refine hK8 _ ?_
    refine awp_t rfl ?_
    refine awp_seq_k (fun K9 hK9 => ?_)
    refine awp_plain 1 (by kernel_rfl) rfl (fun g6 hg6 => ?_)
    simp only [go_sem]
    refine hK9 _ ?_
    refine awp_ret ?_
    refine ends_ev rfl ?_
    simp only [go_sem]
    exact Co.of_eq (by rw [hf])
   | true =>
    refine aops_pure hops5 rfl rfl rfl (is_calls (namesTy t)[k] (hsz _ (List.getElem_mem hlt)) _ _) (CoL.refl _) ?_
    refine aops_last 1 hops5 ?_
    simp only [go_sem, hb, Bool.not_true]
    refine hKR5 _ ?_
    refine hK8 _ ?_
    refine awp_f rfl ?_
    refine awp_skip ?_
    refine hK7 _ ?_
    refine awp_plain 3 (by kernel_rfl) rfl (fun g4 hg4 => ?_)
    simp only [go_sem]
    try simp (disch := omega) only [wrapN]
    refine ⟨_, ?_, k + 1, hlt, rfl, by rw [htake, hb], le_of ?_⟩
    ·omega
    simp only [go_sem]
    omega
  ·have : k = (namesTy t).length := by omega
   subst this
   rw [List.take_length] at hall
   refine awp_plain 4 (by kernel_rfl) rfl (fun g3 hg3 => ?_)
   simp only [go_sem, hlt]
   refine hK6 _ ?_
   refine awp_f rfl ?_
   refine awp_exit ?_
   refine hK3 _ ?_
   refine awp_seq_k (fun K10 hK10 => ?_)
   refine awp_plain 1 (by kernel_rfl) rfl (fun g7 hg7 => ?_)
   simp only [go_sem]
   refine hK10 _ ?_
   refine awp_ret ?_
   refine ends_ev rfl ?_
   simp only [go_sem]
   exact Co.of_eq (by unfold rightTy; rw [hall])
end Go.Proofs.T
namespace Go.Proofs.T
open Go Go.Ab Go.RowKit
theorem cnt_sum {α : Type} {f : α → Nat → Nat} {w : α → Nat} (hf : ∀ a n, n ≤ f a n) : ∀ (l : List α) (n : Nat), (∀ a ∈ l, ∀ n, f a n ≤ 2000 → n + w a ≤ f a n) → cnt f l n ≤ 2000 → n + (l.map w).sum ≤ cnt f l n
 | [], n, _, _ => by simp [cnt]
 | a :: r, n, h, hc => by
  have hn : n ≤ 2000 := by
   simp only [cnt] at hc
   split at hc
   ·assumption
   ·exact hc
  simp only [cnt] at hc ⊢
  rw [if_pos hn] at hc ⊢
  have h1 := cnt_ge hf r (f a n)
  have h2 := h a List.mem_cons_self n (by omega)
  have h3 := cnt_sum hf r (f a n) (fun x hx => h x (List.mem_cons_of_mem _ hx)) hc
  simp only [List.map_cons, List.sum_cons]
  omega
def wN (l : List Ty) : Nat := (namesTys l).length
theorem wN_nil : wN [] = 0 := rfl
theorem wN_cons (t : Ty) (l : List Ty) : wN (t :: l) = (namesTy t).length + wN l := by simp [wN, namesTys]
theorem wN_app (a b : List Ty) : wN (a ++ b) = wN a + wN b := by simp [wN, namesTys_app]
theorem wN_flat {α : Type} (f : α → List Ty) : ∀ l : List α, wN (l.flatMap f) = (l.map (fun a => wN (f a))).sum
 | [] => rfl
 | a :: r => by rw [List.flatMap_cons, wN_app, wN_flat f r]; rfl
theorem wN_map {α : Type} (f : α → Ty) : ∀ l : List α, wN (l.map f) = (l.map (fun a => (namesTy (f a)).length)).sum
 | [] => rfl
 | a :: r => by rw [List.map_cons, wN_cons, wN_map f r]; rfl
theorem wN_len : ∀ l : List Ty, l.length ≤ wN l
 | [] => Nat.le_refl _
 | t :: l => by
  have h1 := namesTy_pos t
  have h2 := wN_len l
  rw [wN_cons, List.length_cons]
  omega
theorem wN_mem {t : Ty} : ∀ {l : List Ty}, t ∈ l → (namesTy t).length ≤ wN l
 | [], h => by cases h
 | x :: l, h => by
  rw [wN_cons]
  rcases List.mem_cons.1 h with rfl | h
  ·omega
  ·have := wN_mem h; omega
theorem wN_self (l : List Ty) : (l.map (fun t => (namesTy t).length)).sum = wN l := by
 have := wN_map (fun t : Ty => t) l
 rw [List.map_id'] at this
 exact this.symm
def exTys (e : Ex) : List Ty := (nodesEx e).flatMap (fun x => x.type :: x.targs)
def siTys (s : Sig) : List Ty := s.formals.map (·.bound) ++ s.params.map (·.type) ++ [s.result]
def deTys (d : Dec) : List Ty := d.formals.map (·.bound) ++ d.fields.map (·.type) ++ d.sigs.flatMap siTys ++ siTys d.sig ++ exTys d.body
def prTys (p : Prg) : List Ty := p.decls.flatMap deTys ++ exTys p.main
theorem nodesExs_flat : ∀ l : List Ex, nodesExs l = l.flatMap nodesEx
 | [] => rfl
 | e :: l => by rw [nodesExs, nodesExs_flat l]; rfl
theorem exTys_eq (e : Ex) : exTys e = (e.type :: e.targs) ++ e.kids.flatMap exTys := by
 unfold exTys
 rw [nodesEx_eq, List.flatMap_cons, nodesExs_flat, List.flatMap_assoc]
theorem count_ge' (t : Ty) (n : Nat) : n ≤ count t n := by have := count_ge t n; omega
theorem count_w : ∀ (t : Ty) (n : Nat), count t n ≤ 2000 → n + (namesTy t).length ≤ count t n := by
 refine Ty.ind fun t ih n h => ?_
 rw [count_eq, countL_cnt] at h ⊢
 have := cnt_sum (w := fun t => (namesTy t).length) count_ge' t.args _ (fun a ha n hn => ih a ha n hn) h
 rw [wN_self] at this
 rw [namesTy_eq]
 simp only [List.length_cons]
 unfold wN at this
 omega
theorem counts_w (l : List Ty) (n : Nat) (h : cnt count l n ≤ 2000) : n + wN l ≤ cnt count l n := by
 have := cnt_sum (w := fun t => (namesTy t).length) count_ge' l n (fun a _ n hn => count_w a n hn) h
 rwa [wN_self] at this
theorem countEx_ge' (e : Ex) (n : Nat) : n ≤ countEx e n := by have := countEx_ge e n; omega
theorem countEx_w : ∀ (e : Ex) (n : Nat), countEx e n ≤ 2000 → n + wN (exTys e) ≤ countEx e n := by
 refine Ex.ind fun e ih n h => ?_
 rw [countEx_eq] at h ⊢
 have g := cnt_ge countEx_ge' e.kids (cnt count e.targs (count e.type (n + e.name.size / 50)))
 have g2 := cnt_ge count_ge' e.targs (count e.type (n + e.name.size / 50))
 have h3 := cnt_sum (w := fun x => wN (exTys x)) countEx_ge' e.kids _ (fun a ha n hn => ih a ha n hn) h
 have h2 := counts_w e.targs (count e.type (n + e.name.size / 50)) (by omega)
 have h1 := count_w e.type (n + e.name.size / 50) (by omega)
 rw [exTys_eq, wN_app, wN_cons, wN_flat]
 omega
theorem cntFm_ge' (f : Formal) (n : Nat) : n ≤ cntFm f n := Nat.le_trans (Nat.le_succ n) (cntFm_ge f n)
theorem cntPa_ge' (f : Param) (n : Nat) : n ≤ cntPa f n := Nat.le_trans (Nat.le_succ n) (cntPa_ge f n)
theorem cntSi_ge' (f : Sig) (n : Nat) : n ≤ cntSi f n := Nat.le_trans (Nat.le_succ n) (cntSi_ge f n)
theorem cntS_ge' (f : Str) (n : Nat) : n ≤ cntS f n := Nat.le_trans (Nat.le_succ n) (cntS_ge f n)
theorem cntDe_ge' (f : Dec) (n : Nat) : n ≤ cntDe f n := Nat.le_trans (Nat.le_succ n) (cntDe_ge f n)
theorem cntFms_w (l : List Formal) (n : Nat) (h : cnt cntFm l n ≤ 2000) : n + wN (l.map (·.bound)) ≤ cnt cntFm l n := by
 rw [wN_map]
 exact cnt_sum cntFm_ge' l n (fun a _ n hn => by
  have := count_w a.bound (n + 1 + a.name.size / 50) hn
  unfold cntFm; omega) h
theorem cntPas_w (l : List Param) (n : Nat) (h : cnt cntPa l n ≤ 2000) : n + wN (l.map (·.type)) ≤ cnt cntPa l n := by
 rw [wN_map]
 exact cnt_sum cntPa_ge' l n (fun a _ n hn => by
  have := count_w a.type (n + 1 + a.name.size / 50) hn
  unfold cntPa; omega) h
theorem cntSi_w (s : Sig) (n : Nat) (h : cntSi s n ≤ 2000) : n + wN (siTys s) ≤ cntSi s n := by
 have h1 := cnt_ge cntFm_ge' s.formals (n + s.name.size / 50)
 have h2 := cnt_ge cntPa_ge' s.params (cnt cntFm s.formals (n + s.name.size / 50))
 have h3 := count_ge s.result (cnt cntPa s.params (cnt cntFm s.formals (n + s.name.size / 50)))
 have e0 : cntSi s n = count s.result (cnt cntPa s.params (cnt cntFm s.formals (n + s.name.size / 50))) := rfl
 rw [e0] at h ⊢
 have a1 := cntFms_w s.formals (n + s.name.size / 50) (by omega)
 have a2 := cntPas_w s.params (cnt cntFm s.formals (n + s.name.size / 50)) (by omega)
 have a3 := count_w s.result _ h
 unfold siTys
 rw [wN_app, wN_app, wN_cons, wN_nil]
 omega
theorem cntDe_w (d : Dec) (n : Nat) (h : cntDe d n ≤ 2000) : n + wN (deTys d) ≤ cntDe d n := by
 have g1 := cnt_ge cntFm_ge' d.formals (n + 1 + d.name.size / 50 + d.recv.size / 50)
 have g2 := cnt_ge cntPa_ge' d.fields (cnt cntFm d.formals (n + 1 + d.name.size / 50 + d.recv.size / 50))
 have g3 := cnt_ge cntSi_ge' d.sigs (cntHead d n)
 have g4 := cnt_ge cntS_ge' d.vars (cnt cntSi d.sigs (cntHead d n))
 have g5 := cntSi_ge d.sig (cnt cntS d.vars (cnt cntSi d.sigs (cntHead d n)))
 have g6 := countEx_ge d.body (cntSi d.sig (cnt cntS d.vars (cnt cntSi d.sigs (cntHead d n))))
 have e0 : cntHead d n = cnt cntPa d.fields (cnt cntFm d.formals (n + 1 + d.name.size / 50 + d.recv.size / 50)) := rfl
 unfold cntDe cntTail at h ⊢
 split at h
 ·rename_i hc
  rw [if_pos hc]
  have a1 := cntFms_w d.formals (n + 1 + d.name.size / 50 + d.recv.size / 50) (by omega)
  have a2 := cntPas_w d.fields (cnt cntFm d.formals (n + 1 + d.name.size / 50 + d.recv.size / 50)) (by omega)
  have a3 := cnt_sum (w := fun s => wN (siTys s)) cntSi_ge' d.sigs (cntHead d n) (fun a _ n hn => cntSi_w a n hn) (by omega)
  have a7 := cntSi_w d.sig (cnt cntS d.vars (cnt cntSi d.sigs (cntHead d n))) (by omega)
  have a8 := countEx_w d.body (cntSi d.sig (cnt cntS d.vars (cnt cntSi d.sigs (cntHead d n)))) (by omega)
  unfold deTys
  rw [wN_app, wN_app, wN_app, wN_app, wN_flat]
  omega
 ·omega
theorem cntPr_w (p : Prg) (h : cntPr p ≤ 600) : wN (prTys p) ≤ 600 := by
 unfold cntPr at h
 have g1 := countEx_ge p.main 0
 have g2 := cnt_ge cntDe_ge' p.decls (countEx p.main 0)
 have a1 := cnt_sum (w := fun d => wN (deTys d)) cntDe_ge' p.decls (countEx p.main 0) (fun a _ n hn => cntDe_w a n hn) (by omega)
 have a2 := countEx_w p.main 0 (by omega)
 unfold prTys
 rw [wN_app, wN_flat]
 omega
end Go.Proofs.T
