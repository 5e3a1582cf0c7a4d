/- A part of the proof, under no conditions of its own: A13. -/
import Derived.Test.YtjhencaobpihnaaDoorA12
namespace Go.Proofs.T
open Go Go.Ab Go.RowKit

/-! ## Bounds -/

theorem boundFun_calls (f : Formal) (t : Ty) (g d : Nat) : ACalls E 28 [encFm f, .eptr (tyC t)] [] g d (dB (isS t.name f.name)) [] := by
  refine acalls_of_awp (fn := Tryd.f28) (N := 9) Tryd.call28 Tryd.func28 rfl rfl (by simp) ?_
  simp only [go_sem]
  refine awp_seq_k (fun K1 hK1 => ?_)
  refine awp_plain 2 (by kernel_rfl) rfl (fun g0 hg0 => ?_)
  simp only [go_sem]
  refine hK1 _ ?_
  refine awp_seq_k (fun K2 hK2 => ?_)
  refine awp_plain 6 (by kernel_rfl) rfl (fun g1 hg1 => ?_)
  simp only [go_sem, tyC]
  refine hK2 _ ?_
  refine awp_ret ?_
  refine ends_ev rfl ?_
  simp only [go_sem]
  exact Co.refl _

theorem indexFm_calls (p : Formal → Bool) (l : List Formal) (f : Nat) (caps : List D) (hl : l.length ≤ 9223372036854775807) (hf : ∀ a ∈ l, ∀ g d, ACalls E f (encFm a :: caps) [] g d (dB (p a)) []) (g d : Nat) :
    ACalls E 29 [slFm l, .func (.func f) [] caps] [] g d (dI (optI (l.findIdx? p))) [] := by
  refine acalls_of_awp (fn := Tryd.f29) (N := 19) Tryd.call29 Tryd.func29 rfl rfl (by simp) ?_
  simp only [go_sem]
  refine awp_seq_k (fun K1 hK1 => ?_)
  refine awp_plain 1 (by kernel_rfl) rfl (fun g0 hg0 => ?_)
  simp only [go_sem]
  refine hK1 _ ?_
  refine awp_seq_k (fun K2 hK2 => ?_)
  refine awp_seq_k (fun K3 hK3 => ?_)
  refine awp_plain 3 (by kernel_rfl) rfl (fun g1 hg1 => ?_)
  simp only [go_sem]
  refine hK3 _ ?_
  refine awp_block ?_
  refine awp_loop (fun m s => ∃ k, k ≤ l.length ∧ m = l.length - k ∧ l.findIdx? p = ((l.drop k).findIdx? p).map (· + k) ∧
      Le { env := [(0, slFm l), (1, .func (.func f) [] caps), (6, slFm l), (7, dN l.length), (8, dN k)], σ := [] } s) l.length ?_ ?_
  · refine ⟨0, Nat.zero_le _, rfl, by simp, le_of ?_⟩
    simp only [go_sem]
    trivial
  · rintro m s ⟨k, hk, rfl, hfi, hle⟩
    refine awp_keep hle ?_
    clear hle
    by_cases h : k < l.length
    · rw [findD _ _ _ h] at hfi
      refine awp_seq_k (fun K4 hK4 => ?_)
      refine awp_plain 1 (by kernel_rfl) rfl (fun g2 hg2 => ?_)
      simp only [go_sem, h]
      refine hK4 _ ?_
      refine awp_seq_k (fun K5 hK5 => ?_)
      refine awp_t rfl ?_
      refine awp_skip ?_
      refine hK5 _ ?_
      refine awp_seq_k (fun K6 hK6 => ?_)
      refine awp_block ?_
      refine awp_seq_k (fun K7 hK7 => ?_)
      refine awp_plain 2 (by kernel_rfl) rfl (fun g3 hg3 => ?_)
      simp only [go_sem]
      refine hK7 _ ?_
      refine awp_seq_k (fun K8 hK8 => ?_)
      refine awp_ops (by kernel_rfl) rfl (fun g4 hg4 ops4 KR4 hops4 hKR4 => ?_)
      refine aops_eval 5 hops4 ?_
      simp only [go_sem, getM h]
      refine aops_pure hops4 rfl rfl rfl (hf _ (List.getElem_mem h) _ _) (CoL.refl _) ?_
      refine aops_last 0 hops4 ?_
      simp only [go_sem]
      refine hKR4 _ ?_
      refine hK8 _ ?_
      cases hp : p l[k] with
      | true =>
        rw [if_pos hp] at hfi
        refine awp_t rfl ?_
        refine awp_seq_k (fun K9 hK9 => ?_)
        refine awp_plain 2 (by kernel_rfl) rfl (fun g5 hg5 => ?_)
        simp only [go_sem]
        refine hK9 _ ?_
        refine awp_ret ?_
        rw [hfi]
        refine ends_ev rfl ?_
        simp only [go_sem]
        exact Co.of_eq (by simp [optI])
      | false =>
        rw [if_neg (by simp [hp])] at hfi
        refine awp_f rfl ?_
        refine awp_skip ?_
        refine hK6 _ ?_
        refine awp_plain 2 (by kernel_rfl) rfl (fun g6 hg6 => ?_)
        simp only [go_sem]
        try simp (disch := omega) only [wrapN]
        refine ⟨_, ?_, k + 1, h, rfl, ?_, le_of ?_⟩
        · omega
        · rw [hfi]; simp [Option.map_map, Function.comp_def, Nat.add_comm, Nat.add_left_comm]
        simp only [go_sem]
        omega
    · rw [dropN l k (by omega)] at hfi
      refine awp_seq_k (fun K10 hK10 => ?_)
      refine awp_plain 1 (by kernel_rfl) rfl (fun g2 hg2 => ?_)
      simp only [go_sem, h]
      refine hK10 _ ?_
      refine awp_seq_k (fun K11 hK11 => ?_)
      refine awp_f rfl ?_
      refine awp_exit ?_
      refine hK2 _ ?_
      refine awp_seq_k (fun K12 hK12 => ?_)
      refine awp_plain 1 (by kernel_rfl) rfl (fun g7 hg7 => ?_)
      simp only [go_sem]
      refine hK12 _ ?_
      refine awp_ret ?_
      rw [hfi]
      refine ends_ev rfl ?_
      simp only [go_sem]
      exact Co.of_eq (by simp [optI])

/-- The bound of the first formal of this name. -/
def boundOf (l : List Formal) (t : Ty) : Option Ty := if t.args.length = 0 then (l.findIdx? fun f => isS t.name f.name).bind fun i => l[i]?.map (·.bound) else none

theorem boundOf_some {l : List Formal} {t : Ty} (h0 : t.args.length = 0) {i : Nat} (h : (l.findIdx? fun f => isS t.name f.name) = some i) : ∃ hi : i < l.length, boundOf l t = some l[i].bound := by
  obtain ⟨hi, _⟩ := List.findIdx?_eq_some_iff_getElem.1 h
  exact ⟨hi, by simp [boundOf, h0, h, hi]⟩

theorem bound_calls (l : List Formal) (t : Ty) (hl : l.length ≤ 1000000) (hl2 : ∀ f ∈ l, smFm f) (ht : okTy t) (g d : Nat) :
    ACalls E 15 [slFm l, encTy t] [] g d (.tup [encTy ((boundOf l t).getD zeroTy), dB (boundOf l t).isSome]) [] := by
  have hlen := ((okTy_iff t).1 ht).2.1
  refine acalls_of_awp (fn := Tryd.f15) (N := 27) Tryd.call15 Tryd.func15 rfl rfl (by simp) ?_
  simp only [go_sem]
  refine awp_seq_k (fun K1 hK1 => ?_)
  refine awp_plain 3 (by kernel_rfl) rfl (fun g0 hg0 => ?_)
  simp only [go_sem]
  refine hK1 _ ?_
  refine awp_seq_k (fun K2 hK2 => ?_)
  refine awp_still ⟨g0, 3, 0⟩ ?_
  simp only [go_sem]
  refine awp_plain 2 (by kernel_rfl) rfl (fun g1 hg1 => ?_)
  simp only [go_sem]
  refine hK2 _ ?_
  refine awp_seq_k (fun K3 hK3 => ?_)
  refine awp_ops (by kernel_rfl) rfl (fun g2 hg2 ops2 KR2 hops2 hKR2 => ?_)
  refine aops_eval 2 hops2 ?_
  simp only [go_sem]
  refine aops_pure hops2 rfl rfl rfl (indexFm_calls (fun f => isS t.name f.name) l _ [.eptr (tyC t)] (by omega) (fun a _ g d => boundFun_calls a t g d) _ _) (CoL.refl _) ?_
  refine aops_last 1 hops2 ?_
  simp only [go_sem]
  refine hKR2 _ ?_
  refine hK3 _ ?_
  refine awp_seq_k (fun K4 hK4 => ?_)
  refine awp_seq_k (fun K5 hK5 => ?_)
  by_cases h0 : t.args.length = 0
  · have h5 : ¬ (0 < t.args.length) := by omega
    cases hi : l.findIdx? fun f => isS t.name f.name with
    | none =>
      have hb : boundOf l t = none := by simp [boundOf, hi]
      refine awp_plain 8 (by kernel_rfl) rfl (fun g3 hg3 => ?_)
      simp only [go_sem, h5, optI, Int.natCast_pos]
      refine hK5 _ ?_
      refine awp_t rfl ?_
      refine awp_seq_k (fun K6 hK6 => ?_)
      refine awp_plain 3 (by kernel_rfl) rfl (fun g4 hg4 => ?_)
      simp only [go_sem]
      refine hK6 _ ?_
      refine awp_ret ?_
      rw [hb]
      refine ends_ev rfl ?_
      simp only [go_sem]
      exact Co.tup (.cons coZeroTy (.cons (.refl _) .nil))
    | some i =>
      obtain ⟨hlt, hb⟩ := boundOf_some h0 hi
      have h6 : ¬ ((i : Int) < 0) := by omega
      refine awp_plain 8 (by kernel_rfl) rfl (fun g3 hg3 => ?_)
      simp only [go_sem, h5, optI, h6, Int.natCast_pos]
      refine hK5 _ ?_
      refine awp_f rfl ?_
      refine awp_skip ?_
      refine hK4 _ ?_
      refine awp_seq_k (fun K7 hK7 => ?_)
      refine awp_ops (by kernel_rfl) rfl (fun g5 hg5 ops5 KR5 hops5 hKR5 => ?_)
      refine aops_eval 5 hops5 ?_
      simp only [go_sem, getM hlt]
      refine aops_pure hops5 rfl rfl rfl (clone_calls _ (hl2 _ (List.getElem_mem hlt)).2 _ _) (CoL.refl _) ?_
      refine aops_last 2 hops5 ?_
      simp only [go_sem]
      refine hKR5 _ ?_
      refine hK7 _ ?_
      refine awp_ret ?_
      rw [hb]
      refine ends_ev rfl ?_
      simp only [go_sem]
      exact Co.refl _
  · have h5 : (0 < t.args.length) := by omega
    have hb : boundOf l t = none := by simp [boundOf, h0]
    refine awp_plain 8 (by kernel_rfl) rfl (fun g3 hg3 => ?_)
    simp only [go_sem, h5, Int.natCast_pos]
    refine hK5 _ ?_
    refine awp_t rfl ?_
    refine awp_seq_k (fun K8 hK8 => ?_)
    refine awp_plain 3 (by kernel_rfl) rfl (fun g4 hg4 => ?_)
    simp only [go_sem]
    refine hK8 _ ?_
    refine awp_ret ?_
    rw [hb]
    refine ends_ev rfl ?_
    simp only [go_sem]
    exact Co.tup (.cons coZeroTy (.cons (.refl _) .nil))

end Go.Proofs.T

