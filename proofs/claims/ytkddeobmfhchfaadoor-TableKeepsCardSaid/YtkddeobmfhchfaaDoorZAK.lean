/- A part of the proof, under no conditions of its own: ZAK. -/
import Derived.Test.YtkddeobmfhchfaaDoorZAJ
import Derived.Test.YtkddeobmfhchfaaDoorZAF
import Derived.Scope
import Derived.ProofKit
import Derived.LaidMore
import Derived.OpenShut
import Derived.Carry
import Derived.Lib.LaidTab
import Derived.Stop.Joined
namespace Go.Proofs.T
open Go Go.Ab Go.RowKit

/-! ## Copies -/


theorem copiesFm (l : List Formal) (f : Nat) (hl : l.length ≤ 1000000) (hf : ∀ x ∈ l, ∀ g d, ACalls E f [encFm x] [] g d (encFm x) []) (g d : Nat) : ACalls E 70 [slFm l, .func (.func f) [] []] [] g d (slFm l) [] := by
    refine acalls_of_awp (fn := Tryd.f70) (N := 22) Tryd.call70 Tryd.func70 rfl rfl (by simp) ?_
    simp only [go_sem]
    refine awp_seq_k (fun K1 hK1 => ?_)
    refine awp_plain 1 (by kernel_rfl) rfl (fun g0 hg0 => ?_)
    simp only [go_sem]
    refine hK1 _ ?_
    refine awp_seq_k (fun K2 hK2 => ?_)
    refine awp_plain 1 (by kernel_rfl) rfl (fun g1 hg1 => ?_)
    simp only [go_sem]
    refine hK2 _ ?_
    refine awp_seq_k (fun K3 hK3 => ?_)
    refine awp_seq_k (fun K4 hK4 => ?_)
    refine awp_plain 3 (by kernel_rfl) rfl (fun g2 hg2 => ?_)
    simp only [go_sem]
    refine hK4 _ ?_
    refine awp_block ?_
    refine awp_nil 5 60 5 rfl fun gn hgn => ?_
    refine awp_loop (fun m s => ∃ k a i, k ≤ l.length ∧ m = l.length - k ∧
        Le { env := [(1, .func (.func f) [] []), (8, .sl false (l.map encFm)), (9, dN l.length), (10, dN k), (5, .own ⟨a, i, 0⟩ k)], σ := [(⟨a, i, 0⟩, .arr 60 5 ((l.take k).map encFm))] } s) l.length ?_ ?_
    · refine ⟨0, gn, 0, Nat.zero_le _, rfl, le_of ?_⟩
      simp only [go_sem]
      trivial
    · rintro m s ⟨k, a, i, hk, rfl, hle⟩
      refine awp_keep hle ?_
      clear hle
      by_cases hlt : k < l.length
      · refine awp_seq_k (fun K5 hK5 => ?_)
        refine awp_plain 1 (by kernel_rfl) rfl (fun g3 hg3 => ?_)
        simp only [go_sem, hlt]
        refine hK5 _ ?_
        refine awp_seq_k (fun K6 hK6 => ?_)
        refine awp_t rfl ?_
        refine awp_skip ?_
        refine hK6 _ ?_
        refine awp_seq_k (fun K7 hK7 => ?_)
        refine awp_block ?_
        refine awp_seq_k (fun K8 hK8 => ?_)
        refine awp_plain 4 (by kernel_rfl) rfl (fun g4 hg4 => ?_)
        simp only [go_sem, getM hlt, encFm, encFm]
        refine hK8 _ ?_
        have hn4_a : g4 ≠ a := fresh_g hg4 i 0 (by simp [go_sem])
        refine awp_ops (by kernel_rfl) rfl (fun g5 hg5 ops5 KR5 hops5 hKR5 => ?_)
        refine aops_eval 3 hops5 ?_
        simp only [go_sem, Ne.symm hn4_a]
        refine aops_pure hops5 rfl rfl rfl (hf _ (List.getElem_mem hlt) _ _) (CoL.refl _) ?_
        refine aops_eval 1 hops5 ?_
        simp only [go_sem, encFm, encFm]
        refine aops_app hops5 rfl rfl rfl rfl rfl es46 sz60 by60 ze60 rfl (by decide) ?_
        simp only [go_sem, List.length_take_of_le (Nat.le_of_lt hlt), hn4_a]
        first | refine ⟨⟨by omega, by omega⟩, ?_⟩ | skip
        refine aops_last 1 hops5 ?_
        simp only [go_sem]
        refine hKR5 _ ?_
        refine hK7 _ ?_
        refine awp_plain 2 (by kernel_rfl) rfl (fun g6 hg6 => ?_)
        simp only [go_sem]
        try simp (disch := omega) only [wrapN]
        refine ⟨_, ?_, k + 1, g5, 19, hlt, rfl, le_of ?_⟩
        · omega
        simp only [go_sem, ← takeM _ hlt, encFm, encFm]
        omega
      · refine awp_seq_k (fun K9 hK9 => ?_)
        refine awp_plain 1 (by kernel_rfl) rfl (fun g3 hg3 => ?_)
        simp only [go_sem, hlt]
        refine hK9 _ ?_
        refine awp_seq_k (fun K10 hK10 => ?_)
        refine awp_f rfl ?_
        refine awp_exit ?_
        refine hK3 _ ?_
        refine awp_seq_k (fun K11 hK11 => ?_)
        refine awp_plain 2 (by kernel_rfl) rfl (fun g7 hg7 => ?_)
        simp only [go_sem]
        refine hK11 _ ?_
        refine awp_ret ?_
        have : k = l.length := by omega
        subst this
        refine ret_frz ⟨a, i, 0⟩ ?_
        simp only [go_sem]
        refine ends_ev rfl ?_
        simp only [go_sem]
        exact Co.of_eq (by simp [])
theorem copiesPa (l : List Param) (f : Nat) (hl : l.length ≤ 1000000) (hf : ∀ x ∈ l, ∀ g d, ACalls E f [encPa x] [] g d (encPa x) []) (g d : Nat) : ACalls E 72 [slPa l, .func (.func f) [] []] [] g d (slPa l) [] := by
    refine acalls_of_awp (fn := Tryd.f72) (N := 22) Tryd.call72 Tryd.func72 rfl rfl (by simp) ?_
    simp only [go_sem]
    refine awp_seq_k (fun K1 hK1 => ?_)
    refine awp_plain 1 (by kernel_rfl) rfl (fun g0 hg0 => ?_)
    simp only [go_sem]
    refine hK1 _ ?_
    refine awp_seq_k (fun K2 hK2 => ?_)
    refine awp_plain 1 (by kernel_rfl) rfl (fun g1 hg1 => ?_)
    simp only [go_sem]
    refine hK2 _ ?_
    refine awp_seq_k (fun K3 hK3 => ?_)
    refine awp_seq_k (fun K4 hK4 => ?_)
    refine awp_plain 3 (by kernel_rfl) rfl (fun g2 hg2 => ?_)
    simp only [go_sem]
    refine hK4 _ ?_
    refine awp_block ?_
    refine awp_nil 5 62 5 rfl fun gn hgn => ?_
    refine awp_loop (fun m s => ∃ k a i, k ≤ l.length ∧ m = l.length - k ∧
        Le { env := [(1, .func (.func f) [] []), (8, .sl false (l.map encPa)), (9, dN l.length), (10, dN k), (5, .own ⟨a, i, 0⟩ k)], σ := [(⟨a, i, 0⟩, .arr 62 5 ((l.take k).map encPa))] } s) l.length ?_ ?_
    · refine ⟨0, gn, 0, Nat.zero_le _, rfl, le_of ?_⟩
      simp only [go_sem]
      trivial
    · rintro m s ⟨k, a, i, hk, rfl, hle⟩
      refine awp_keep hle ?_
      clear hle
      by_cases hlt : k < l.length
      · refine awp_seq_k (fun K5 hK5 => ?_)
        refine awp_plain 1 (by kernel_rfl) rfl (fun g3 hg3 => ?_)
        simp only [go_sem, hlt]
        refine hK5 _ ?_
        refine awp_seq_k (fun K6 hK6 => ?_)
        refine awp_t rfl ?_
        refine awp_skip ?_
        refine hK6 _ ?_
        refine awp_seq_k (fun K7 hK7 => ?_)
        refine awp_block ?_
        refine awp_seq_k (fun K8 hK8 => ?_)
        refine awp_plain 4 (by kernel_rfl) rfl (fun g4 hg4 => ?_)
        simp only [go_sem, getM hlt, encPa, encPa]
        refine hK8 _ ?_
        have hn4_a : g4 ≠ a := fresh_g hg4 i 0 (by simp [go_sem])
        refine awp_ops (by kernel_rfl) rfl (fun g5 hg5 ops5 KR5 hops5 hKR5 => ?_)
        refine aops_eval 3 hops5 ?_
        simp only [go_sem, Ne.symm hn4_a]
        refine aops_pure hops5 rfl rfl rfl (hf _ (List.getElem_mem hlt) _ _) (CoL.refl _) ?_
        refine aops_eval 1 hops5 ?_
        simp only [go_sem, encPa, encPa]
        refine aops_app hops5 rfl rfl rfl rfl rfl es36 sz62 by62 ze62 rfl (by decide) ?_
        simp only [go_sem, List.length_take_of_le (Nat.le_of_lt hlt), hn4_a]
        first | refine ⟨⟨by omega, by omega⟩, ?_⟩ | skip
        refine aops_last 1 hops5 ?_
        simp only [go_sem]
        refine hKR5 _ ?_
        refine hK7 _ ?_
        refine awp_plain 2 (by kernel_rfl) rfl (fun g6 hg6 => ?_)
        simp only [go_sem]
        try simp (disch := omega) only [wrapN]
        refine ⟨_, ?_, k + 1, g5, 19, hlt, rfl, le_of ?_⟩
        · omega
        simp only [go_sem, ← takeM _ hlt, encPa, encPa]
        omega
      · refine awp_seq_k (fun K9 hK9 => ?_)
        refine awp_plain 1 (by kernel_rfl) rfl (fun g3 hg3 => ?_)
        simp only [go_sem, hlt]
        refine hK9 _ ?_
        refine awp_seq_k (fun K10 hK10 => ?_)
        refine awp_f rfl ?_
        refine awp_exit ?_
        refine hK3 _ ?_
        refine awp_seq_k (fun K11 hK11 => ?_)
        refine awp_plain 2 (by kernel_rfl) rfl (fun g7 hg7 => ?_)
        simp only [go_sem]
        refine hK11 _ ?_
        refine awp_ret ?_
        have : k = l.length := by omega
        subst this
        refine ret_frz ⟨a, i, 0⟩ ?_
        simp only [go_sem]
        refine ends_ev rfl ?_
        simp only [go_sem]
        exact Co.of_eq (by simp [])
theorem copiesSi (l : List Sig) (f : Nat) (hl : l.length ≤ 1000000) (hf : ∀ x ∈ l, ∀ g d, ACalls E f [encSi x] [] g d (encSi x) []) (g d : Nat) : ACalls E 74 [slSi l, .func (.func f) [] []] [] g d (slSi l) [] := by
    refine acalls_of_awp (fn := Tryd.f74) (N := 22) Tryd.call74 Tryd.func74 rfl rfl (by simp) ?_
    simp only [go_sem]
    refine awp_seq_k (fun K1 hK1 => ?_)
    refine awp_plain 1 (by kernel_rfl) rfl (fun g0 hg0 => ?_)
    simp only [go_sem]
    refine hK1 _ ?_
    refine awp_seq_k (fun K2 hK2 => ?_)
    refine awp_plain 1 (by kernel_rfl) rfl (fun g1 hg1 => ?_)
    simp only [go_sem]
    refine hK2 _ ?_
    refine awp_seq_k (fun K3 hK3 => ?_)
    refine awp_seq_k (fun K4 hK4 => ?_)
    refine awp_plain 3 (by kernel_rfl) rfl (fun g2 hg2 => ?_)
    simp only [go_sem]
    refine hK4 _ ?_
    refine awp_block ?_
    refine awp_nil 5 50 7 rfl fun gn hgn => ?_
    refine awp_loop (fun m s => ∃ k a i, k ≤ l.length ∧ m = l.length - k ∧
        Le { env := [(1, .func (.func f) [] []), (8, .sl false (l.map encSi)), (9, dN l.length), (10, dN k), (5, .own ⟨a, i, 0⟩ k)], σ := [(⟨a, i, 0⟩, .arr 50 7 ((l.take k).map encSi))] } s) l.length ?_ ?_
    · refine ⟨0, gn, 0, Nat.zero_le _, rfl, le_of ?_⟩
      simp only [go_sem]
      trivial
    · rintro m s ⟨k, a, i, hk, rfl, hle⟩
      refine awp_keep hle ?_
      clear hle
      by_cases hlt : k < l.length
      · refine awp_seq_k (fun K5 hK5 => ?_)
        refine awp_plain 1 (by kernel_rfl) rfl (fun g3 hg3 => ?_)
        simp only [go_sem, hlt]
        refine hK5 _ ?_
        refine awp_seq_k (fun K6 hK6 => ?_)
        refine awp_t rfl ?_
        refine awp_skip ?_
        refine hK6 _ ?_
        refine awp_seq_k (fun K7 hK7 => ?_)
        refine awp_block ?_
        refine awp_seq_k (fun K8 hK8 => ?_)
        refine awp_plain 4 (by kernel_rfl) rfl (fun g4 hg4 => ?_)
        simp only [go_sem, getM hlt, encSi, encSi]
        refine hK8 _ ?_
        have hn4_a : g4 ≠ a := fresh_g hg4 i 0 (by simp [go_sem])
        refine awp_ops (by kernel_rfl) rfl (fun g5 hg5 ops5 KR5 hops5 hKR5 => ?_)
        refine aops_eval 3 hops5 ?_
        simp only [go_sem, Ne.symm hn4_a]
        refine aops_pure hops5 rfl rfl rfl (hf _ (List.getElem_mem hlt) _ _) (CoL.refl _) ?_
        refine aops_eval 1 hops5 ?_
        simp only [go_sem, encSi, encSi]
        refine aops_app hops5 rfl rfl rfl rfl rfl es39 sz50 by50 ze50 rfl (by decide) ?_
        simp only [go_sem, List.length_take_of_le (Nat.le_of_lt hlt), hn4_a]
        first | refine ⟨⟨by omega, by omega⟩, ?_⟩ | skip
        refine aops_last 1 hops5 ?_
        simp only [go_sem]
        refine hKR5 _ ?_
        refine hK7 _ ?_
        refine awp_plain 2 (by kernel_rfl) rfl (fun g6 hg6 => ?_)
        simp only [go_sem]
        try simp (disch := omega) only [wrapN]
        refine ⟨_, ?_, k + 1, g5, 19, hlt, rfl, le_of ?_⟩
        · omega
        simp only [go_sem, ← takeM _ hlt, encSi, encSi]
        omega
      · refine awp_seq_k (fun K9 hK9 => ?_)
        refine awp_plain 1 (by kernel_rfl) rfl (fun g3 hg3 => ?_)
        simp only [go_sem, hlt]
        refine hK9 _ ?_
        refine awp_seq_k (fun K10 hK10 => ?_)
        refine awp_f rfl ?_
        refine awp_exit ?_
        refine hK3 _ ?_
        refine awp_seq_k (fun K11 hK11 => ?_)
        refine awp_plain 2 (by kernel_rfl) rfl (fun g7 hg7 => ?_)
        simp only [go_sem]
        refine hK11 _ ?_
        refine awp_ret ?_
        have : k = l.length := by omega
        subst this
        refine ret_frz ⟨a, i, 0⟩ ?_
        simp only [go_sem]
        refine ends_ev rfl ?_
        simp only [go_sem]
        exact Co.of_eq (by simp [])
theorem copiesDe (l : List Dec) (f : Nat) (hl : l.length ≤ 1000000) (hf : ∀ x ∈ l, ∀ g d, ACalls E f [encDe x] [] g d (encDe x) []) (g d : Nat) : ACalls E 56 [slDe l, .func (.func f) [] []] [] g d (slDe l) [] := by
    refine acalls_of_awp (fn := Tryd.f56) (N := 22) Tryd.call56 Tryd.func56 rfl rfl (by simp) ?_
    simp only [go_sem]
    refine awp_seq_k (fun K1 hK1 => ?_)
    refine awp_plain 1 (by kernel_rfl) rfl (fun g0 hg0 => ?_)
    simp only [go_sem]
    refine hK1 _ ?_
    refine awp_seq_k (fun K2 hK2 => ?_)
    refine awp_plain 1 (by kernel_rfl) rfl (fun g1 hg1 => ?_)
    simp only [go_sem]
    refine hK2 _ ?_
    refine awp_seq_k (fun K3 hK3 => ?_)
    refine awp_seq_k (fun K4 hK4 => ?_)
    refine awp_plain 3 (by kernel_rfl) rfl (fun g2 hg2 => ?_)
    simp only [go_sem]
    refine hK4 _ ?_
    refine awp_block ?_
    refine awp_nil 5 52 23 rfl fun gn hgn => ?_
    refine awp_loop (fun m s => ∃ k a i, k ≤ l.length ∧ m = l.length - k ∧
        Le { env := [(1, .func (.func f) [] []), (8, .sl false (l.map encDe)), (9, dN l.length), (10, dN k), (5, .own ⟨a, i, 0⟩ k)], σ := [(⟨a, i, 0⟩, .arr 52 23 ((l.take k).map encDe))] } s) l.length ?_ ?_
    · refine ⟨0, gn, 0, Nat.zero_le _, rfl, le_of ?_⟩
      simp only [go_sem]
      trivial
    · rintro m s ⟨k, a, i, hk, rfl, hle⟩
      refine awp_keep hle ?_
      clear hle
      by_cases hlt : k < l.length
      · refine awp_seq_k (fun K5 hK5 => ?_)
        refine awp_plain 1 (by kernel_rfl) rfl (fun g3 hg3 => ?_)
        simp only [go_sem, List.nil_append, List.nil_append, hlt]
        refine hK5 _ ?_
        refine awp_seq_k (fun K6 hK6 => ?_)
        refine awp_t rfl ?_
        refine awp_skip ?_
        refine hK6 _ ?_
        refine awp_seq_k (fun K7 hK7 => ?_)
        refine awp_block ?_
        refine awp_seq_k (fun K8 hK8 => ?_)
        refine awp_plain 4 (by kernel_rfl) rfl (fun g4 hg4 => ?_)
        simp only [go_sem, getM hlt, encDe, deC, siC, exC, List.cons_append, List.nil_append, encDe, deC, siC, exC, List.cons_append, List.nil_append]
        refine hK8 _ ?_
        have hn4_a : g4 ≠ a := fresh_g hg4 i 0 (by simp [go_sem])
        refine awp_ops (by kernel_rfl) rfl (fun g5 hg5 ops5 KR5 hops5 hKR5 => ?_)
        refine aops_eval 3 hops5 ?_
        simp only [go_sem, List.nil_append, List.nil_append, Ne.symm hn4_a]
        refine aops_pure hops5 rfl rfl rfl (hf _ (List.getElem_mem hlt) _ _) (CoL.refl _) ?_
        refine aops_eval 1 hops5 ?_
        simp only [go_sem, encDe, deC, siC, exC, List.cons_append, List.nil_append, encDe, deC, siC, exC, List.cons_append, List.nil_append]
        refine aops_app hops5 rfl rfl rfl rfl rfl es22 sz52 by52 ze52 rfl (by decide) ?_
        simp only [go_sem, List.length_take_of_le (Nat.le_of_lt hlt), hn4_a]
        first | refine ⟨⟨by omega, by omega⟩, ?_⟩ | skip
        refine aops_last 1 hops5 ?_
        simp only [go_sem, List.nil_append, List.nil_append]
        refine hKR5 _ ?_
        refine hK7 _ ?_
        refine awp_plain 2 (by kernel_rfl) rfl (fun g6 hg6 => ?_)
        simp only [go_sem, List.nil_append, List.nil_append]
        try simp (disch := omega) only [wrapN]
        refine ⟨_, ?_, k + 1, g5, 19, hlt, rfl, le_of ?_⟩
        · omega
        simp only [go_sem, ← takeM _ hlt, encDe, deC, siC, exC, List.cons_append, List.nil_append, encDe, deC, siC, exC, List.cons_append, List.nil_append]
        omega
      · refine awp_seq_k (fun K9 hK9 => ?_)
        refine awp_plain 1 (by kernel_rfl) rfl (fun g3 hg3 => ?_)
        simp only [go_sem, hlt, List.nil_append]
        refine hK9 _ ?_
        refine awp_seq_k (fun K10 hK10 => ?_)
        refine awp_f rfl ?_
        refine awp_exit ?_
        refine hK3 _ ?_
        refine awp_seq_k (fun K11 hK11 => ?_)
        refine awp_plain 2 (by kernel_rfl) rfl (fun g7 hg7 => ?_)
        simp only [go_sem, List.nil_append]
        refine hK11 _ ?_
        refine awp_ret ?_
        have : k = l.length := by omega
        subst this
        refine ret_frz ⟨a, i, 0⟩ ?_
        simp only [go_sem]
        refine ends_ev rfl ?_
        simp only [go_sem]
        exact Co.of_eq (by simp [])

theorem cloneFm (f : Formal) (h : smFm f) (g d : Nat) : ACalls E 71 [encFm f] [] g d (encFm f) [] := by
  refine acalls_of_awp (fn := Tryd.f71) (N := 8) Tryd.call71 Tryd.func71 rfl rfl (by simp) ?_
  simp only [go_sem]
  refine awp_seq_k (fun K1 hK1 => ?_)
  refine awp_plain 2 (by kernel_rfl) rfl (fun g0 hg0 => ?_)
  simp only [go_sem]
  refine hK1 _ ?_
  refine awp_seq_k (fun K2 hK2 => ?_)
  refine awp_ops (by kernel_rfl) rfl (fun g1 hg1 ops1 KR1 hops1 hKR1 => ?_)
  refine aops_eval 2 hops1 ?_
  simp only [go_sem]
  refine aops_pure hops1 rfl rfl rfl (clone_calls _ h.2 _ _) (CoL.refl _) ?_
  refine aops_last 2 hops1 ?_
  simp only [go_sem]
  refine hKR1 _ ?_
  refine hK2 _ ?_
  refine awp_seq_k (fun K3 hK3 => ?_)
  refine awp_plain 2 (by kernel_rfl) rfl (fun g2 hg2 => ?_)
  simp only [go_sem]
  refine hK3 _ ?_
  refine awp_ret ?_
  refine ends_ev rfl ?_
  simp only [go_sem]
  exact Co.refl _
theorem clonePa (f : Param) (h : smPa f) (g d : Nat) : ACalls E 73 [encPa f] [] g d (encPa f) [] := by
  refine acalls_of_awp (fn := Tryd.f73) (N := 8) Tryd.call73 Tryd.func73 rfl rfl (by simp) ?_
  simp only [go_sem]
  refine awp_seq_k (fun K1 hK1 => ?_)
  refine awp_plain 2 (by kernel_rfl) rfl (fun g0 hg0 => ?_)
  simp only [go_sem]
  refine hK1 _ ?_
  refine awp_seq_k (fun K2 hK2 => ?_)
  refine awp_ops (by kernel_rfl) rfl (fun g1 hg1 ops1 KR1 hops1 hKR1 => ?_)
  refine aops_eval 2 hops1 ?_
  simp only [go_sem]
  refine aops_pure hops1 rfl rfl rfl (clone_calls _ h.2 _ _) (CoL.refl _) ?_
  refine aops_last 2 hops1 ?_
  simp only [go_sem]
  refine hKR1 _ ?_
  refine hK2 _ ?_
  refine awp_seq_k (fun K3 hK3 => ?_)
  refine awp_plain 2 (by kernel_rfl) rfl (fun g2 hg2 => ?_)
  simp only [go_sem]
  refine hK3 _ ?_
  refine awp_ret ?_
  refine ends_ev rfl ?_
  simp only [go_sem]
  exact Co.refl _

theorem okRowsS : ∀ l : List Str, okRows 1 (l.map encS) := fun l => okRows_map 1 encS l fun _ => ⟨rfl, rfl⟩
theorem cloneStrs (l : List Str) (hl : l.length ≤ 1000000) (g d : Nat) : ACalls E 76 [slS l] [] g d (slS l) [] := by
  cases l with
  | nil =>
    refine acalls_of_awp (fn := Tryd.f76) (N := 8) Tryd.call76 Tryd.func76 rfl rfl (by simp) ?_
    simp only [go_sem]
    refine awp_seq_k (fun K1 hK1 => ?_)
    refine awp_plain 1 (by kernel_rfl) rfl (fun g0 hg0 => ?_)
    simp only [go_sem]
    refine hK1 _ ?_
    refine awp_seq_k (fun K2 hK2 => ?_)
    refine awp_seq_k (fun K3 hK3 => ?_)
    refine awp_plain 2 (by kernel_rfl) rfl (fun g1 hg1 => ?_)
    simp only [go_sem]
    refine hK3 _ ?_
    refine awp_unk rfl ?_ ?_
    · refine awp_seq_k (fun K4 hK4 => ?_)
      refine awp_plain 1 (by kernel_rfl) rfl (fun g2 hg2 => ?_)
      simp only [go_sem]
      refine hK4 _ ?_
      refine awp_ret ?_
      refine ends_ev rfl ?_
      simp only [go_sem]
      exact .nil _
    · refine awp_skip ?_
      refine hK2 _ ?_
      refine awp_seq_k (fun K5 hK5 => ?_)
      refine awp_ops (by kernel_rfl) rfl (fun g3 hg3 ops3 KR3 hops3 hKR3 => ?_)
      refine aops_eval 2 hops3 ?_
      simp only [go_sem]
      refine aops_app hops3 rfl rfl rfl rfl rfl es48 sz9 by9 ze9 rfl (by decide) ?_
      simp only [go_sem, List.length_nil]
      first | refine ⟨⟨by omega, by omega⟩, ?_⟩ | skip
      refine aops_last 1 hops3 ?_
      simp only [go_sem]
      refine hKR3 _ ?_
      refine hK5 _ ?_
      refine awp_ret ?_
      refine ret_frz ⟨g3, 7, 0⟩ ?_
      simp only [go_sem]
      refine ends_ev rfl ?_
      simp only [go_sem]
      exact Co.refl _
  | cons a l =>
    have ok := okRowsS (a :: l)
    simp only [List.map_cons, encS] at ok
    simp only [List.length_cons] at hl
    refine acalls_of_awp (fn := Tryd.f76) (N := 8) Tryd.call76 Tryd.func76 rfl rfl (by simp) ?_
    simp only [go_sem]
    refine awp_seq_k (fun K1 hK1 => ?_)
    refine awp_plain 1 (by kernel_rfl) rfl (fun g0 hg0 => ?_)
    simp only [go_sem]
    refine hK1 _ ?_
    refine awp_seq_k (fun K2 hK2 => ?_)
    refine awp_seq_k (fun K3 hK3 => ?_)
    refine awp_plain 2 (by kernel_rfl) rfl (fun g1 hg1 => ?_)
    simp only [go_sem]
    refine hK3 _ ?_
    refine awp_f rfl ?_
    refine awp_skip ?_
    refine hK2 _ ?_
    refine awp_seq_k (fun K4 hK4 => ?_)
    refine awp_ops (by kernel_rfl) rfl (fun g3 hg3 ops3 KR3 hops3 hKR3 => ?_)
    refine aops_eval 2 hops3 ?_
    simp only [go_sem]
    refine aops_app hops3 rfl rfl rfl rfl rfl es48 sz9 by9 ze9 rfl (by decide) ?_
    simp only [go_sem, List.length_map, ok, List.length_cons, List.length_nil, Nat.zero_add, List.nil_append]
    first | refine ⟨⟨by omega, by omega⟩, ?_⟩ | skip
    refine aops_last 1 hops3 ?_
    simp only [go_sem, List.nil_append]
    refine hKR3 _ ?_
    refine hK4 _ ?_
    refine awp_ret ?_
    refine ret_frz ⟨g3, 7, 0⟩ ?_
    simp only [go_sem]
    refine ends_ev rfl ?_
    simp only [go_sem]
    exact Co.refl _

/-! Small expressions, declarations, programs. -/
mutual
def smEx : Ex → Prop
  | .mk _ n t a c _ => n.size ≤ 1000000 ∧ smTy t ∧ (a.length ≤ 1000000 ∧ ∀ x ∈ a, smTy x) ∧ c.length ≤ 1000000 ∧ smExs c
def smExs : List Ex → Prop
  | [] => True
  | t :: r => smEx t ∧ smExs r
end
theorem smExs_iff : ∀ l, smExs l ↔ ∀ t ∈ l, smEx t
  | [] => by simp [smExs]
  | t :: r => by simp [smExs, smExs_iff r]
theorem smEx_iff (e : Ex) : smEx e ↔ e.name.size ≤ 1000000 ∧ smTy e.type ∧ (e.targs.length ≤ 1000000 ∧ ∀ x ∈ e.targs, smTy x) ∧ e.kids.length ≤ 1000000 ∧ ∀ x ∈ e.kids, smEx x := by
  cases e
  simp [smEx, smExs_iff]
def smDe (d : Dec) : Prop := d.name.size ≤ 1000000 ∧ (d.formals.length ≤ 2000 ∧ ∀ f ∈ d.formals, smFm f) ∧ (d.fields.length ≤ 1000000 ∧ ∀ f ∈ d.fields, smPa f) ∧ (d.sigs.length ≤ 1000000 ∧ ∀ f ∈ d.sigs, smSi f) ∧ d.recv.size ≤ 1000000 ∧
  (d.vars.length ≤ 1000000 ∧ ∀ f ∈ d.vars, f.size ≤ 1000000) ∧ smSi d.sig ∧ smEx d.body
def smPr (p : Prg) : Prop := (p.decls.length ≤ 2000 ∧ ∀ f ∈ p.decls, smDe f) ∧ smEx p.main

theorem cloneSi (s : Sig) (h : smSi s) (g d : Nat) : ACalls E 75 [encSi s] [] g d (encSi s) [] := by
  refine acalls_of_awp (fn := Tryd.f75) (N := 16) Tryd.call75 Tryd.func75 rfl rfl (by simp) ?_
  simp only [go_sem]
  refine awp_seq_k (fun K1 hK1 => ?_)
  refine awp_plain 2 (by kernel_rfl) rfl (fun g0 hg0 => ?_)
  simp only [go_sem]
  refine hK1 _ ?_
  refine awp_seq_k (fun K2 hK2 => ?_)
  refine awp_any 10 (by kernel_rfl) (by kernel_rfl) rfl (fun g1 hg1 ops1 KR1 hops1 hKR1 => ?_)
  refine qrun_eval 2 hops1 ?_
  simp only [go_sem]
  refine qrun_pure hops1 rfl rfl rfl (copiesFm _ _ h.2.1.1 (fun x hx g d => cloneFm x (h.2.1.2 x hx) g d) _ _) (CoL.refl _) rfl ?_
  refine qrun_eval 2 hops1 ?_
  simp only [go_sem]
  refine qrun_pure hops1 rfl rfl rfl (copiesPa _ _ h.2.2.1.1 (fun x hx g d => clonePa x (h.2.2.1.2 x hx) g d) _ _) (CoL.refl _) rfl ?_
  refine qrun_eval 2 hops1 ?_
  simp only [go_sem]
  refine qrun_pure hops1 rfl rfl rfl (clone_calls _ h.2.2.2 _ _) (CoL.refl _) rfl ?_
  refine qrun_last 1 hops1 ?_
  simp only [go_sem]
  refine aops_last 5 hops1 ?_
  simp only [go_sem]
  refine hKR1 _ ?_
  refine hK2 _ ?_
  refine awp_seq_k (fun K3 hK3 => ?_)
  refine awp_plain 2 (by kernel_rfl) rfl (fun g2 hg2 => ?_)
  simp only [go_sem]
  refine hK3 _ ?_
  refine awp_ret ?_
  refine ends_ev rfl ?_
  simp only [go_sem]
  exact Co.refl _

theorem exSubstFun (e : Ex) (h : smEx e) (g d : Nat) : ACalls E 83 [encEx e, .eptr [slS []], .eptr [slTy []]] [] g d (encEx e) [] := by
  have hm := (smEx_iff e).1 h
  refine acalls_of_awp (fn := Tryd.f83) (N := 18) Tryd.call83 Tryd.func83 rfl rfl (by simp) ?_
  simp only [go_sem]
  refine awp_seq_k (fun K1 hK1 => ?_)
  refine awp_plain 2 (by kernel_rfl) rfl (fun g0 hg0 => ?_)
  simp only [go_sem]
  refine hK1 _ ?_
  refine awp_seq_k (fun K2 hK2 => ?_)
  refine awp_any 11 (by kernel_rfl) (by kernel_rfl) rfl (fun g1 hg1 ops1 KR1 hops1 hKR1 => ?_)
  refine qrun_eval 4 hops1 ?_
  simp only [go_sem]
  refine qrun_pure hops1 rfl rfl rfl (subst_nil e.type hm.2.1 _ _) (CoL.refl _) rfl ?_
  refine qrun_eval 4 hops1 ?_
  simp only [go_sem]
  refine qrun_pure hops1 rfl rfl rfl (all_calls (fun t => t) [] [] e.targs hm.2.2.1.1 (fun t ht g d => subst_nil t (hm.2.2.1.2 t ht) g d) _ _) (CoL.refl _) rfl ?_
  refine qrun_last 1 hops1 ?_
  simp only [go_sem, List.map_id']
  refine aops_last 3 hops1 ?_
  simp only [go_sem]
  refine hKR1 _ ?_
  refine hK2 _ ?_
  refine awp_seq_k (fun K3 hK3 => ?_)
  refine awp_plain 2 (by kernel_rfl) rfl (fun g2 hg2 => ?_)
  simp only [go_sem]
  refine hK3 _ ?_
  refine awp_ret ?_
  trace_state
  refine ends_ev rfl ?_
  simp only [go_sem]
  exact Co.of_eq (by simp [encEx_agg, exC])

end Go.Proofs.T


namespace Go.Proofs.T
open Go Go.Ab Go.RowKit

theorem exMapped (f : Nat) (caps : List D) (hcap : ∀ n rows, caps.map (frzD n rows) = caps) (hf : ∀ e, smEx e → ∀ g d, ACalls E f (encEx e :: caps) [] g d (encEx e) []) : ∀ e, smEx e → ∀ g d, ACalls E 82 [encEx e, .func (.func f) [] caps] [] g d (encEx e) [] := by
  refine Ex.ind fun e ih => ?_
  intro he g d
  obtain ⟨h1, h2, h3, h4, h5⟩ := (smEx_iff e).1 he
  refine acalls_of_awp (fn := Tryd.f82) (N := 27) Tryd.call82 Tryd.func82 rfl rfl (by simp) ?_
  simp only [go_sem]
  refine awp_seq_k (fun K1 hK1 => ?_)
  refine awp_plain 2 (by kernel_rfl) rfl (fun g0 hg0 => ?_)
  simp only [go_sem]
  refine hK1 _ ?_
  refine awp_seq_k (fun K2 hK2 => ?_)
  refine awp_plain 1 (by kernel_rfl) rfl (fun g1 hg1 => ?_)
  simp only [go_sem]
  refine hK2 _ ?_
  refine awp_seq_k (fun K3 hK3 => ?_)
  refine awp_seq_k (fun K4 hK4 => ?_)
  refine awp_nil 5 28 8 rfl fun gn hgn => ?_
  have hn0 : gn ≠ g0 := fresh_g hgn 2 0 (by simp [go_sem])
  refine awp_plain 4 (by kernel_rfl) rfl (fun g2 hg2 => ?_)
  simp only [go_sem, hn0]
  refine hK4 _ ?_
  refine awp_block ?_
  refine awp_loop (fun m s => ∃ k a i, k ≤ e.kids.length ∧ m = e.kids.length - k ∧ a ≠ g0 ∧
      Le { env := [(1, .func (.func f) [] caps), (2, .ptr ⟨g0, 2, 0⟩ 0), (4, .ptr ⟨g0, 4, 0⟩ 0), (9, slEx e.kids), (10, dN e.kids.length), (11, dN k), (5, .own ⟨a, i, 0⟩ k)],
           σ := [(⟨g0, 2, 0⟩, .box 28 (exC e)), (⟨g0, 4, 0⟩, .box 28 [dI 0, .val (.string ByteArray.empty), .val (.string ByteArray.empty), .val (.slice none 0 0), dI 0, .val (.slice none 0 0), .val (.slice none 0 0), dI 0]), (⟨a, i, 0⟩, .arr 28 8 ((e.kids.take k).map encEx))] } s) e.kids.length ?_ ?_
  · refine ⟨0, gn, 0, Nat.zero_le _, rfl, hn0, le_of ?_⟩
    simp only [go_sem, exC, slEx, hn0, Ne.symm hn0, exC]
    trivial
  · rintro m s ⟨k, a, i, hk, rfl, ha0, hle⟩
    refine awp_keep hle ?_
    clear hle
    by_cases hlt : k < e.kids.length
    · refine awp_seq_k (fun K5 hK5 => ?_)
      refine awp_plain 1 (by kernel_rfl) rfl (fun g3 hg3 => ?_)
      simp only [go_sem, exC, exC, slEx, hlt]
      refine hK5 _ ?_
      refine awp_seq_k (fun K6 hK6 => ?_)
      refine awp_t rfl ?_
      refine awp_skip ?_
      refine hK6 _ ?_
      refine awp_seq_k (fun K7 hK7 => ?_)
      refine awp_block ?_
      refine awp_seq_k (fun K8 hK8 => ?_)
      refine awp_plain 4 (by kernel_rfl) rfl (fun g4 hg4 => ?_)
      simp only [go_sem, getM hlt]
      refine hK8 _ ?_
      have hn4_a : g4 ≠ a := fresh_g hg4 i 0 (by simp [go_sem, Ne.symm ha0])
      have hn4_g0 : g4 ≠ g0 := fresh_g hg4 2 0 (by simp [go_sem])
      refine awp_ops (by kernel_rfl) rfl (fun g5 hg5 ops5 KR5 hops5 hKR5 => ?_)
      refine aops_eval 3 hops5 ?_
      simp only [go_sem, Ne.symm hn4_a, Ne.symm hn4_g0]
      refine aops_pure hops5 rfl rfl rfl (ih _ (List.getElem_mem hlt) (h5 _ (List.getElem_mem hlt)) _ _) (CoL.refl _) ?_
      refine aops_eval 1 hops5 ?_
      simp only [go_sem]
      refine aops_app hops5 rfl rfl rfl rfl rfl es26 sz28 by28 ze28 rfl (by decide) ?_
      simp only [go_sem, List.length_take_of_le (Nat.le_of_lt hlt), Ne.symm ha0, hn4_a]
      first | refine ⟨⟨by omega, by omega⟩, ?_⟩ | skip
      refine aops_last 1 hops5 ?_
      simp only [go_sem]
      refine hKR5 _ ?_
      refine hK7 _ ?_
      have hn5_g0 : g5 ≠ g0 := fresh_g hg5 2 0 (by simp [go_sem, hn4_g0])
      refine awp_plain 2 (by kernel_rfl) rfl (fun g6 hg6 => ?_)
      simp only [go_sem, exC, exC, slEx]
      try simp (disch := omega) only [wrapN]
      refine ⟨_, ?_, k + 1, g5, 20, hlt, rfl, hn5_g0, le_of ?_⟩
      · omega
      simp only [go_sem, ← takeM _ hlt, hn4_g0, hn5_g0, Ne.symm hn5_g0]
      omega
    · refine awp_seq_k (fun K9 hK9 => ?_)
      refine awp_plain 1 (by kernel_rfl) rfl (fun g3 hg3 => ?_)
      simp only [go_sem, hlt, exC, exC, slEx]
      refine hK9 _ ?_
      refine awp_seq_k (fun K10 hK10 => ?_)
      refine awp_f rfl ?_
      refine awp_exit ?_
      refine hK3 _ ?_
      refine awp_seq_k (fun K11 hK11 => ?_)
      have : k = e.kids.length := by omega
      subst this
      refine awp_frz ⟨a, i, 0⟩ ?_
      simp only [go_sem, Ne.symm ha0]
      refine awp_plain 3 (by kernel_rfl) rfl (fun g7 hg7 => ?_)
      simp only [go_sem, hcap]
      refine hK11 _ ?_
      refine awp_seq_k (fun K12 hK12 => ?_)
      refine awp_ops (by kernel_rfl) rfl (fun g8 hg8 ops8 KR8 hops8 hKR8 => ?_)
      refine aops_eval 2 hops8 ?_
      simp only [go_sem]
      refine aops_pure hops8 rfl rfl rfl (hf _ he _ _) (CoL.refl _) ?_
      refine aops_last 1 hops8 ?_
      simp only [go_sem]
      refine hKR8 _ ?_
      refine hK12 _ ?_
      refine awp_ret ?_
      refine ends_ev rfl ?_
      simp only [go_sem]
      exact Co.refl _

theorem exSubst0 (e : Ex) (h : smEx e) (g d : Nat) : ACalls E 77 [encEx e, slS [], slTy []] [] g d (encEx e) [] := by
  refine acalls_of_awp (fn := Tryd.f77) (N := 10) Tryd.call77 Tryd.func77 rfl rfl (by simp) ?_
  simp only [go_sem]
  refine awp_seq_k (fun K1 hK1 => ?_)
  refine awp_plain 4 (by kernel_rfl) rfl (fun g0 hg0 => ?_)
  simp only [go_sem]
  refine hK1 _ ?_
  refine awp_seq_k (fun K2 hK2 => ?_)
  refine awp_still ⟨g0, 4, 0⟩ ?_
  simp only [go_sem]
  refine awp_still ⟨g0, 5, 0⟩ ?_
  simp only [go_sem]
  refine awp_ops (by kernel_rfl) rfl (fun g1 hg1 ops1 KR1 hops1 hKR1 => ?_)
  refine aops_eval 2 hops1 ?_
  simp only [go_sem]
  refine aops_pure hops1 rfl rfl rfl (exMapped _ [.eptr [slS []], .eptr [slTy []]] (fun n rows => rfl) (fun e he g d => exSubstFun e he g d) e h _ _) (CoL.refl _) ?_
  refine aops_last 1 hops1 ?_
  simp only [go_sem]
  refine hKR1 _ ?_
  refine hK2 _ ?_
  refine awp_ret ?_
  refine ends_ev rfl ?_
  simp only [go_sem]
  exact Co.refl _

theorem cloneEx (e : Ex) (h : smEx e) (g d : Nat) : ACalls E 58 [encEx e] [] g d (encEx e) [] := by
  refine acalls_of_awp (fn := Tryd.f58) (N := 5) Tryd.call58 Tryd.func58 rfl rfl (by simp) ?_
  simp only [go_sem]
  refine awp_seq_k (fun K1 hK1 => ?_)
  refine awp_plain 2 (by kernel_rfl) rfl (fun g0 hg0 => ?_)
  simp only [go_sem]
  refine hK1 _ ?_
  refine awp_seq_k (fun K2 hK2 => ?_)
  refine awp_ops (by kernel_rfl) rfl (fun g1 hg1 ops1 KR1 hops1 hKR1 => ?_)
  refine aops_eval 1 hops1 ?_
  simp only [go_sem]
  refine aops_pure hops1 rfl rfl rfl (exSubst0 e h _ _) (.cons (.refl _) (.cons (.nil _) (.cons (.nil _) .nil))) ?_
  refine aops_last 1 hops1 ?_
  simp only [go_sem]
  refine hKR1 _ ?_
  refine hK2 _ ?_
  refine awp_ret ?_
  refine ends_ev rfl ?_
  simp only [go_sem]
  exact Co.refl _

theorem cloneDe (x : Dec) (h : smDe x) (g d : Nat) : ACalls E 57 [encDe x] [] g d (encDe x) [] := by
  obtain ⟨h1, ⟨h2, h3⟩, ⟨h4, h5⟩, ⟨h6, h7⟩, h8, ⟨h9, h10⟩, h11, h12⟩ := h
  refine acalls_of_awp (fn := Tryd.f57) (N := 28) Tryd.call57 Tryd.func57 rfl rfl (by simp) ?_
  simp only [go_sem]
  refine awp_seq_k (fun K1 hK1 => ?_)
  refine awp_plain 2 (by kernel_rfl) rfl (fun g0 hg0 => ?_)
  simp only [go_sem, List.cons_append, List.nil_append]
  refine hK1 _ ?_
  refine awp_seq_k (fun K2 hK2 => ?_)
  refine awp_any 10 (by kernel_rfl) (by kernel_rfl) rfl (fun g1 hg1 ops1 KR1 hops1 hKR1 => ?_)
  refine qrun_eval 2 hops1 ?_
  simp only [go_sem, List.nil_append]
  refine qrun_pure hops1 rfl rfl rfl (copiesFm _ _ (by omega) (fun x hx g d => cloneFm x (h3 x hx) g d) _ _) (CoL.refl _) rfl ?_
  refine qrun_eval 2 hops1 ?_
  simp only [go_sem, List.nil_append]
  refine qrun_pure hops1 rfl rfl rfl (copiesPa _ _ h4 (fun x hx g d => clonePa x (h5 x hx) g d) _ _) (CoL.refl _) rfl ?_
  refine qrun_eval 2 hops1 ?_
  simp only [go_sem, List.nil_append]
  refine qrun_pure hops1 rfl rfl rfl (copiesSi _ _ h6 (fun x hx g d => cloneSi x (h7 x hx) g d) _ _) (CoL.refl _) rfl ?_
  refine qrun_last 1 hops1 ?_
  simp only [go_sem, List.nil_append, slSi]
  refine aops_last 5 hops1 ?_
  simp only [go_sem, List.cons_append, List.nil_append]
  refine hKR1 _ ?_
  refine hK2 _ ?_
  refine awp_seq_k (fun K3 hK3 => ?_)
  refine awp_any 10 (by kernel_rfl) (by kernel_rfl) rfl (fun g2 hg2 ops2 KR2 hops2 hKR2 => ?_)
  refine qrun_eval 2 hops2 ?_
  simp only [go_sem, List.nil_append]
  refine qrun_pure hops2 rfl rfl rfl (cloneStrs _ h9 _ _) (CoL.refl _) rfl ?_
  refine qrun_eval 2 hops2 ?_
  simp only [go_sem, List.nil_append]
  refine qrun_pure hops2 rfl rfl rfl (cloneSi _ h11 _ _) (CoL.refl _) rfl ?_
  refine qrun_eval 2 hops2 ?_
  simp only [go_sem, List.nil_append]
  refine qrun_pure hops2 rfl rfl rfl (cloneEx _ h12 _ _) (CoL.refl _) rfl ?_
  refine qrun_last 1 hops2 ?_
  simp only [go_sem, List.nil_append]
  refine aops_last 5 hops2 ?_
  simp only [go_sem, siC, List.cons_append, List.nil_append]
  refine hKR2 _ ?_
  refine hK3 _ ?_
  refine awp_seq_k (fun K4 hK4 => ?_)
  refine awp_plain 2 (by kernel_rfl) rfl (fun g3 hg3 => ?_)
  simp only [go_sem, List.cons_append, List.nil_append]
  refine hK4 _ ?_
  refine awp_ret ?_
  refine ends_ev rfl ?_
  simp only [go_sem]
  exact Co.refl _

theorem clonePr (p : Prg) (h : smPr p) (g d : Nat) : ACalls E 32 [encPr p] [] g d (encPr p) [] := by
  obtain ⟨⟨h1, h2⟩, h3⟩ := h
  refine acalls_of_awp (fn := Tryd.f32) (N := 10) Tryd.call32 Tryd.func32 rfl rfl (by simp) ?_
  simp only [go_sem]
  refine awp_seq_k (fun K1 hK1 => ?_)
  refine awp_plain 2 (by kernel_rfl) rfl (fun g0 hg0 => ?_)
  simp only [go_sem, List.cons_append, List.nil_append]
  refine hK1 _ ?_
  refine awp_seq_k (fun K2 hK2 => ?_)
  refine awp_any 7 (by kernel_rfl) (by kernel_rfl) rfl (fun g1 hg1 ops1 KR1 hops1 hKR1 => ?_)
  refine qrun_eval 2 hops1 ?_
  simp only [go_sem, List.nil_append]
  refine qrun_pure hops1 rfl rfl rfl (copiesDe _ _ (by omega) (fun x hx g d => cloneDe x (h2 x hx) g d) _ _) (CoL.refl _) rfl ?_
  refine qrun_eval 2 hops1 ?_
  simp only [go_sem, List.nil_append, slDe]
  refine qrun_pure hops1 rfl rfl rfl (cloneEx _ h3 _ _) (CoL.refl _) rfl ?_
  refine qrun_last 1 hops1 ?_
  simp only [go_sem, List.cons_append, List.nil_append]
  refine aops_last 1 hops1 ?_
  simp only [go_sem, List.cons_append, List.nil_append]
  refine hKR1 _ ?_
  refine hK2 _ ?_
  refine awp_ret ?_
  refine ends_ev rfl ?_
  simp only [go_sem]
  exact Co.refl _
end Go.Proofs.T


namespace Go.Ab
open Go Go.RowKit

/-! # Queues: a part of an own array that grows at its end -/

section
variable {P : Program} (w : World)
end

section
variable {E : Ctx} {N : Nat} {ops : List Oper} {ds : List (Option Tmp)} {g : Nat} {K : St → Prop} {st : St} {o : Oper} {r : List Oper}

/-- An operation with one of several outcomes. -/
def TOpX (E : Ctx) (g : Nat) (o : Oper) (e : Operand → D) (κ : Kp) (S : D → Sto → Prop) : Prop :=
  ∀ w0, E.A w0 → ∀ G w (a : Act), WF w0 G w → (∀ x ∈ o.op.operands, V G w (a.eval x) (e x)) → Objs w0 G w κ → (∀ d, o.dst = some d → g < G.top ∧ ∀ j, G.ρ ⟨g, d, j⟩ = none) →
    ∀ (K : Act → World → Prop) (Q' : Exit → Act → World → Prop),
      (∀ G' w' x v σ', S v σ' → WF w0 G' w' → V G' w' x v → Objs w0 G' w' (get σ') → Step (rsv g o.dst) G w κ G' w' (get σ') → K (a.put o.dst x) w') → ∀ r, o.wpIn (Fr r) 0 E.P a w K Q'

/-- What an append onto the end of a queue leaves. -/
def AppQ (g d : Nat) (n : Nm) (el : TypeId) (k off len : Nat) (rows rows2 : List D) (σ : Sto) (v : D) (σ' : Sto) : Prop :=
  ∃ off' rows', off' ≤ off ∧ off' + (len + rows2.length) = rows'.length ∧ rows'.drop off' = rows.drop off ++ rows2 ∧ v = .osl ⟨g, d, 0⟩ k off' (len + rows2.length) ∧ σ' = (⟨g, d, 0⟩, .arr el k rows') :: del σ n

end

section
variable {E : Ctx} {N : Nat} {st : St} {Q : Exit → St → Prop}
end

section
variable {E : Ctx} {N : Nat} {ops : List Oper} {ds : List (Option Tmp)} {g : Nat} {K : St → Prop} {st : St} {o : Oper} {r : List Oper}
end
end Go.Ab

namespace Go.Ab
open Go Go.RowKit

/-! # Scopes without jumps, labels -/

section
variable {E : Ctx} {N : Nat} {Q : Exit → St → Prop} {st : St}
def noGotoQ (Q : Exit → St → Prop) : Exit → St → Prop
  | .goto _, _ => False
  | e, s => Q e s
end
end Go.Ab

namespace Go.Ab
open Go Go.RowKit

/-! # What the arguments denote, off their reading -/

/-- What is known at the start: all that lies there is frozen. -/
def G0 (w : World) : Gh := ⟨fun b => b < w.heap.size, fun _ => none, 1, 0⟩

theorem wf0 (w : World) : WF w (G0 w) w where
  below := Bel.refl _ _
  old := fun _ h => h
  lt := fun _ h => h
  nm := fun n v h => by cases h

theorem objs0 (w : World) : Objs w (G0 w) w (get []) where
  ob := fun n o h => by cases h
  ne := fun n m o o' v v' b h => by cases h

/-- The cells from a place on denote these. -/
def Seg (w : World) (cs : List Value) (off : Nat) (ds : List D) : Prop := ∀ (i : Nat) d, ds[i]? = some d → ∃ c, cs[off + i]? = some c ∧ V (G0 w) w c d

theorem Seg.nil (w : World) (cs : List Value) (off : Nat) : Seg w cs off [] := fun i d h => by simp at h
theorem Seg.app {w : World} {cs : List Value} {off m : Nat} {ds ds' : List D} (h : Seg w cs off ds) (h' : Seg w cs m ds') (hm : m = off + ds.length) : Seg w cs off (ds ++ ds') := fun i d hd => by
  subst hm
  by_cases hi : i < ds.length
  · rw [List.getElem?_append_left hi] at hd
    exact h i d hd
  · rw [List.getElem?_append_right (by omega)] at hd
    obtain ⟨c, hc, hv⟩ := h' _ _ hd
    exact ⟨c, by rw [← hc]; congr 1; omega, hv⟩

variable {H : Type} {enc : TypeId × Value → H} {P : Program} {w : World}

/-- What reads as this type denotes one of these. -/
def Opens {α : Type} (enc : TypeId × Value → H) (P : Program) (w : World) (t : TypeId) (c : α → List D) (ok : α → Prop) (n : Nat) : Prop :=
  ∀ cs x, DataW.trod enc P w 0 (fun _ => true) true n t cs = some x → ∃ a, ok a ∧ cs.length = (c a).length ∧ Seg w cs 0 (c a)

theorem one_seg {v : Value} {d : D} (h : V (G0 w) w v d) : Seg w [v] 0 [d] := fun i d' hd => by
  cases i with
  | zero => cases hd; exact ⟨v, rfl, h⟩
  | succ i => simp at hd

theorem opens_str {t : TypeId} (ht : P.underlying t = some .string) (n : Nat) : Opens enc P w t (fun s : Str => [.val (.string s)]) (fun s => s.size ≤ 9223372036854775807) n := by
  intro cs x h
  obtain ⟨s, rfl, _, hs⟩ := DataW.trod_string ht h
  exact ⟨s, by unfold maxLen at hs; omega, rfl, one_seg (.val _)⟩

theorem opens_int {t : TypeId} (ht : P.underlying t = some (.int .i64)) (n : Nat) : Opens enc P w t (fun i : Int => [.val (.int .i64 i)]) (fun i => -9223372036854775808 ≤ i ∧ i ≤ 9223372036854775807) n := by
  intro cs x h
  obtain ⟨m, rfl, _, hw⟩ := DataW.trod_int ht h
  simp [Lit.wf, IntKind.min, IntKind.max, IntKind.signed, IntKind.bits] at hw
  exact ⟨m, ⟨by omega, by omega⟩, rfl, one_seg (.val _)⟩

theorem exists_list {α : Type} {p : Nat → α → Prop} : ∀ n : Nat, (∀ i, i < n → ∃ a, p i a) → ∃ l : List α, l.length = n ∧ ∀ i (a : α), l[i]? = some a → p i a
  | 0, _ => ⟨[], rfl, fun i a h => by simp at h⟩
  | n + 1, h => by
    obtain ⟨l, hl, hp⟩ := exists_list n fun i hi => h i (by omega)
    obtain ⟨a, ha⟩ := h n (by omega)
    refine ⟨l ++ [a], by simp [hl], fun i b hb => ?_⟩
    by_cases hi : i < l.length
    · rw [List.getElem?_append_left hi] at hb
      exact hp i b hb
    · rw [List.getElem?_append_right (by omega)] at hb
      have : i - l.length = 0 := by
        have := (List.getElem?_eq_some_iff.1 hb).1
        simp at this
        omega
      rw [this] at hb
      cases hb
      have : i = n := by omega
      subst this
      exact ha

theorem cells?_some {base : Nat} {a : Addr} {n : Nat} {l : List Value} (h : w.cells? base a n = some l) : l.length = n ∧ ∀ j, j < n → w.cell? (a.add j) = l[j]? := by
  unfold World.cells? at h
  split at h
  · refine ⟨by simpa using Lib.mapM_length h, fun j hj => ?_⟩
    obtain ⟨b, hb, hf⟩ := Lib.mapM_at h j j (by simp [hj])
    rw [hf, hb]
  · cases h

theorem cell?_spot {a : Addr} {v : Value} (h : w.cell? a = some v) : a.spot = none ∧ a.block < w.heap.size := by
  unfold World.cell? at h
  split at h
  · rename_i c t f hh
    split at h
    · cases h
    · rename_i hs
      exact ⟨by cases he : a.spot with | none => rfl | some _ => rw [he] at hs; simp at hs, (Array.getElem?_eq_some_iff.1 hh).1⟩
  · cases h

theorem opens_sl {α : Type} {t e : TypeId} {k : Nat} {f : α → D} {ok : α → Prop} {n : Nat} (ht : P.underlying t = some (.slice e)) (hk : P.cellsOf e = k) (hk0 : 0 < k) (hlen : ∀ a, (f a).cells.length = k)
    (he : Opens enc P w e (fun a => (f a).cells) ok n) :
    Opens enc P w t (fun l : List α => [.sl false (l.map f)]) (fun l => l.length ≤ 9223372036854775807 ∧ ∀ a ∈ l, ok a) (n + 1) := by
  intro cs x h
  rcases DataW.trod_slice ht h with ⟨rfl, rfl⟩ | ⟨a, len, cap, elems, rest, m, hm, rfl, rfl, _, hlc, hcap, hel, hget, hrest, _⟩
  · exact ⟨[], ⟨by simp, by simp⟩, rfl, one_seg (.nilsl _)⟩
  · obtain rfl : n = m := by omega
    rw [hk] at hget hrest
    have row : ∀ i, i < len → ∃ b, ok b ∧ ∀ (j : Nat) d, (f b).cells[j]? = some d → ∃ c, w.cell? ((a.add (i * k)).add j) = some c ∧ V (G0 w) w c d := by
      intro i hi
      have h1 := hget i hi
      rw [List.getElem?_eq_getElem (by omega)] at h1
      obtain ⟨l, hl, hd⟩ := Option.bind_eq_some_iff.1 h1
      obtain ⟨hl1, hl2⟩ := cells?_some hl
      obtain ⟨b, hb, hlb, hseg⟩ := he l _ hd
      refine ⟨b, hb, fun j d hd => ?_⟩
      obtain ⟨c, hc, hv⟩ := hseg j d hd
      have hj : j < k := by rw [← hlen b]; exact (List.getElem?_eq_some_iff.1 hd).1
      exact ⟨c, by rw [hl2 j hj]; simpa using hc, hv⟩
    obtain ⟨l, hll, hlp⟩ := exists_list len row
    have hok : l.length ≤ 9223372036854775807 ∧ ∀ b ∈ l, ok b := by
      refine ⟨by unfold maxLen at hcap; omega, fun b hb => ?_⟩
      obtain ⟨i, hi, rfl⟩ := List.mem_iff_getElem.1 hb
      exact (hlp i _ (by simp [hi])).1
    refine ⟨l, hok, rfl, one_seg ?_⟩
    by_cases hc0 : cap = 0
    · obtain rfl : len = 0 := by omega
      subst hc0
      have : l = [] := List.eq_nil_of_length_eq_zero hll
      subst this
      exact .esl a false
    · -- the first cell is there
      have first : ∃ v, w.cell? a = some v := by
        have hcells : ∃ q, (w.cells? 0 (a.add (0 * k)) k) = some q := by
          by_cases hl0 : 0 < len
          · have h1 := hget 0 hl0
            rw [List.getElem?_eq_getElem (by omega)] at h1
            obtain ⟨q, hq, _⟩ := Option.bind_eq_some_iff.1 h1
            exact ⟨q, hq⟩
          · obtain ⟨hr1, hr2⟩ := hrest rfl
            have h1 := hr2 0 (by omega)
            rw [List.getElem?_eq_getElem (by omega)] at h1
            obtain ⟨q, hq, _⟩ := Option.bind_eq_some_iff.1 h1
            have : len + 0 = 0 := by omega
            rw [this] at hq
            exact ⟨q, hq⟩
        obtain ⟨q, hq⟩ := hcells
        obtain ⟨hl1, hl2⟩ := cells?_some hq
        have h0 := hl2 0 hk0
        rw [Nat.zero_mul, show (a.add 0).add 0 = a from rfl, List.getElem?_eq_getElem (by omega)] at h0
        exact ⟨_, h0⟩
      obtain ⟨v, hv⟩ := first
      obtain ⟨hs, hb⟩ := cell?_spot hv
      obtain ⟨b, off, spot⟩ := a
      simp only at hs hb
      subst hs
      have hadd : ∀ i j : Nat, ((⟨b, off, none⟩ : Addr).add (i * k)).add j = ⟨b, off + (i * k + j), none⟩ := fun i j => by
        rw [Addr.add_lit, Addr.add_lit, Nat.add_assoc]
      refine .sl (k := k) (fun i j => (w.cell? ⟨b, off + (i * k + j), none⟩).getD .nilFunc) (by simp [hll]) (fun h => by cases h) hlc hb (fun i r hr => ?_) (fun i r j d hr hd => ?_) (fun i r j d hr hd => ?_)
      · obtain ⟨y, _, rfl⟩ := Option.map_eq_some_iff.1 (by simpa using hr)
        exact hlen y
      · obtain ⟨y, hy, rfl⟩ := Option.map_eq_some_iff.1 (by simpa using hr)
        obtain ⟨c, hc, _⟩ := (hlp i y hy).2 j d hd
        rw [hadd] at hc
        simp [hc]
      · obtain ⟨y, hy, rfl⟩ := Option.map_eq_some_iff.1 (by simpa using hr)
        obtain ⟨c, hc, hV⟩ := (hlp i y hy).2 j d hd
        rw [hadd] at hc
        simpa [hc] using hV

/-- A field of a struct. -/
theorem open_field {α : Type} {t : TypeId} {fs : Array Field} {cs : List Value} {n : Nat} {x : DataW H × List MemPlace} (ht : P.underlying t = some (.struct fs)) (h : DataW.trod enc P w 0 (fun _ => true) true (n + 1) t cs = some x)
    {c : α → List D} {ok : α → Prop} (i : Nat) {f : Field} (hf : fs[i]? = some f) (ho : Opens enc P w f.type c ok n) : ∃ a, ok a ∧ Seg w cs f.offset (c a) := by
  obtain ⟨xs, m, hm, _, _, hl, hg⟩ := DataW.trod_struct ht h
  obtain rfl : n = m := by omega
  have hi : i < xs.length := by
    have := (Array.getElem?_eq_some_iff.1 hf).1
    omega
  have h1 := hg i f hf
  rw [List.getElem?_eq_getElem hi] at h1
  obtain ⟨a, ha, _, hs⟩ := ho _ _ h1
  refine ⟨a, ha, fun j d hd => ?_⟩
  obtain ⟨v, hv, hV⟩ := hs j d hd
  refine ⟨v, ?_, hV⟩
  rw [Nat.zero_add, List.getElem?_take] at hv
  split at hv
  · rwa [List.getElem?_drop] at hv
  · cases hv

theorem struct_len {t : TypeId} {fs : Array Field} {cs : List Value} {n : Nat} {x : DataW H × List MemPlace} (ht : P.underlying t = some (.struct fs)) (h : DataW.trod enc P w 0 (fun _ => true) true (n + 1) t cs = some x) : cs.length = P.cellsOf t := by
  obtain ⟨xs, m, hm, _, hl, _, hg⟩ := DataW.trod_struct ht h
  exact hl

theorem Opens.zero {α : Type} {t : TypeId} {c : α → List D} {ok : α → Prop} : Opens enc P w t c ok 0 := fun cs x h => by simp [DataW.trod] at h

theorem opens_slb {α : Type} {t e : TypeId} {k : Nat} {f : α → D} {ok : α → Prop} {n : Nat} (ht : P.underlying t = some (.slice e)) (hk : P.cellsOf e = k) (hk0 : 0 < k) (hlen : ∀ a, (f a).cells.length = k)
    (he : ∀ m, m < n → Opens enc P w e (fun a => (f a).cells) ok m) : Opens enc P w t (fun l : List α => [.sl false (l.map f)]) (fun l => l.length ≤ 9223372036854775807 ∧ ∀ a ∈ l, ok a) n := by
  cases n with
  | zero => exact Opens.zero
  | succ n => exact opens_sl ht hk hk0 hlen (he n (Nat.lt_succ_self n))

def isSt (P : Program) (t : TypeId) : Bool := match P.underlying t with
  | some (.struct _) => true
  | _ => false
def fieldAt (P : Program) (t : TypeId) (i : Nat) : Option (TypeId × Nat) := match P.underlying t with
  | some (.struct fs) => (fs[i]?).map fun f => (f.type, f.offset)
  | _ => none

theorem open_at {α : Type} {t ft : TypeId} {off : Nat} {cs : List Value} {n : Nat} {x : DataW H × List MemPlace} {c : α → List D} {ok : α → Prop} (i : Nat) (hf : fieldAt P t i = some (ft, off))
    (h : DataW.trod enc P w 0 (fun _ => true) true (n + 1) t cs = some x) (ho : Opens enc P w ft c ok n) : ∃ a, ok a ∧ Seg w cs off (c a) := by
  unfold fieldAt at hf
  split at hf
  · rename_i fs hs
    obtain ⟨f, h1, h2⟩ := Option.map_eq_some_iff.1 hf
    cases h2
    exact open_field hs h i h1 ho
  · cases hf

theorem open_len {t : TypeId} {cs : List Value} {n : Nat} {x : DataW H × List MemPlace} (hs : isSt P t = true) (h : DataW.trod enc P w 0 (fun _ => true) true (n + 1) t cs = some x) : cs.length = P.cellsOf t := by
  unfold isSt at hs
  split at hs
  · rename_i fs ht
    exact struct_len ht h
  · cases hs

/-! ## Whole values -/

theorem open_agg {α : Type} {t : TypeId} {c : α → List D} {ok : α → Prop} {b0 : Nat} {v : Value} {d : DataW H} {ps : List MemPlace} (hs : isSt P t = true) (ho : ∀ n, Opens enc P w t c ok n)
    (hval : Value.okWide P w .any b0 t v) (h : DataW.Trod enc P w 0 (fun _ => true) true t v d ps) : ∃ a, ok a ∧ V (G0 w) w v (.agg (c a)) := by
  obtain ⟨n, hn⟩ := h
  obtain ⟨fs, ht⟩ : ∃ fs, P.underlying t = some (.struct fs) := by
    unfold isSt at hs
    split at hs
    · rename_i fs h
      exact ⟨fs, h⟩
    · cases hs
  unfold Value.okWide at hval
  rw [ht] at hval
  obtain ⟨cs, rfl, _, _⟩ := hval
  obtain ⟨a, ha, hl, hs⟩ := ho n _ _ hn
  have hl' : cs.size = (c a).length := by simpa [Value.cells] using hl
  refine ⟨a, ha, .agg hl' fun i x d hx hd => ?_⟩
  obtain ⟨y, hy, hV⟩ := hs i d hd
  have : cs[i]? = some y := by simpa [Value.cells] using hy
  rw [hx] at this
  cases this
  exact hV

/-! ## From a contract to the form of the rows -/

/-- A law that answers true: what the rows ask of it. -/
theorem law_calls {E : Ctx} {f : FuncId} {l : List D} {W : World} (h : ∀ g d, ACalls E f l [] g d (dB true) []) (hA : E.A W) {vs : Array Value} (hv : Vs (G0 W) W vs l) :
    Calls E.P f vs W fun e W' => e = .returned (.bool true) ∧ Below W.heap.size W W' := by
  refine ((h 0 0).run W hA (G0 W) W vs (wf0 W) hv (objs0 W) ⟨Nat.zero_lt_one, fun _ => rfl⟩).mono ?_
  rintro e w' ⟨v, G', rfl, hw, hV, _, _⟩
  rw [V.of_val hV]
  exact ⟨rfl, hw.below.toBelow⟩

end Go.Ab

namespace Go.Ab
open Go Go.RowKit

/-! # From a law's contract to its row -/

variable {H : Type} {enc : TypeId × Value → H} {P : Program} {W W' : World}

theorem trodAll_carry (hl : laidOutB P = true) (hb : Below W.heap.size W W') : ∀ {ts : List TypeId} {vs : List Value} {ds : List (DataW H)} {ps : List MemPlace},
    (∀ t ∈ ts, P.readableRec t = true ∧ t < P.types.size) → DataW.TrodAll enc P W 0 (fun _ => true) true ts vs ds ps → (∀ x ∈ ps, x.block < W.heap.size) → DataW.TrodAll enc P W' 0 (fun b => decide (b < W.heap.size)) true ts vs ds ps
  | [], [], [], _, _, h, _ => h
  | t :: ts, v :: vs, d :: ds, ps, ht, h, hlt => by
    obtain ⟨p, q, h1, h2, rfl⟩ := h
    have ht1 := ht t List.mem_cons_self
    exact ⟨p, q, Below.trod hl ht1.1 ht1.2 h1 hb (fun x hx => hlt x (List.mem_append_left _ hx)),
      trodAll_carry hl hb (fun u hu => ht u (List.mem_cons_of_mem _ hu)) h2 (fun x hx => hlt x (List.mem_append_right _ hx)), rfl⟩
  | [], [], _ :: _, _, _, h, _ => absurd h (by intro h; cases h)
  | [], _ :: _, _, _, _, h, _ => absurd h (by intro h; cases h)
  | _ :: _, [], _, _, _, h, _ => absurd h (by intro h; cases h)
  | _ :: _, _ :: _, [], _, _, h, _ => absurd h (by intro h; cases h)

def readsB (P : Program) (ts : List TypeId) : Bool := ts.all fun t => P.readableRec t && decide (t < P.types.size)

theorem lifted {E : Ctx} {C : Checked} {os : Os} {f : FuncId} {fn : Func} {s : ChangeSpec} {apart fresh handsOn : Bool} {laid : List (String × DataW Unit)} {tb : TypeId} (hE : E.P = C.prog)
    (hA : ∀ W, laidMetH C.prog laid W → E.A W) (own : ownKnob C.prog.godebug = none) (started : os.Started) (noInit : C.prog.inits.idxOf? f = none) (hfn : C.prog.funcs[f]? = some fn)
    (witness : ∃ (w : World) (tape : Tape) (i : Input), w.os = os ∧ (w.forCall tape i).Shaped C.prog ∧ i.vars = [] ∧ Input.okWide C.prog (w.forCall tape i) .any w.heap.size f i ∧
      ((s.pre enc C.prog fn [] apart (w.forCall tape i).memory i.args ∧ laidMetH C.prog laid (w.forCall tape i).memory) ∧ sizedMet enc C.prog fn (OpenSpec.ofChange s) apart (w.forCall tape i).memory i.args) ∧ ({} : Assume).holds C.prog (lone (Frame.enter C.prog f i.args .normal) [] (w.forCall tape i)))
    (hvars : s.vars = []) (hres : fn.resultTypes = #[tb]) (htb : C.prog.underlying tb = some .bool) (hlo : laidOutB C.prog = true) (hrd : readsB C.prog fn.params.toList = true)
    (hopen : ∀ (W : World) (base : Nat) (args : Array Value) (ds : List (DataW H)) (p : List MemPlace), (∀ (j : Nat) t v, fn.params[j]? = some t → args[j]? = some v → Value.okWide C.prog W .any base t v) →
      DataW.TrodAll enc C.prog W 0 (fun _ => true) true fn.params.toList args.toList ds p →
      (∃ l, Vs (G0 W) W args l ∧ ∀ g d, ACalls E f l [] g d (dB true) []) ∧ s.fn H ds = { results := [.lit (.bool true)], args := ds }) :
    ReturnsInHanded {} C os f .any (fun w args => (s.pre enc C.prog fn [] apart w args ∧ laidMetH C.prog laid w) ∧ sizedMet enc C.prog fn (OpenSpec.ofChange s) apart w args)
      (s.post enc C.prog fn apart fresh handsOn false) := by
  refine returnsInHanded_of_change_and (C := C) (X := fun w _ => laidMetH C.prog laid w) (fun _ _ _ hh h => h.of_heap hh) own started noInit hfn witness ?_
  intro W base args ds gs before hval hW _ _ hL _
  have hW' := hW
  obtain ⟨p, q, hT, hV, rfl, hfz, hnd⟩ := hW
  rw [hvars] at hV
  obtain ⟨rfl, rfl⟩ : gs = [] ∧ q = [] := by
    cases gs with
    | nil => exact ⟨rfl, hV⟩
    | cons g r => exact absurd hV (by intro h; cases h)
  obtain ⟨⟨l, hvs, hl⟩, hs⟩ := hopen W base args ds p hval hT
  have hc := law_calls hl (hA W hL) hvs
  rw [hE] at hc
  refine hc.mono fun e W' ⟨he, hb⟩ => ⟨_, he, ds, [], _, [], p, [], hW', ?_, ?_, ?_, hb.frame _, fun h => by cases h⟩
  · rw [List.append_nil, hs, hres]
    exact ⟨[], [], shut_bool htb true, rfl, rfl⟩
  · rw [List.append_nil, hs]
    refine trodAll_carry hlo hb (fun t ht => ?_) hT (fun x hx => by simpa using hW'.lt x (List.mem_append_left _ hx))
    have := List.all_eq_true.1 hrd t ht
    simpa using this
  · rw [List.append_nil, hs, hvars]
    rfl

theorem Vs.cons {G : Gh} {w : World} {v : Value} {vs : Array Value} {d : D} {ds : List D} (h : V G w v d) (hs : Vs G w vs ds) : Vs G w (#[v] ++ vs) (d :: ds) :=
  Vs.append (a := #[v]) (x := [d]) ⟨rfl, fun i c d' hc hd => by
    cases i with
    | zero => cases hc; cases hd; exact h
    | succ i => simp at hd⟩ hs
theorem Vs.nil (G : Gh) (w : World) : Vs G w #[] [] := ⟨rfl, fun i c d hc hd => by simp at hd⟩
theorem Vs.one1 {G : Gh} {w : World} {v : Value} {d : D} (h : V G w v d) : Vs G w #[v] [d] := by simpa using Vs.cons h (Vs.nil G w)
theorem Vs.two {G : Gh} {w : World} {v v' : Value} {d d' : D} (h : V G w v d) (h' : V G w v' d') : Vs G w #[v, v'] [d, d'] := by simpa using Vs.cons h (Vs.one1 h')
end Go.Ab

namespace Go.Ab
open Go
/-! ## Zero values -/
def zType : Value := .agg #[.string ByteArray.empty, .slice none 0 0, .int .i64 0]
def zSig : Value := .agg #[.string ByteArray.empty, .slice none 0 0, .slice none 0 0, .string ByteArray.empty, .slice none 0 0, .int .i64 0, .int .i64 0]
end Go.Ab
