/- A part of the proof, under no conditions of its own: YE. -/
import Derived.Test.YtjhencaobpihnaaDoorA18
import Derived.Test.YtjhencaobpihnaaDoorP1
namespace Go.Proofs.T
open Go Go.Ab Go.RowKit

/-! ## What is compared with itself -/




theorem refFm_self (q : Bool) : ∀ a, refFm q a a = true := fun a => by simp [refFm, same_self, eqTy_self]
theorem refPa_self (q : Bool) : ∀ a, refPa q a a = true := fun a => by simp [refPa, same_self, eqTy_self]

end Go.Proofs.T


namespace Go.Proofs.T
open Go Go.Ab Go.RowKit

/-! ## Copies -/


theorem copiesFm (l : List Formal) (f : Nat) (hl : l.length ≤ 1000000) (hf : ∀ x ∈ l, ∀ g d, ACalls E f [encFm x] [] g d (encFm x) []) (g d : Nat) : ACalls E 60 [slFm l, .func (.func f) [] []] [] g d (slFm l) [] := by
    refine acalls_of_awp (fn := Tryd.f60) (N := 22) Tryd.call60 Tryd.func60 rfl rfl (by simp) ?_
    simp only [go_sem]
    refine awp_seq_k (fun K1 hK1 => ?_)
    refine awp_plain 1 (by kernel_rfl) rfl (fun g0 hg0 => ?_)
    simp only [go_sem]
    refine hK1 _ ?_
    refine awp_seq_k (fun K2 hK2 => ?_)
    refine awp_plain 1 (by kernel_rfl) rfl (fun g1 hg1 => ?_)
    simp only [go_sem]
    refine hK2 _ ?_
    refine awp_seq_k (fun K3 hK3 => ?_)
    refine awp_seq_k (fun K4 hK4 => ?_)
    refine awp_plain 3 (by kernel_rfl) rfl (fun g2 hg2 => ?_)
    simp only [go_sem]
    refine hK4 _ ?_
    refine awp_block ?_
    refine awp_nil 5 50 5 rfl fun gn hgn => ?_
    refine awp_loop (fun m s => ∃ k a i, k ≤ l.length ∧ m = l.length - k ∧
        Le { env := [(1, .func (.func f) [] []), (8, .sl false (l.map encFm)), (9, dN l.length), (10, dN k), (5, .own ⟨a, i, 0⟩ k)], σ := [(⟨a, i, 0⟩, .arr 50 5 ((l.take k).map encFm))] } s) l.length ?_ ?_
    · refine ⟨0, gn, 0, Nat.zero_le _, rfl, le_of ?_⟩
      simp only [go_sem]
      trivial
    · rintro m s ⟨k, a, i, hk, rfl, hle⟩
      refine awp_keep hle ?_
      clear hle
      by_cases hlt : k < l.length
      · refine awp_seq_k (fun K5 hK5 => ?_)
        refine awp_plain 1 (by kernel_rfl) rfl (fun g3 hg3 => ?_)
        simp only [go_sem, hlt]
        refine hK5 _ ?_
        refine awp_seq_k (fun K6 hK6 => ?_)
        refine awp_t rfl ?_
        refine awp_skip ?_
        refine hK6 _ ?_
        refine awp_seq_k (fun K7 hK7 => ?_)
        refine awp_block ?_
        refine awp_seq_k (fun K8 hK8 => ?_)
        refine awp_plain 4 (by kernel_rfl) rfl (fun g4 hg4 => ?_)
        simp only [go_sem, getM hlt, encFm, encFm]
        refine hK8 _ ?_
        have hn4_a : g4 ≠ a := fresh_g hg4 i 0 (by simp [go_sem])
        refine awp_ops (by kernel_rfl) rfl (fun g5 hg5 ops5 KR5 hops5 hKR5 => ?_)
        refine aops_eval 3 hops5 ?_
        simp only [go_sem, Ne.symm hn4_a]
        refine aops_pure hops5 rfl rfl rfl (hf _ (List.getElem_mem hlt) _ _) (CoL.refl _) ?_
        refine aops_eval 1 hops5 ?_
        simp only [go_sem, encFm, encFm]
        refine aops_app hops5 rfl rfl rfl rfl rfl es31 sz50 by50 ze50 rfl (by decide) ?_
        simp only [go_sem, List.length_take_of_le (Nat.le_of_lt hlt), hn4_a]
        first | refine ⟨⟨by omega, by omega⟩, ?_⟩ | skip
        refine aops_last 1 hops5 ?_
        simp only [go_sem]
        refine hKR5 _ ?_
        refine hK7 _ ?_
        refine awp_plain 2 (by kernel_rfl) rfl (fun g6 hg6 => ?_)
        simp only [go_sem]
        try simp (disch := omega) only [wrapN]
        refine ⟨_, ?_, k + 1, g5, 19, hlt, rfl, le_of ?_⟩
        · omega
        simp only [go_sem, ← takeM _ hlt, encFm, encFm]
        omega
      · refine awp_seq_k (fun K9 hK9 => ?_)
        refine awp_plain 1 (by kernel_rfl) rfl (fun g3 hg3 => ?_)
        simp only [go_sem, hlt]
        refine hK9 _ ?_
        refine awp_seq_k (fun K10 hK10 => ?_)
        refine awp_f rfl ?_
        refine awp_exit ?_
        refine hK3 _ ?_
        refine awp_seq_k (fun K11 hK11 => ?_)
        refine awp_plain 2 (by kernel_rfl) rfl (fun g7 hg7 => ?_)
        simp only [go_sem]
        refine hK11 _ ?_
        refine awp_ret ?_
        have : k = l.length := by omega
        subst this
        refine ret_frz ⟨a, i, 0⟩ ?_
        simp only [go_sem]
        refine ends_ev rfl ?_
        simp only [go_sem]
        exact Co.of_eq (by simp [])
theorem copiesPa (l : List Param) (f : Nat) (hl : l.length ≤ 1000000) (hf : ∀ x ∈ l, ∀ g d, ACalls E f [encPa x] [] g d (encPa x) []) (g d : Nat) : ACalls E 62 [slPa l, .func (.func f) [] []] [] g d (slPa l) [] := by
    refine acalls_of_awp (fn := Tryd.f62) (N := 22) Tryd.call62 Tryd.func62 rfl rfl (by simp) ?_
    simp only [go_sem]
    refine awp_seq_k (fun K1 hK1 => ?_)
    refine awp_plain 1 (by kernel_rfl) rfl (fun g0 hg0 => ?_)
    simp only [go_sem]
    refine hK1 _ ?_
    refine awp_seq_k (fun K2 hK2 => ?_)
    refine awp_plain 1 (by kernel_rfl) rfl (fun g1 hg1 => ?_)
    simp only [go_sem]
    refine hK2 _ ?_
    refine awp_seq_k (fun K3 hK3 => ?_)
    refine awp_seq_k (fun K4 hK4 => ?_)
    refine awp_plain 3 (by kernel_rfl) rfl (fun g2 hg2 => ?_)
    simp only [go_sem]
    refine hK4 _ ?_
    refine awp_block ?_
    refine awp_nil 5 94 5 rfl fun gn hgn => ?_
    refine awp_loop (fun m s => ∃ k a i, k ≤ l.length ∧ m = l.length - k ∧
        Le { env := [(1, .func (.func f) [] []), (8, .sl false (l.map encPa)), (9, dN l.length), (10, dN k), (5, .own ⟨a, i, 0⟩ k)], σ := [(⟨a, i, 0⟩, .arr 94 5 ((l.take k).map encPa))] } s) l.length ?_ ?_
    · refine ⟨0, gn, 0, Nat.zero_le _, rfl, le_of ?_⟩
      simp only [go_sem]
      trivial
    · rintro m s ⟨k, a, i, hk, rfl, hle⟩
      refine awp_keep hle ?_
      clear hle
      by_cases hlt : k < l.length
      · refine awp_seq_k (fun K5 hK5 => ?_)
        refine awp_plain 1 (by kernel_rfl) rfl (fun g3 hg3 => ?_)
        simp only [go_sem, hlt]
        refine hK5 _ ?_
        refine awp_seq_k (fun K6 hK6 => ?_)
        refine awp_t rfl ?_
        refine awp_skip ?_
        refine hK6 _ ?_
        refine awp_seq_k (fun K7 hK7 => ?_)
        refine awp_block ?_
        refine awp_seq_k (fun K8 hK8 => ?_)
        refine awp_plain 4 (by kernel_rfl) rfl (fun g4 hg4 => ?_)
        simp only [go_sem, getM hlt, encPa, encPa]
        refine hK8 _ ?_
        have hn4_a : g4 ≠ a := fresh_g hg4 i 0 (by simp [go_sem])
        refine awp_ops (by kernel_rfl) rfl (fun g5 hg5 ops5 KR5 hops5 hKR5 => ?_)
        refine aops_eval 3 hops5 ?_
        simp only [go_sem, Ne.symm hn4_a]
        refine aops_pure hops5 rfl rfl rfl (hf _ (List.getElem_mem hlt) _ _) (CoL.refl _) ?_
        refine aops_eval 1 hops5 ?_
        simp only [go_sem, encPa, encPa]
        refine aops_app hops5 rfl rfl rfl rfl rfl es40 sz94 by94 ze94 rfl (by decide) ?_
        simp only [go_sem, List.length_take_of_le (Nat.le_of_lt hlt), hn4_a]
        first | refine ⟨⟨by omega, by omega⟩, ?_⟩ | skip
        refine aops_last 1 hops5 ?_
        simp only [go_sem]
        refine hKR5 _ ?_
        refine hK7 _ ?_
        refine awp_plain 2 (by kernel_rfl) rfl (fun g6 hg6 => ?_)
        simp only [go_sem]
        try simp (disch := omega) only [wrapN]
        refine ⟨_, ?_, k + 1, g5, 19, hlt, rfl, le_of ?_⟩
        · omega
        simp only [go_sem, ← takeM _ hlt, encPa, encPa]
        omega
      · refine awp_seq_k (fun K9 hK9 => ?_)
        refine awp_plain 1 (by kernel_rfl) rfl (fun g3 hg3 => ?_)
        simp only [go_sem, hlt]
        refine hK9 _ ?_
        refine awp_seq_k (fun K10 hK10 => ?_)
        refine awp_f rfl ?_
        refine awp_exit ?_
        refine hK3 _ ?_
        refine awp_seq_k (fun K11 hK11 => ?_)
        refine awp_plain 2 (by kernel_rfl) rfl (fun g7 hg7 => ?_)
        simp only [go_sem]
        refine hK11 _ ?_
        refine awp_ret ?_
        have : k = l.length := by omega
        subst this
        refine ret_frz ⟨a, i, 0⟩ ?_
        simp only [go_sem]
        refine ends_ev rfl ?_
        simp only [go_sem]
        exact Co.of_eq (by simp [])
theorem copiesSi (l : List Sig) (f : Nat) (hl : l.length ≤ 1000000) (hf : ∀ x ∈ l, ∀ g d, ACalls E f [encSi x] [] g d (encSi x) []) (g d : Nat) : ACalls E 64 [slSi l, .func (.func f) [] []] [] g d (slSi l) [] := by
    refine acalls_of_awp (fn := Tryd.f64) (N := 22) Tryd.call64 Tryd.func64 rfl rfl (by simp) ?_
    simp only [go_sem]
    refine awp_seq_k (fun K1 hK1 => ?_)
    refine awp_plain 1 (by kernel_rfl) rfl (fun g0 hg0 => ?_)
    simp only [go_sem]
    refine hK1 _ ?_
    refine awp_seq_k (fun K2 hK2 => ?_)
    refine awp_plain 1 (by kernel_rfl) rfl (fun g1 hg1 => ?_)
    simp only [go_sem]
    refine hK2 _ ?_
    refine awp_seq_k (fun K3 hK3 => ?_)
    refine awp_seq_k (fun K4 hK4 => ?_)
    refine awp_plain 3 (by kernel_rfl) rfl (fun g2 hg2 => ?_)
    simp only [go_sem]
    refine hK4 _ ?_
    refine awp_block ?_
    refine awp_nil 5 42 7 rfl fun gn hgn => ?_
    refine awp_loop (fun m s => ∃ k a i, k ≤ l.length ∧ m = l.length - k ∧
        Le { env := [(1, .func (.func f) [] []), (8, .sl false (l.map encSi)), (9, dN l.length), (10, dN k), (5, .own ⟨a, i, 0⟩ k)], σ := [(⟨a, i, 0⟩, .arr 42 7 ((l.take k).map encSi))] } s) l.length ?_ ?_
    · refine ⟨0, gn, 0, Nat.zero_le _, rfl, le_of ?_⟩
      simp only [go_sem]
      trivial
    · rintro m s ⟨k, a, i, hk, rfl, hle⟩
      refine awp_keep hle ?_
      clear hle
      by_cases hlt : k < l.length
      · refine awp_seq_k (fun K5 hK5 => ?_)
        refine awp_plain 1 (by kernel_rfl) rfl (fun g3 hg3 => ?_)
        simp only [go_sem, hlt]
        refine hK5 _ ?_
        refine awp_seq_k (fun K6 hK6 => ?_)
        refine awp_t rfl ?_
        refine awp_skip ?_
        refine hK6 _ ?_
        refine awp_seq_k (fun K7 hK7 => ?_)
        refine awp_block ?_
        refine awp_seq_k (fun K8 hK8 => ?_)
        refine awp_plain 4 (by kernel_rfl) rfl (fun g4 hg4 => ?_)
        simp only [go_sem, getM hlt, encSi, encSi]
        refine hK8 _ ?_
        have hn4_a : g4 ≠ a := fresh_g hg4 i 0 (by simp [go_sem])
        refine awp_ops (by kernel_rfl) rfl (fun g5 hg5 ops5 KR5 hops5 hKR5 => ?_)
        refine aops_eval 3 hops5 ?_
        simp only [go_sem, Ne.symm hn4_a]
        refine aops_pure hops5 rfl rfl rfl (hf _ (List.getElem_mem hlt) _ _) (CoL.refl _) ?_
        refine aops_eval 1 hops5 ?_
        simp only [go_sem, encSi, encSi]
        refine aops_app hops5 rfl rfl rfl rfl rfl es36 sz42 by42 ze42 rfl (by decide) ?_
        simp only [go_sem, List.length_take_of_le (Nat.le_of_lt hlt), hn4_a]
        first | refine ⟨⟨by omega, by omega⟩, ?_⟩ | skip
        refine aops_last 1 hops5 ?_
        simp only [go_sem]
        refine hKR5 _ ?_
        refine hK7 _ ?_
        refine awp_plain 2 (by kernel_rfl) rfl (fun g6 hg6 => ?_)
        simp only [go_sem]
        try simp (disch := omega) only [wrapN]
        refine ⟨_, ?_, k + 1, g5, 19, hlt, rfl, le_of ?_⟩
        · omega
        simp only [go_sem, ← takeM _ hlt, encSi, encSi]
        omega
      · refine awp_seq_k (fun K9 hK9 => ?_)
        refine awp_plain 1 (by kernel_rfl) rfl (fun g3 hg3 => ?_)
        simp only [go_sem, hlt]
        refine hK9 _ ?_
        refine awp_seq_k (fun K10 hK10 => ?_)
        refine awp_f rfl ?_
        refine awp_exit ?_
        refine hK3 _ ?_
        refine awp_seq_k (fun K11 hK11 => ?_)
        refine awp_plain 2 (by kernel_rfl) rfl (fun g7 hg7 => ?_)
        simp only [go_sem]
        refine hK11 _ ?_
        refine awp_ret ?_
        have : k = l.length := by omega
        subst this
        refine ret_frz ⟨a, i, 0⟩ ?_
        simp only [go_sem]
        refine ends_ev rfl ?_
        simp only [go_sem]
        exact Co.of_eq (by simp [])
theorem copiesDe (l : List Dec) (f : Nat) (hl : l.length ≤ 1000000) (hf : ∀ x ∈ l, ∀ g d, ACalls E f [encDe x] [] g d (encDe x) []) (g d : Nat) : ACalls E 38 [slDe l, .func (.func f) [] []] [] g d (slDe l) [] := by
    refine acalls_of_awp (fn := Tryd.f38) (N := 22) Tryd.call38 Tryd.func38 rfl rfl (by simp) ?_
    simp only [go_sem]
    refine awp_seq_k (fun K1 hK1 => ?_)
    refine awp_plain 1 (by kernel_rfl) rfl (fun g0 hg0 => ?_)
    simp only [go_sem]
    refine hK1 _ ?_
    refine awp_seq_k (fun K2 hK2 => ?_)
    refine awp_plain 1 (by kernel_rfl) rfl (fun g1 hg1 => ?_)
    simp only [go_sem]
    refine hK2 _ ?_
    refine awp_seq_k (fun K3 hK3 => ?_)
    refine awp_seq_k (fun K4 hK4 => ?_)
    refine awp_plain 3 (by kernel_rfl) rfl (fun g2 hg2 => ?_)
    simp only [go_sem]
    refine hK4 _ ?_
    refine awp_block ?_
    refine awp_nil 5 48 23 rfl fun gn hgn => ?_
    refine awp_loop (fun m s => ∃ k a i, k ≤ l.length ∧ m = l.length - k ∧
        Le { env := [(1, .func (.func f) [] []), (8, .sl false (l.map encDe)), (9, dN l.length), (10, dN k), (5, .own ⟨a, i, 0⟩ k)], σ := [(⟨a, i, 0⟩, .arr 48 23 ((l.take k).map encDe))] } s) l.length ?_ ?_
    · refine ⟨0, gn, 0, Nat.zero_le _, rfl, le_of ?_⟩
      simp only [go_sem]
      trivial
    · rintro m s ⟨k, a, i, hk, rfl, hle⟩
      refine awp_keep hle ?_
      clear hle
      by_cases hlt : k < l.length
      · refine awp_seq_k (fun K5 hK5 => ?_)
        refine awp_plain 1 (by kernel_rfl) rfl (fun g3 hg3 => ?_)
        simp only [go_sem, List.nil_append, List.nil_append, hlt]
        refine hK5 _ ?_
        refine awp_seq_k (fun K6 hK6 => ?_)
        refine awp_t rfl ?_
        refine awp_skip ?_
        refine hK6 _ ?_
        refine awp_seq_k (fun K7 hK7 => ?_)
        refine awp_block ?_
        refine awp_seq_k (fun K8 hK8 => ?_)
        refine awp_plain 4 (by kernel_rfl) rfl (fun g4 hg4 => ?_)
        simp only [go_sem, getM hlt, encDe, deC, siC, exC, List.cons_append, List.nil_append, encDe, deC, siC, exC, List.cons_append, List.nil_append]
        refine hK8 _ ?_
        have hn4_a : g4 ≠ a := fresh_g hg4 i 0 (by simp [go_sem])
        refine awp_ops (by kernel_rfl) rfl (fun g5 hg5 ops5 KR5 hops5 hKR5 => ?_)
        refine aops_eval 3 hops5 ?_
        simp only [go_sem, List.nil_append, List.nil_append, Ne.symm hn4_a]
        refine aops_pure hops5 rfl rfl rfl (hf _ (List.getElem_mem hlt) _ _) (CoL.refl _) ?_
        refine aops_eval 1 hops5 ?_
        simp only [go_sem, encDe, deC, siC, exC, List.cons_append, List.nil_append, encDe, deC, siC, exC, List.cons_append, List.nil_append]
        refine aops_app hops5 rfl rfl rfl rfl rfl es22 sz48 by48 ze48 rfl (by decide) ?_
        simp only [go_sem, List.length_take_of_le (Nat.le_of_lt hlt), hn4_a]
        first | refine ⟨⟨by omega, by omega⟩, ?_⟩ | skip
        refine aops_last 1 hops5 ?_
        simp only [go_sem, List.nil_append, List.nil_append]
        refine hKR5 _ ?_
        refine hK7 _ ?_
        refine awp_plain 2 (by kernel_rfl) rfl (fun g6 hg6 => ?_)
        simp only [go_sem, List.nil_append, List.nil_append]
        try simp (disch := omega) only [wrapN]
        refine ⟨_, ?_, k + 1, g5, 19, hlt, rfl, le_of ?_⟩
        · omega
        simp only [go_sem, ← takeM _ hlt, encDe, deC, siC, exC, List.cons_append, List.nil_append, encDe, deC, siC, exC, List.cons_append, List.nil_append]
        omega
      · refine awp_seq_k (fun K9 hK9 => ?_)
        refine awp_plain 1 (by kernel_rfl) rfl (fun g3 hg3 => ?_)
        simp only [go_sem, hlt, List.nil_append]
        refine hK9 _ ?_
        refine awp_seq_k (fun K10 hK10 => ?_)
        refine awp_f rfl ?_
        refine awp_exit ?_
        refine hK3 _ ?_
        refine awp_seq_k (fun K11 hK11 => ?_)
        refine awp_plain 2 (by kernel_rfl) rfl (fun g7 hg7 => ?_)
        simp only [go_sem, List.nil_append]
        refine hK11 _ ?_
        refine awp_ret ?_
        have : k = l.length := by omega
        subst this
        refine ret_frz ⟨a, i, 0⟩ ?_
        simp only [go_sem]
        refine ends_ev rfl ?_
        simp only [go_sem]
        exact Co.of_eq (by simp [])

theorem cloneFm (f : Formal) (h : smFm f) (g d : Nat) : ACalls E 61 [encFm f] [] g d (encFm f) [] := by
  refine acalls_of_awp (fn := Tryd.f61) (N := 8) Tryd.call61 Tryd.func61 rfl rfl (by simp) ?_
  simp only [go_sem]
  refine awp_seq_k (fun K1 hK1 => ?_)
  refine awp_plain 2 (by kernel_rfl) rfl (fun g0 hg0 => ?_)
  simp only [go_sem]
  refine hK1 _ ?_
  refine awp_seq_k (fun K2 hK2 => ?_)
  refine awp_ops (by kernel_rfl) rfl (fun g1 hg1 ops1 KR1 hops1 hKR1 => ?_)
  refine aops_eval 2 hops1 ?_
  simp only [go_sem]
  refine aops_pure hops1 rfl rfl rfl (clone_calls _ h.2 _ _) (CoL.refl _) ?_
  refine aops_last 2 hops1 ?_
  simp only [go_sem]
  refine hKR1 _ ?_
  refine hK2 _ ?_
  refine awp_seq_k (fun K3 hK3 => ?_)
  refine awp_plain 2 (by kernel_rfl) rfl (fun g2 hg2 => ?_)
  simp only [go_sem]
  refine hK3 _ ?_
  refine awp_ret ?_
  refine ends_ev rfl ?_
  simp only [go_sem]
  exact Co.refl _
theorem clonePa (f : Param) (h : smPa f) (g d : Nat) : ACalls E 63 [encPa f] [] g d (encPa f) [] := by
  refine acalls_of_awp (fn := Tryd.f63) (N := 8) Tryd.call63 Tryd.func63 rfl rfl (by simp) ?_
  simp only [go_sem]
  refine awp_seq_k (fun K1 hK1 => ?_)
  refine awp_plain 2 (by kernel_rfl) rfl (fun g0 hg0 => ?_)
  simp only [go_sem]
  refine hK1 _ ?_
  refine awp_seq_k (fun K2 hK2 => ?_)
  refine awp_ops (by kernel_rfl) rfl (fun g1 hg1 ops1 KR1 hops1 hKR1 => ?_)
  refine aops_eval 2 hops1 ?_
  simp only [go_sem]
  refine aops_pure hops1 rfl rfl rfl (clone_calls _ h.2 _ _) (CoL.refl _) ?_
  refine aops_last 2 hops1 ?_
  simp only [go_sem]
  refine hKR1 _ ?_
  refine hK2 _ ?_
  refine awp_seq_k (fun K3 hK3 => ?_)
  refine awp_plain 2 (by kernel_rfl) rfl (fun g2 hg2 => ?_)
  simp only [go_sem]
  refine hK3 _ ?_
  refine awp_ret ?_
  refine ends_ev rfl ?_
  simp only [go_sem]
  exact Co.refl _

theorem okRowsS : ∀ l : List Str, okRows 1 (l.map encS) := fun l => okRows_map 1 encS l fun _ => ⟨rfl, rfl⟩
theorem cloneStrs (l : List Str) (hl : l.length ≤ 1000000) (g d : Nat) : ACalls E 66 [slS l] [] g d (slS l) [] := by
  cases l with
  | nil =>
    refine acalls_of_awp (fn := Tryd.f66) (N := 8) Tryd.call66 Tryd.func66 rfl rfl (by simp) ?_
    simp only [go_sem]
    refine awp_seq_k (fun K1 hK1 => ?_)
    refine awp_plain 1 (by kernel_rfl) rfl (fun g0 hg0 => ?_)
    simp only [go_sem]
    refine hK1 _ ?_
    refine awp_seq_k (fun K2 hK2 => ?_)
    refine awp_seq_k (fun K3 hK3 => ?_)
    refine awp_plain 2 (by kernel_rfl) rfl (fun g1 hg1 => ?_)
    simp only [go_sem]
    refine hK3 _ ?_
    refine awp_unk rfl ?_ ?_
    · refine awp_seq_k (fun K4 hK4 => ?_)
      refine awp_plain 1 (by kernel_rfl) rfl (fun g2 hg2 => ?_)
      simp only [go_sem]
      refine hK4 _ ?_
      refine awp_ret ?_
      refine ends_ev rfl ?_
      simp only [go_sem]
      exact .nil _
    · refine awp_skip ?_
      refine hK2 _ ?_
      refine awp_seq_k (fun K5 hK5 => ?_)
      refine awp_ops (by kernel_rfl) rfl (fun g3 hg3 ops3 KR3 hops3 hKR3 => ?_)
      refine aops_eval 2 hops3 ?_
      simp only [go_sem]
      refine aops_app hops3 rfl rfl rfl rfl rfl es44 sz9 by9 ze9 rfl (by decide) ?_
      simp only [go_sem, List.length_nil]
      first | refine ⟨⟨by omega, by omega⟩, ?_⟩ | skip
      refine aops_last 1 hops3 ?_
      simp only [go_sem]
      refine hKR3 _ ?_
      refine hK5 _ ?_
      refine awp_ret ?_
      refine ret_frz ⟨g3, 7, 0⟩ ?_
      simp only [go_sem]
      refine ends_ev rfl ?_
      simp only [go_sem]
      exact Co.refl _
  | cons a l =>
    have ok := okRowsS (a :: l)
    simp only [List.map_cons, encS] at ok
    simp only [List.length_cons] at hl
    refine acalls_of_awp (fn := Tryd.f66) (N := 8) Tryd.call66 Tryd.func66 rfl rfl (by simp) ?_
    simp only [go_sem]
    refine awp_seq_k (fun K1 hK1 => ?_)
    refine awp_plain 1 (by kernel_rfl) rfl (fun g0 hg0 => ?_)
    simp only [go_sem]
    refine hK1 _ ?_
    refine awp_seq_k (fun K2 hK2 => ?_)
    refine awp_seq_k (fun K3 hK3 => ?_)
    refine awp_plain 2 (by kernel_rfl) rfl (fun g1 hg1 => ?_)
    simp only [go_sem]
    refine hK3 _ ?_
    refine awp_f rfl ?_
    refine awp_skip ?_
    refine hK2 _ ?_
    refine awp_seq_k (fun K4 hK4 => ?_)
    refine awp_ops (by kernel_rfl) rfl (fun g3 hg3 ops3 KR3 hops3 hKR3 => ?_)
    refine aops_eval 2 hops3 ?_
    simp only [go_sem]
    refine aops_app hops3 rfl rfl rfl rfl rfl es44 sz9 by9 ze9 rfl (by decide) ?_
    simp only [go_sem, List.length_map, ok, List.length_cons, List.length_nil, Nat.zero_add, List.nil_append]
    first | refine ⟨⟨by omega, by omega⟩, ?_⟩ | skip
    refine aops_last 1 hops3 ?_
    simp only [go_sem, List.nil_append]
    refine hKR3 _ ?_
    refine hK4 _ ?_
    refine awp_ret ?_
    refine ret_frz ⟨g3, 7, 0⟩ ?_
    simp only [go_sem]
    refine ends_ev rfl ?_
    simp only [go_sem]
    exact Co.refl _

/-! Small expressions, declarations, programs. -/
mutual
def smEx : Ex → Prop
  | .mk _ n t a c _ => n.size ≤ 1000000 ∧ smTy t ∧ (a.length ≤ 1000000 ∧ ∀ x ∈ a, smTy x) ∧ c.length ≤ 1000000 ∧ smExs c
def smExs : List Ex → Prop
  | [] => True
  | t :: r => smEx t ∧ smExs r
end
theorem smExs_iff : ∀ l, smExs l ↔ ∀ t ∈ l, smEx t
  | [] => by simp [smExs]
  | t :: r => by simp [smExs, smExs_iff r]
theorem smEx_iff (e : Ex) : smEx e ↔ e.name.size ≤ 1000000 ∧ smTy e.type ∧ (e.targs.length ≤ 1000000 ∧ ∀ x ∈ e.targs, smTy x) ∧ e.kids.length ≤ 1000000 ∧ ∀ x ∈ e.kids, smEx x := by
  cases e
  simp [smEx, smExs_iff]
def smDe (d : Dec) : Prop := d.name.size ≤ 1000000 ∧ (d.formals.length ≤ 2000 ∧ ∀ f ∈ d.formals, smFm f) ∧ (d.fields.length ≤ 1000000 ∧ ∀ f ∈ d.fields, smPa f) ∧ (d.sigs.length ≤ 1000000 ∧ ∀ f ∈ d.sigs, smSi f) ∧ d.recv.size ≤ 1000000 ∧
  (d.vars.length ≤ 1000000 ∧ ∀ f ∈ d.vars, f.size ≤ 1000000) ∧ smSi d.sig ∧ smEx d.body
def smPr (p : Prg) : Prop := (p.decls.length ≤ 2000 ∧ ∀ f ∈ p.decls, smDe f) ∧ smEx p.main

theorem cloneSi (s : Sig) (h : smSi s) (g d : Nat) : ACalls E 65 [encSi s] [] g d (encSi s) [] := by
  refine acalls_of_awp (fn := Tryd.f65) (N := 16) Tryd.call65 Tryd.func65 rfl rfl (by simp) ?_
  simp only [go_sem]
  refine awp_seq_k (fun K1 hK1 => ?_)
  refine awp_plain 2 (by kernel_rfl) rfl (fun g0 hg0 => ?_)
  simp only [go_sem]
  refine hK1 _ ?_
  refine awp_seq_k (fun K2 hK2 => ?_)
  refine awp_any 10 (by kernel_rfl) (by kernel_rfl) rfl (fun g1 hg1 ops1 KR1 hops1 hKR1 => ?_)
  refine qrun_eval 2 hops1 ?_
  simp only [go_sem]
  refine qrun_pure hops1 rfl rfl rfl (copiesFm _ _ h.2.1.1 (fun x hx g d => cloneFm x (h.2.1.2 x hx) g d) _ _) (CoL.refl _) rfl ?_
  refine qrun_eval 2 hops1 ?_
  simp only [go_sem]
  refine qrun_pure hops1 rfl rfl rfl (copiesPa _ _ h.2.2.1.1 (fun x hx g d => clonePa x (h.2.2.1.2 x hx) g d) _ _) (CoL.refl _) rfl ?_
  refine qrun_eval 2 hops1 ?_
  simp only [go_sem]
  refine qrun_pure hops1 rfl rfl rfl (clone_calls _ h.2.2.2 _ _) (CoL.refl _) rfl ?_
  refine qrun_last 1 hops1 ?_
  simp only [go_sem]
  refine aops_last 5 hops1 ?_
  simp only [go_sem]
  refine hKR1 _ ?_
  refine hK2 _ ?_
  refine awp_seq_k (fun K3 hK3 => ?_)
  refine awp_plain 2 (by kernel_rfl) rfl (fun g2 hg2 => ?_)
  simp only [go_sem]
  refine hK3 _ ?_
  refine awp_ret ?_
  refine ends_ev rfl ?_
  simp only [go_sem]
  exact Co.refl _

theorem exSubstFun (e : Ex) (h : smEx e) (g d : Nat) : ACalls E 82 [encEx e, .eptr [slS []], .eptr [slTy []]] [] g d (encEx e) [] := by
  have hm := (smEx_iff e).1 h
  refine acalls_of_awp (fn := Tryd.f82) (N := 18) Tryd.call82 Tryd.func82 rfl rfl (by simp) ?_
  simp only [go_sem]
  refine awp_seq_k (fun K1 hK1 => ?_)
  refine awp_plain 2 (by kernel_rfl) rfl (fun g0 hg0 => ?_)
  simp only [go_sem]
  refine hK1 _ ?_
  refine awp_seq_k (fun K2 hK2 => ?_)
  refine awp_any 11 (by kernel_rfl) (by kernel_rfl) rfl (fun g1 hg1 ops1 KR1 hops1 hKR1 => ?_)
  refine qrun_eval 4 hops1 ?_
  simp only [go_sem]
  refine qrun_pure hops1 rfl rfl rfl (subst_nil e.type hm.2.1 _ _) (CoL.refl _) rfl ?_
  refine qrun_eval 4 hops1 ?_
  simp only [go_sem]
  refine qrun_pure hops1 rfl rfl rfl (all_calls (fun t => t) [] [] e.targs hm.2.2.1.1 (fun t ht g d => subst_nil t (hm.2.2.1.2 t ht) g d) _ _) (CoL.refl _) rfl ?_
  refine qrun_last 1 hops1 ?_
  simp only [go_sem, List.map_id']
  refine aops_last 3 hops1 ?_
  simp only [go_sem]
  refine hKR1 _ ?_
  refine hK2 _ ?_
  refine awp_seq_k (fun K3 hK3 => ?_)
  refine awp_plain 2 (by kernel_rfl) rfl (fun g2 hg2 => ?_)
  simp only [go_sem]
  refine hK3 _ ?_
  refine awp_ret ?_
  trace_state
  refine ends_ev rfl ?_
  simp only [go_sem]
  exact Co.of_eq (by simp [encEx_agg, exC])

end Go.Proofs.T

