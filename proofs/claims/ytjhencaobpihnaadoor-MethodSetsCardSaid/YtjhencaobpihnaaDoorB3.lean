/- A part of the proof, under no conditions of its own: B3. -/
import Derived.Test.YtjhencaobpihnaaDoorYE
namespace Go.Proofs.T
open Go Go.Ab Go.RowKit

theorem exMapped (f : Nat) (caps : List D) (hcap : ∀ n rows, caps.map (frzD n rows) = caps) (hf : ∀ e, smEx e → ∀ g d, ACalls E f (encEx e :: caps) [] g d (encEx e) []) : ∀ e, smEx e → ∀ g d, ACalls E 81 [encEx e, .func (.func f) [] caps] [] g d (encEx e) [] := by
  refine Ex.ind fun e ih => ?_
  intro he g d
  obtain ⟨h1, h2, h3, h4, h5⟩ := (smEx_iff e).1 he
  refine acalls_of_awp (fn := Tryd.f81) (N := 27) Tryd.call81 Tryd.func81 rfl rfl (by simp) ?_
  simp only [go_sem]
  refine awp_seq_k (fun K1 hK1 => ?_)
  refine awp_plain 2 (by kernel_rfl) rfl (fun g0 hg0 => ?_)
  simp only [go_sem]
  refine hK1 _ ?_
  refine awp_seq_k (fun K2 hK2 => ?_)
  refine awp_plain 1 (by kernel_rfl) rfl (fun g1 hg1 => ?_)
  simp only [go_sem]
  refine hK2 _ ?_
  refine awp_seq_k (fun K3 hK3 => ?_)
  refine awp_seq_k (fun K4 hK4 => ?_)
  refine awp_nil 5 28 8 rfl fun gn hgn => ?_
  have hn0 : gn ≠ g0 := fresh_g hgn 2 0 (by simp [go_sem])
  refine awp_plain 4 (by kernel_rfl) rfl (fun g2 hg2 => ?_)
  simp only [go_sem, hn0]
  refine hK4 _ ?_
  refine awp_block ?_
  refine awp_loop (fun m s => ∃ k a i, k ≤ e.kids.length ∧ m = e.kids.length - k ∧ a ≠ g0 ∧
      Le { env := [(1, .func (.func f) [] caps), (2, .ptr ⟨g0, 2, 0⟩ 0), (4, .ptr ⟨g0, 4, 0⟩ 0), (9, slEx e.kids), (10, dN e.kids.length), (11, dN k), (5, .own ⟨a, i, 0⟩ k)],
           σ := [(⟨g0, 2, 0⟩, .box 28 (exC e)), (⟨g0, 4, 0⟩, .box 28 [dI 0, .val (.string ByteArray.empty), .val (.string ByteArray.empty), .val (.slice none 0 0), dI 0, .val (.slice none 0 0), .val (.slice none 0 0), dI 0]), (⟨a, i, 0⟩, .arr 28 8 ((e.kids.take k).map encEx))] } s) e.kids.length ?_ ?_
  · refine ⟨0, gn, 0, Nat.zero_le _, rfl, hn0, le_of ?_⟩
    simp only [go_sem, exC, slEx, hn0, Ne.symm hn0, exC]
    trivial
  · rintro m s ⟨k, a, i, hk, rfl, ha0, hle⟩
    refine awp_keep hle ?_
    clear hle
    by_cases hlt : k < e.kids.length
    · refine awp_seq_k (fun K5 hK5 => ?_)
      refine awp_plain 1 (by kernel_rfl) rfl (fun g3 hg3 => ?_)
      simp only [go_sem, exC, exC, slEx, hlt]
      refine hK5 _ ?_
      refine awp_seq_k (fun K6 hK6 => ?_)
      refine awp_t rfl ?_
      refine awp_skip ?_
      refine hK6 _ ?_
      refine awp_seq_k (fun K7 hK7 => ?_)
      refine awp_block ?_
      refine awp_seq_k (fun K8 hK8 => ?_)
      refine awp_plain 4 (by kernel_rfl) rfl (fun g4 hg4 => ?_)
      simp only [go_sem, getM hlt]
      refine hK8 _ ?_
      have hn4_a : g4 ≠ a := fresh_g hg4 i 0 (by simp [go_sem, Ne.symm ha0])
      have hn4_g0 : g4 ≠ g0 := fresh_g hg4 2 0 (by simp [go_sem])
      refine awp_ops (by kernel_rfl) rfl (fun g5 hg5 ops5 KR5 hops5 hKR5 => ?_)
      refine aops_eval 3 hops5 ?_
      simp only [go_sem, Ne.symm hn4_a, Ne.symm hn4_g0]
      refine aops_pure hops5 rfl rfl rfl (ih _ (List.getElem_mem hlt) (h5 _ (List.getElem_mem hlt)) _ _) (CoL.refl _) ?_
      refine aops_eval 1 hops5 ?_
      simp only [go_sem]
      refine aops_app hops5 rfl rfl rfl rfl rfl es26 sz28 by28 ze28 rfl (by decide) ?_
      simp only [go_sem, List.length_take_of_le (Nat.le_of_lt hlt), Ne.symm ha0, hn4_a]
      first | refine ⟨⟨by omega, by omega⟩, ?_⟩ | skip
      refine aops_last 1 hops5 ?_
      simp only [go_sem]
      refine hKR5 _ ?_
      refine hK7 _ ?_
      have hn5_g0 : g5 ≠ g0 := fresh_g hg5 2 0 (by simp [go_sem, hn4_g0])
      refine awp_plain 2 (by kernel_rfl) rfl (fun g6 hg6 => ?_)
      simp only [go_sem, exC, exC, slEx]
      try simp (disch := omega) only [wrapN]
      refine ⟨_, ?_, k + 1, g5, 20, hlt, rfl, hn5_g0, le_of ?_⟩
      · omega
      simp only [go_sem, ← takeM _ hlt, hn4_g0, hn5_g0, Ne.symm hn5_g0]
      omega
    · refine awp_seq_k (fun K9 hK9 => ?_)
      refine awp_plain 1 (by kernel_rfl) rfl (fun g3 hg3 => ?_)
      simp only [go_sem, hlt, exC, exC, slEx]
      refine hK9 _ ?_
      refine awp_seq_k (fun K10 hK10 => ?_)
      refine awp_f rfl ?_
      refine awp_exit ?_
      refine hK3 _ ?_
      refine awp_seq_k (fun K11 hK11 => ?_)
      have : k = e.kids.length := by omega
      subst this
      refine awp_frz ⟨a, i, 0⟩ ?_
      simp only [go_sem, Ne.symm ha0]
      refine awp_plain 3 (by kernel_rfl) rfl (fun g7 hg7 => ?_)
      simp only [go_sem, hcap]
      refine hK11 _ ?_
      refine awp_seq_k (fun K12 hK12 => ?_)
      refine awp_ops (by kernel_rfl) rfl (fun g8 hg8 ops8 KR8 hops8 hKR8 => ?_)
      refine aops_eval 2 hops8 ?_
      simp only [go_sem]
      refine aops_pure hops8 rfl rfl rfl (hf _ he _ _) (CoL.refl _) ?_
      refine aops_last 1 hops8 ?_
      simp only [go_sem]
      refine hKR8 _ ?_
      refine hK12 _ ?_
      refine awp_ret ?_
      refine ends_ev rfl ?_
      simp only [go_sem]
      exact Co.refl _

theorem exSubst0 (e : Ex) (h : smEx e) (g d : Nat) : ACalls E 67 [encEx e, slS [], slTy []] [] g d (encEx e) [] := by
  refine acalls_of_awp (fn := Tryd.f67) (N := 10) Tryd.call67 Tryd.func67 rfl rfl (by simp) ?_
  simp only [go_sem]
  refine awp_seq_k (fun K1 hK1 => ?_)
  refine awp_plain 4 (by kernel_rfl) rfl (fun g0 hg0 => ?_)
  simp only [go_sem]
  refine hK1 _ ?_
  refine awp_seq_k (fun K2 hK2 => ?_)
  refine awp_still ⟨g0, 4, 0⟩ ?_
  simp only [go_sem]
  refine awp_still ⟨g0, 5, 0⟩ ?_
  simp only [go_sem]
  refine awp_ops (by kernel_rfl) rfl (fun g1 hg1 ops1 KR1 hops1 hKR1 => ?_)
  refine aops_eval 2 hops1 ?_
  simp only [go_sem]
  refine aops_pure hops1 rfl rfl rfl (exMapped _ [.eptr [slS []], .eptr [slTy []]] (fun n rows => rfl) (fun e he g d => exSubstFun e he g d) e h _ _) (CoL.refl _) ?_
  refine aops_last 1 hops1 ?_
  simp only [go_sem]
  refine hKR1 _ ?_
  refine hK2 _ ?_
  refine awp_ret ?_
  refine ends_ev rfl ?_
  simp only [go_sem]
  exact Co.refl _

theorem cloneEx (e : Ex) (h : smEx e) (g d : Nat) : ACalls E 40 [encEx e] [] g d (encEx e) [] := by
  refine acalls_of_awp (fn := Tryd.f40) (N := 5) Tryd.call40 Tryd.func40 rfl rfl (by simp) ?_
  simp only [go_sem]
  refine awp_seq_k (fun K1 hK1 => ?_)
  refine awp_plain 2 (by kernel_rfl) rfl (fun g0 hg0 => ?_)
  simp only [go_sem]
  refine hK1 _ ?_
  refine awp_seq_k (fun K2 hK2 => ?_)
  refine awp_ops (by kernel_rfl) rfl (fun g1 hg1 ops1 KR1 hops1 hKR1 => ?_)
  refine aops_eval 1 hops1 ?_
  simp only [go_sem]
  refine aops_pure hops1 rfl rfl rfl (exSubst0 e h _ _) (.cons (.refl _) (.cons (.nil _) (.cons (.nil _) .nil))) ?_
  refine aops_last 1 hops1 ?_
  simp only [go_sem]
  refine hKR1 _ ?_
  refine hK2 _ ?_
  refine awp_ret ?_
  refine ends_ev rfl ?_
  simp only [go_sem]
  exact Co.refl _

theorem cloneDe (x : Dec) (h : smDe x) (g d : Nat) : ACalls E 39 [encDe x] [] g d (encDe x) [] := by
  obtain ⟨h1, ⟨h2, h3⟩, ⟨h4, h5⟩, ⟨h6, h7⟩, h8, ⟨h9, h10⟩, h11, h12⟩ := h
  refine acalls_of_awp (fn := Tryd.f39) (N := 28) Tryd.call39 Tryd.func39 rfl rfl (by simp) ?_
  simp only [go_sem]
  refine awp_seq_k (fun K1 hK1 => ?_)
  refine awp_plain 2 (by kernel_rfl) rfl (fun g0 hg0 => ?_)
  simp only [go_sem, List.cons_append, List.nil_append]
  refine hK1 _ ?_
  refine awp_seq_k (fun K2 hK2 => ?_)
  refine awp_any 10 (by kernel_rfl) (by kernel_rfl) rfl (fun g1 hg1 ops1 KR1 hops1 hKR1 => ?_)
  refine qrun_eval 2 hops1 ?_
  simp only [go_sem, List.nil_append]
  refine qrun_pure hops1 rfl rfl rfl (copiesFm _ _ (by omega) (fun x hx g d => cloneFm x (h3 x hx) g d) _ _) (CoL.refl _) rfl ?_
  refine qrun_eval 2 hops1 ?_
  simp only [go_sem, List.nil_append]
  refine qrun_pure hops1 rfl rfl rfl (copiesPa _ _ h4 (fun x hx g d => clonePa x (h5 x hx) g d) _ _) (CoL.refl _) rfl ?_
  refine qrun_eval 2 hops1 ?_
  simp only [go_sem, List.nil_append]
  refine qrun_pure hops1 rfl rfl rfl (copiesSi _ _ h6 (fun x hx g d => cloneSi x (h7 x hx) g d) _ _) (CoL.refl _) rfl ?_
  refine qrun_last 1 hops1 ?_
  simp only [go_sem, List.nil_append, slSi]
  refine aops_last 5 hops1 ?_
  simp only [go_sem, List.cons_append, List.nil_append]
  refine hKR1 _ ?_
  refine hK2 _ ?_
  refine awp_seq_k (fun K3 hK3 => ?_)
  refine awp_any 10 (by kernel_rfl) (by kernel_rfl) rfl (fun g2 hg2 ops2 KR2 hops2 hKR2 => ?_)
  refine qrun_eval 2 hops2 ?_
  simp only [go_sem, List.nil_append]
  refine qrun_pure hops2 rfl rfl rfl (cloneStrs _ h9 _ _) (CoL.refl _) rfl ?_
  refine qrun_eval 2 hops2 ?_
  simp only [go_sem, List.nil_append]
  refine qrun_pure hops2 rfl rfl rfl (cloneSi _ h11 _ _) (CoL.refl _) rfl ?_
  refine qrun_eval 2 hops2 ?_
  simp only [go_sem, List.nil_append]
  refine qrun_pure hops2 rfl rfl rfl (cloneEx _ h12 _ _) (CoL.refl _) rfl ?_
  refine qrun_last 1 hops2 ?_
  simp only [go_sem, List.nil_append]
  refine aops_last 5 hops2 ?_
  simp only [go_sem, siC, List.cons_append, List.nil_append]
  refine hKR2 _ ?_
  refine hK3 _ ?_
  refine awp_seq_k (fun K4 hK4 => ?_)
  refine awp_plain 2 (by kernel_rfl) rfl (fun g3 hg3 => ?_)
  simp only [go_sem, List.cons_append, List.nil_append]
  refine hK4 _ ?_
  refine awp_ret ?_
  refine ends_ev rfl ?_
  simp only [go_sem]
  exact Co.refl _

theorem clonePr (p : Prg) (h : smPr p) (g d : Nat) : ACalls E 21 [encPr p] [] g d (encPr p) [] := by
  obtain ⟨⟨h1, h2⟩, h3⟩ := h
  refine acalls_of_awp (fn := Tryd.f21) (N := 10) Tryd.call21 Tryd.func21 rfl rfl (by simp) ?_
  simp only [go_sem]
  refine awp_seq_k (fun K1 hK1 => ?_)
  refine awp_plain 2 (by kernel_rfl) rfl (fun g0 hg0 => ?_)
  simp only [go_sem, List.cons_append, List.nil_append]
  refine hK1 _ ?_
  refine awp_seq_k (fun K2 hK2 => ?_)
  refine awp_any 7 (by kernel_rfl) (by kernel_rfl) rfl (fun g1 hg1 ops1 KR1 hops1 hKR1 => ?_)
  refine qrun_eval 2 hops1 ?_
  simp only [go_sem, List.nil_append]
  refine qrun_pure hops1 rfl rfl rfl (copiesDe _ _ (by omega) (fun x hx g d => cloneDe x (h2 x hx) g d) _ _) (CoL.refl _) rfl ?_
  refine qrun_eval 2 hops1 ?_
  simp only [go_sem, List.nil_append, slDe]
  refine qrun_pure hops1 rfl rfl rfl (cloneEx _ h3 _ _) (CoL.refl _) rfl ?_
  refine qrun_last 1 hops1 ?_
  simp only [go_sem, List.cons_append, List.nil_append]
  refine aops_last 1 hops1 ?_
  simp only [go_sem, List.cons_append, List.nil_append]
  refine hKR1 _ ?_
  refine hK2 _ ?_
  refine awp_ret ?_
  refine ends_ev rfl ?_
  simp only [go_sem]
  exact Co.refl _
end Go.Proofs.T

