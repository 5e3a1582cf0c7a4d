/- A part of the proof, under no conditions of its own: I2. -/
import Derived.Test.YtmmfjicebmeamaaI1
namespace Go.Proofs.T
open Go Go.Ab Go.RowKit

/-- How many nodes there are at a kid. -/
def offK (c : List Ex) (i : Nat) : Nat := 1 + (nodesExs (c.take i)).length

set_option maxRecDepth 100000 in
theorem visit_calls (n : Nm) : ∀ (e : Ex), okEx e → ∀ I : Nat → Sto → Prop, (∀ j x, (nodesEx e)[j]? = some x → YC E n (encEx x) (I j) (I (j + 1))) → IC E 44 [encEx e, .yld n] (I 0) (I (nodesEx e).length) (dB true) := by
  intro e
  induction e using Ex.ind with
  | h e ih =>
  intro hok I hY
  obtain ⟨o1, o2, o3, o4, o5⟩ := (okEx_iff e).1 hok
  have hne := nodesEx_eq e
  refine icalls_of_awp (fn := Try.f44) (N := 16) Try.call44 Try.func44 rfl rfl (by simp) (fun g d τ hτ => ?_)
  simp only [go_sem]
  refine awp_seq_k (fun K1 hK1 => ?_)
  refine awp_plain 3 (by kernel_rfl) rfl (fun g0 hg0 => ?_)
  simp only [go_sem]
  refine hK1 _ ?_
  refine awp_seq_k (fun K2 hK2 => ?_)
  refine awp_seq_k (fun K3 hK3 => ?_)
  have hf2 : get τ ⟨g0, 2, 0⟩ = none := by simpa [go_sem] using hg0 2 0
  have hf3 : get τ ⟨g0, 3, 0⟩ = none := by simpa [go_sem] using hg0 3 0
  refine awp_ops (by kernel_rfl) rfl (fun g1 hg1 ops1 KR1 hops1 hKR1 => ?_)
  refine aops_eval 2 hops1 ?_
  simp only [go_sem]
  refine aops_yield (own := [_, _]) (τ := τ) hops1 rfl rfl rfl rfl rfl rfl (hY 0 e (by rw [hne]; rfl)) (Co.refl _) rfl (fun p hp => ?_) hτ (fun τ2 hI2 hX => ?_)
  · rcases List.mem_cons.1 hp with rfl | hp
    · exact hf3
    · rw [List.mem_singleton.1 hp]; exact hf2
  refine aops_last 1 hops1 ?_
  simp only [go_sem]
  refine hKR1 _ ?_
  refine hK3 _ ?_
  refine awp_f rfl ?_
  refine awp_skip ?_
  refine hK2 _ ?_
  refine awp_seq_k (fun K4 hK4 => ?_)
  have h3 := hX _ List.mem_cons_self
  have h2 := hX _ (List.mem_cons_of_mem _ List.mem_cons_self)
  clear hX
  refine awp_keepT (st' := { env := [(2, .ptr ⟨g0, 2, 0⟩ 0), (3, .ptr ⟨g0, 3, 0⟩ 0)], σ := (⟨g0, 2, 0⟩, .box 39 (exC e)) :: (⟨g0, 3, 0⟩, .box 87 [.yld n]) :: τ2 }) ⟨leE_spec ?_, ?_⟩ ?_
  · simp only [go_sem]
    try trivial
  · intro m o hm
    simp only [Ab.get] at hm ⊢
    by_cases a : (⟨g0, 2, 0⟩ : Nm) = m
    · have b : ¬ (⟨g0, 3, 0⟩ : Nm) = m := by rw [← a]; simp
      rw [if_pos a] at hm
      rw [if_neg b, if_pos a]
      exact hm
    · rw [if_neg a] at hm
      by_cases b : (⟨g0, 3, 0⟩ : Nm) = m
      · rw [if_pos b] at hm ⊢
        exact hm
      · rw [if_neg b] at hm
        rw [if_neg b, if_neg a]
        exact hm
  refine awp_plain 2 (by kernel_rfl) rfl (fun g3 hg3 => ?_)
  simp only [go_sem]
  refine hK4 _ ?_
  refine awp_seq_k (fun K5 hK5 => ?_)
  refine awp_ops (by kernel_rfl) rfl (fun g4 hg4 ops4 KR4 hops4 hKR4 => ?_)
  refine aops_eval 3 hops4 ?_
  simp only [go_sem]
  refine aops_icall (own := [_]) (τ := (⟨g0, 3, 0⟩, .box 87 [.yld n]) :: τ2) hops4 rfl rfl rfl (containsK_calls e.kids o4 g0 (fun i => bx n g0 (I (offK e.kids i))) (fun i hi => ?_)) (CoL.refl _) rfl (fun p hp => ?_) ⟨τ2, rfl, hI2, h3⟩ (fun τ3 hI3 hX => ?_)
  · refine stop_calls _ n g0 _ _ ?_
    have hlen : offK e.kids (i + 1) = offK e.kids i + (nodesEx e.kids[i]).length := by
      unfold offK
      rw [nodesExs_take e.kids i hi, List.length_append]
      omega
    rw [hlen]
    refine ih _ (List.getElem_mem hi) (o5 _ (List.getElem_mem hi)) (fun j => I (offK e.kids i + j)) (fun j x hx => ?_)
    have := hY (offK e.kids i + j) x (by
      rw [hne]
      have := nodesExs_get e.kids i hi j x hx
      have e1 : offK e.kids i + j = ((nodesExs (e.kids.take i)).length + j) + 1 := by unfold offK; omega
      rw [e1, List.getElem?_cons_succ]
      exact this)
    exact this
  · rw [List.mem_singleton.1 hp]
    simpa [go_sem] using h2
  refine aops_last 2 hops4 ?_
  simp only [go_sem]
  refine hKR4 _ ?_
  refine hK5 _ ?_
  refine awp_ret ?_
  obtain ⟨τ4, rfl, hI4, h4⟩ := hI3
  have h5 := hX _ List.mem_cons_self
  have hlast : offK e.kids e.kids.length = (nodesEx e).length := by
    unfold offK
    rw [List.take_length, hne]
    simp
    omega
  rw [hlast] at hI4
  refine ends_tail (own := [_, _]) (τ := τ4) rfl rfl (fun p hp => ?_) hI4 ?_
  · rcases List.mem_cons.1 hp with rfl | hp
    · simpa [go_sem] using h5
    · rw [List.mem_singleton.1 hp]; exact h4
  simp only [go_sem]
  exact Co.of_eq rfl

theorem all1_calls (e : Ex) (h : okEx e) (n : Nm) (I : Nat → Sto → Prop) (hY : ∀ k (hk : k < ((nodesEx e).map encEx).length), YC E n ((nodesEx e).map encEx)[k] (I k) (I (k + 1))) :
    IC E 43 [.yld n, .eptr (exC e)] (I 0) (I ((nodesEx e).map encEx).length) (.tup []) := by
  have hY' : ∀ j x, (nodesEx e)[j]? = some x → YC E n (encEx x) (I j) (I (j + 1)) := fun j x hx => by
    have hj := (List.getElem?_eq_some_iff.1 hx).1
    have := hY j (by simpa using hj)
    have e1 : (nodesEx e)[j] = x := (List.getElem?_eq_some_iff.1 hx).2
    simpa [e1] using this
  refine icalls_of_awp (fn := Try.f43) (N := 6) Try.call43 Try.func43 rfl rfl (by simp) (fun g d τ hτ => ?_)
  simp only [go_sem]
  refine awp_ops (by kernel_rfl) rfl (fun g0 hg0 ops0 KR0 hops0 hKR0 => ?_)
  refine aops_eval 2 hops0 ?_
  simp only [go_sem]
  refine aops_icall (own := []) (τ := τ) hops0 rfl rfl rfl (visit_calls n e h I hY') (CoL.refl _) rfl (fun p hp => nomatch hp) hτ (fun τ2 hI2 _ => ?_)
  refine aops_last 0 hops0 ?_
  simp only [go_sem]
  refine hKR0 _ ?_
  refine ends_tail (own := []) rfl rfl (by simp [go_sem]) (hI2) ?_
  simp only [go_sem]
  exact Co.refl _
theorem allX_calls (e : Ex) (g d : Nat) : ACalls E 34 [encEx e] [] g d (.func (.func 43) [] [.eptr (exC e)]) [] := by
  refine acalls_of_awp (fn := Try.f34) (N := 4) Try.call34 Try.func34 rfl rfl (by simp) ?_
  simp only [go_sem]
  refine awp_seq_k (fun K1 hK1 => ?_)
  refine awp_plain 2 (by kernel_rfl) rfl (fun g0 hg0 => ?_)
  simp only [go_sem]
  refine hK1 _ ?_
  refine awp_seq_k (fun K2 hK2 => ?_)
  refine awp_still ⟨g0, 1, 0⟩ ?_
  simp only [go_sem]
  refine awp_plain 2 (by kernel_rfl) rfl (fun g1 hg1 => ?_)
  simp only [go_sem]
  refine hK2 _ ?_
  refine awp_ret ?_
  refine ends_ev rfl ?_
  simp only [go_sem]
  exact Co.refl _
end Go.Proofs.T

