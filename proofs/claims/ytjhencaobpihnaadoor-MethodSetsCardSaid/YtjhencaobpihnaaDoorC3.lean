/- A part of the proof, under no conditions of its own: C3. -/
import Derived.Test.YtjhencaobpihnaaDoorC2
namespace Go.Proofs.T
open Go Go.Ab Go.RowKit

/-! ## Method sets -/

theorem set_calls (p : Prg) (h : smPr p) (env : List Formal) (he : env.length ≤ 1000000) (he2 : ∀ f ∈ env, smFm f) (x : Ty) (hx : smTy x) (g d : Nat) : ACalls E 8 [encTb p, slFm env, encTy x] [] g d (slSi (setOf p env x)) [] := by
  have hbo := bound_calls env x he he2 (smTy.ok _ hx)
  have hsm := fun t (e : boundOf env x = some t) => boundOf_sm he2 e
  refine acalls_of_awp (fn := Tryd.f8) (N := 37) Tryd.call8 Tryd.func8 rfl rfl (by simp) ?_
  simp only [go_sem]
  refine awp_seq_k (fun K1 hK1 => ?_)
  refine awp_plain 2 (by kernel_rfl) rfl (fun g0 hg0 => ?_)
  simp only [go_sem]
  refine hK1 _ ?_
  refine awp_seq_k (fun K2 hK2 => ?_)
  refine awp_ops (by kernel_rfl) rfl (fun g1 hg1 ops1 KR1 hops1 hKR1 => ?_)
  refine aops_eval 2 hops1 ?_
  simp only [go_sem]
  cases hb : boundOf env x with
  | none =>
    refine aops_pure hops1 rfl rfl rfl (hbo _ _) (CoL.refl _) ?_
    refine aops_last 6 hops1 ?_
    simp only [go_sem, hb]
    refine hKR1 _ ?_
    refine hK2 _ ?_
    refine awp_seq_k (fun K3 hK3 => ?_)
    refine awp_seq_k (fun K4 hK4 => ?_)
    refine awp_plain 1 (by kernel_rfl) rfl (fun g2 hg2 => ?_)
    simp only [go_sem]
    refine hK4 _ ?_
    refine awp_f rfl ?_
    refine awp_skip ?_
    refine hK3 _ ?_
    refine awp_seq_k (fun K5 hK5 => ?_)
    refine awp_ops (by kernel_rfl) rfl (fun g4 hg4 ops4 KR4 hops4 hKR4 => ?_)
    refine aops_eval 2 hops4 ?_
    simp only [go_sem]
    refine aops_pure hops4 rfl rfl rfl (tbSpecs_own p h x hx _ _) (CoL.refl _) ?_
    refine aops_last 5 hops4 ?_
    simp only [go_sem]
    refine hKR4 _ ?_
    refine hK5 _ ?_
    refine awp_seq_k (fun K6 hK6 => ?_)
    refine awp_seq_k (fun K7 hK7 => ?_)
    cases hi : instOf p x 2 with
    | true =>
      have hbase : baseOf p env x = spOf p x := by simp [baseOf, hb, hi]
      refine awp_plain 6 (by kernel_rfl) rfl (fun g5 hg5 => ?_)
      simp only [go_sem, Bool.not_true]
      refine hK7 _ ?_
      refine awp_f rfl ?_
      refine awp_skip ?_
      refine hK6 _ ?_
      refine awp_seq_k (fun K8 hK8 => ?_)
      refine awp_ops (by kernel_rfl) rfl (fun g7 hg7 ops7 KR7 hops7 hKR7 => ?_)
      refine aops_eval 1 hops7 ?_
      simp only [go_sem]
      refine aops_obj hops7 rfl rfl rfl (sortSi_calls (spOf p x) (spOf_sm h hx).1 (spOf_names p x) ⟨g4, 22, 1⟩ _ _) (CoL.refl _) (by simp [go_sem]) ?_
      refine aops_last 0 hops7 ?_
      simp only [go_sem]
      refine hKR7 _ ?_
      refine hK8 _ ?_
      refine awp_seq_k (fun K9 hK9 => ?_)
      refine awp_plain 2 (by kernel_rfl) rfl (fun g8 hg8 => ?_)
      simp only [go_sem]
      refine hK9 _ ?_
      refine awp_ret ?_
      refine ret_frz ⟨g4, 22, 1⟩ ?_
      simp only [go_sem]
      refine ends_ev rfl ?_
      simp only [go_sem]
      exact Co.of_eq (by simp [setOf, hbase])
    | false =>
      have hbase : baseOf p env x = mthsOf p x := by simp [baseOf, hb, hi]
      have hms := smMths h ((smTy_iff x).1 hx).2.2
      refine awp_plain 6 (by kernel_rfl) rfl (fun g5 hg5 => ?_)
      simp only [go_sem, Bool.not_false]
      refine hK7 _ ?_
      refine awp_t rfl ?_
      refine awp_ops (by kernel_rfl) rfl (fun g6 hg6 ops6 KR6 hops6 hKR6 => ?_)
      refine aops_eval 2 hops6 ?_
      simp only [go_sem]
      refine aops_pure hops6 rfl rfl rfl (tbMethods_own p h x hx _ _) (CoL.refl _) ?_
      refine aops_last 1 hops6 ?_
      simp only [go_sem]
      refine hKR6 _ ?_
      refine hK6 _ ?_
      refine awp_seq_k (fun K10 hK10 => ?_)
      refine awp_ops (by kernel_rfl) rfl (fun g7 hg7 ops7 KR7 hops7 hKR7 => ?_)
      refine aops_eval 1 hops7 ?_
      simp only [go_sem]
      refine aops_obj hops7 rfl rfl rfl (sortSi_calls (mthsOf p x) (by have := hms.1; omega) (mthsOf_names p x) ⟨g6, 33, 1⟩ _ _) (CoL.refl _) (by simp [go_sem]) ?_
      refine aops_last 0 hops7 ?_
      simp only [go_sem]
      refine hKR7 _ ?_
      refine hK10 _ ?_
      refine awp_seq_k (fun K11 hK11 => ?_)
      refine awp_plain 2 (by kernel_rfl) rfl (fun g8 hg8 => ?_)
      simp only [go_sem]
      refine hK11 _ ?_
      refine awp_ret ?_
      refine ret_frz ⟨g6, 33, 1⟩ ?_
      simp only [go_sem]
      refine ends_ev rfl ?_
      simp only [go_sem]
      exact Co.of_eq (by simp [setOf, hbase])
  | some b =>
    have hbs := hsm b hb
    have hbase : baseOf p env x = spOf p b := by simp [baseOf, hb]
    refine aops_pure hops1 rfl rfl rfl (hbo _ _) (CoL.refl _) ?_
    refine aops_last 6 hops1 ?_
    simp only [go_sem, hb]
    refine hKR1 _ ?_
    refine hK2 _ ?_
    refine awp_seq_k (fun K12 hK12 => ?_)
    refine awp_seq_k (fun K13 hK13 => ?_)
    refine awp_plain 1 (by kernel_rfl) rfl (fun g2 hg2 => ?_)
    simp only [go_sem]
    refine hK13 _ ?_
    refine awp_t rfl ?_
    refine awp_plain 2 (by kernel_rfl) rfl (fun g3 hg3 => ?_)
    simp only [go_sem]
    refine hK12 _ ?_
    refine awp_seq_k (fun K14 hK14 => ?_)
    refine awp_ops (by kernel_rfl) rfl (fun g4 hg4 ops4 KR4 hops4 hKR4 => ?_)
    refine aops_eval 2 hops4 ?_
    simp only [go_sem]
    refine aops_pure hops4 rfl rfl rfl (tbSpecs_own p h b hbs _ _) (CoL.refl _) ?_
    refine aops_last 5 hops4 ?_
    simp only [go_sem]
    refine hKR4 _ ?_
    refine hK14 _ ?_
    refine awp_seq_k (fun K15 hK15 => ?_)
    refine awp_seq_k (fun K16 hK16 => ?_)
    cases hi : instOf p b 2 with
    | true =>
      refine awp_plain 6 (by kernel_rfl) rfl (fun g5 hg5 => ?_)
      simp only [go_sem, Bool.not_true]
      refine hK16 _ ?_
      refine awp_f rfl ?_
      refine awp_skip ?_
      refine hK15 _ ?_
      refine awp_seq_k (fun K17 hK17 => ?_)
      refine awp_ops (by kernel_rfl) rfl (fun g7 hg7 ops7 KR7 hops7 hKR7 => ?_)
      refine aops_eval 1 hops7 ?_
      simp only [go_sem]
      refine aops_obj hops7 rfl rfl rfl (sortSi_calls (spOf p b) (spOf_sm h hbs).1 (spOf_names p b) ⟨g4, 22, 1⟩ _ _) (CoL.refl _) (by simp [go_sem]) ?_
      refine aops_last 0 hops7 ?_
      simp only [go_sem]
      refine hKR7 _ ?_
      refine hK17 _ ?_
      refine awp_seq_k (fun K18 hK18 => ?_)
      refine awp_plain 2 (by kernel_rfl) rfl (fun g8 hg8 => ?_)
      simp only [go_sem]
      refine hK18 _ ?_
      refine awp_ret ?_
      refine ret_frz ⟨g4, 22, 1⟩ ?_
      simp only [go_sem]
      refine ends_ev rfl ?_
      simp only [go_sem]
      exact Co.of_eq (by simp [setOf, hbase])
    | false =>
      refine awp_plain 6 (by kernel_rfl) rfl (fun g5 hg5 => ?_)
      simp only [go_sem, Bool.not_false, Bool.not_true]
      refine hK16 _ ?_
      refine awp_f rfl ?_
      refine awp_skip ?_
      refine hK15 _ ?_
      refine awp_seq_k (fun K19 hK19 => ?_)
      refine awp_ops (by kernel_rfl) rfl (fun g7 hg7 ops7 KR7 hops7 hKR7 => ?_)
      refine aops_eval 1 hops7 ?_
      simp only [go_sem]
      refine aops_obj hops7 rfl rfl rfl (sortSi_calls (spOf p b) (spOf_sm h hbs).1 (spOf_names p b) ⟨g4, 22, 1⟩ _ _) (CoL.refl _) (by simp [go_sem]) ?_
      refine aops_last 0 hops7 ?_
      simp only [go_sem]
      refine hKR7 _ ?_
      refine hK19 _ ?_
      refine awp_seq_k (fun K20 hK20 => ?_)
      refine awp_plain 2 (by kernel_rfl) rfl (fun g8 hg8 => ?_)
      simp only [go_sem]
      refine hK20 _ ?_
      refine awp_ret ?_
      refine ret_frz ⟨g4, 22, 1⟩ ?_
      simp only [go_sem]
      refine ends_ev rfl ?_
      simp only [go_sem]
      exact Co.of_eq (by simp [setOf, hbase])

/-! ## One signature by its name -/
def findSi (l : List Sig) (m : Str) : Option Nat := l.findIdx? fun s => decide (s.name = m)
theorem pickFun_calls (s : Sig) (m : Str) (g d : Nat) : ACalls E 42 [encSi s, .eptr [encS m]] [] g d (dB (decide (s.name = m))) [] := by
  refine acalls_of_awp (fn := Tryd.f42) (N := 8) Tryd.call42 Tryd.func42 rfl rfl (by simp) ?_
  simp only [go_sem]
  refine awp_seq_k (fun K1 hK1 => ?_)
  refine awp_plain 2 (by kernel_rfl) rfl (fun g0 hg0 => ?_)
  simp only [go_sem]
  refine hK1 _ ?_
  refine awp_seq_k (fun K2 hK2 => ?_)
  refine awp_plain 5 (by kernel_rfl) rfl (fun g1 hg1 => ?_)
  simp only [go_sem]
  refine hK2 _ ?_
  refine awp_ret ?_
  refine ends_ev rfl ?_
  simp only [go_sem]
  exact Co.refl _
theorem indexSi_calls (p : Sig → Bool) (l : List Sig) (f : Nat) (caps : List D) (hl : l.length ≤ 9223372036854775807) (hf : ∀ a ∈ l, ∀ g d, ACalls E f (encSi a :: caps) [] g d (dB (p a)) []) (g d : Nat) :
    ACalls E 41 [slSi l, .func (.func f) [] caps] [] g d (dI (optI (l.findIdx? p))) [] := by
  refine acalls_of_awp (fn := Tryd.f41) (N := 19) Tryd.call41 Tryd.func41 rfl rfl (by simp) ?_
  simp only [go_sem]
  refine awp_seq_k (fun K1 hK1 => ?_)
  refine awp_plain 1 (by kernel_rfl) rfl (fun g0 hg0 => ?_)
  simp only [go_sem]
  refine hK1 _ ?_
  refine awp_seq_k (fun K2 hK2 => ?_)
  refine awp_seq_k (fun K3 hK3 => ?_)
  refine awp_plain 3 (by kernel_rfl) rfl (fun g1 hg1 => ?_)
  simp only [go_sem]
  refine hK3 _ ?_
  refine awp_block ?_
  refine awp_loop (fun m s => ∃ k, k ≤ l.length ∧ m = l.length - k ∧ l.findIdx? p = ((l.drop k).findIdx? p).map (· + k) ∧
      Le { env := [(0, slSi l), (1, .func (.func f) [] caps), (6, slSi l), (7, dN l.length), (8, dN k)], σ := [] } s) l.length ?_ ?_
  · refine ⟨0, Nat.zero_le _, rfl, by simp, le_of ?_⟩
    simp only [go_sem]
    trivial
  · rintro m s ⟨k, hk, rfl, hfi, hle⟩
    refine awp_keep hle ?_
    clear hle
    by_cases h : k < l.length
    · rw [findD _ _ _ h] at hfi
      refine awp_seq_k (fun K4 hK4 => ?_)
      refine awp_plain 1 (by kernel_rfl) rfl (fun g2 hg2 => ?_)
      simp only [go_sem, h]
      refine hK4 _ ?_
      refine awp_seq_k (fun K5 hK5 => ?_)
      refine awp_t rfl ?_
      refine awp_skip ?_
      refine hK5 _ ?_
      refine awp_seq_k (fun K6 hK6 => ?_)
      refine awp_block ?_
      refine awp_seq_k (fun K7 hK7 => ?_)
      refine awp_plain 2 (by kernel_rfl) rfl (fun g3 hg3 => ?_)
      simp only [go_sem]
      refine hK7 _ ?_
      refine awp_seq_k (fun K8 hK8 => ?_)
      refine awp_ops (by kernel_rfl) rfl (fun g4 hg4 ops4 KR4 hops4 hKR4 => ?_)
      refine aops_eval 5 hops4 ?_
      simp only [go_sem, getM h]
      refine aops_pure hops4 rfl rfl rfl (hf _ (List.getElem_mem h) _ _) (CoL.refl _) ?_
      refine aops_last 0 hops4 ?_
      simp only [go_sem]
      refine hKR4 _ ?_
      refine hK8 _ ?_
      cases hp : p l[k] with
      | true =>
        rw [if_pos hp] at hfi
        refine awp_t rfl ?_
        refine awp_seq_k (fun K9 hK9 => ?_)
        refine awp_plain 2 (by kernel_rfl) rfl (fun g5 hg5 => ?_)
        simp only [go_sem]
        refine hK9 _ ?_
        refine awp_ret ?_
        rw [hfi]
        refine ends_ev rfl ?_
        simp only [go_sem]
        exact Co.of_eq (by simp [optI])
      | false =>
        rw [if_neg (by simp [hp])] at hfi
        refine awp_f rfl ?_
        refine awp_skip ?_
        refine hK6 _ ?_
        refine awp_plain 2 (by kernel_rfl) rfl (fun g6 hg6 => ?_)
        simp only [go_sem]
        try simp (disch := omega) only [wrapN]
        refine ⟨_, ?_, k + 1, h, rfl, ?_, le_of ?_⟩
        · omega
        · rw [hfi]; simp [Option.map_map, Function.comp_def, Nat.add_comm, Nat.add_left_comm]
        simp only [go_sem]
        omega
    · rw [dropN l k (by omega)] at hfi
      refine awp_seq_k (fun K10 hK10 => ?_)
      refine awp_plain 1 (by kernel_rfl) rfl (fun g2 hg2 => ?_)
      simp only [go_sem, h]
      refine hK10 _ ?_
      refine awp_seq_k (fun K11 hK11 => ?_)
      refine awp_f rfl ?_
      refine awp_exit ?_
      refine hK2 _ ?_
      refine awp_seq_k (fun K12 hK12 => ?_)
      refine awp_plain 1 (by kernel_rfl) rfl (fun g7 hg7 => ?_)
      simp only [go_sem]
      refine hK12 _ ?_
      refine awp_ret ?_
      rw [hfi]
      refine ends_ev rfl ?_
      simp only [go_sem]
      exact Co.of_eq (by simp [optI])

theorem pick_calls (l : List Sig) (hl : l.length ≤ 1000000) (m : Str) (g d : Nat) :
    ACalls E 22 [slSi l, encS m] [] g d (.tup [encSi (((findSi l m).bind fun i => l[i]?).getD zeroSi), dB (findSi l m).isSome]) [] := by
  refine acalls_of_awp (fn := Tryd.f22) (N := 17) Tryd.call22 Tryd.func22 rfl rfl (by simp) ?_
  simp only [go_sem]
  refine awp_seq_k (fun K1 hK1 => ?_)
  refine awp_plain 3 (by kernel_rfl) rfl (fun g0 hg0 => ?_)
  simp only [go_sem]
  refine hK1 _ ?_
  refine awp_seq_k (fun K2 hK2 => ?_)
  refine awp_still ⟨g0, 3, 0⟩ ?_
  simp only [go_sem]
  refine awp_ops (by kernel_rfl) rfl (fun g1 hg1 ops1 KR1 hops1 hKR1 => ?_)
  refine aops_eval 2 hops1 ?_
  simp only [go_sem]
  refine aops_pure hops1 rfl rfl rfl (indexSi_calls (fun s => decide (s.name = m)) l _ [.eptr [encS m]] (by omega) (fun a _ g d => pickFun_calls a m g d) _ _) (CoL.refl _) ?_
  refine aops_last 1 hops1 ?_
  simp only [go_sem]
  refine hKR1 _ ?_
  refine hK2 _ ?_
  refine awp_seq_k (fun K3 hK3 => ?_)
  refine awp_seq_k (fun K4 hK4 => ?_)
  cases hf : findSi l m with
  | none =>
    have h0 : ((-1 : Int) < 0) = True := by simp
    have hf' : l.findIdx? (fun s => decide (s.name = m)) = none := hf
    refine awp_plain 2 (by kernel_rfl) rfl (fun g2 hg2 => ?_)
    simp only [go_sem, hf', optI, h0, decide_true]
    refine hK4 _ ?_
    refine awp_t rfl ?_
    refine awp_seq_k (fun K5 hK5 => ?_)
    refine awp_plain 3 (by kernel_rfl) rfl (fun g3 hg3 => ?_)
    simp only [go_sem]
    refine hK5 _ ?_
    refine awp_ret ?_
    rw [hf]
    refine ends_ev rfl ?_
    simp only [go_sem]
    exact Co.tup (.cons coZeroSi (.cons (.refl _) .nil))
  | some i =>
    have hf' : l.findIdx? (fun s => decide (s.name = m)) = some i := hf
    obtain ⟨hi, _⟩ := List.findIdx?_eq_some_iff_getElem.1 hf'
    have h0 : ¬ (i : Int) < 0 := by omega
    refine awp_plain 2 (by kernel_rfl) rfl (fun g2 hg2 => ?_)
    simp only [go_sem, hf', optI, h0, decide_false]
    refine hK4 _ ?_
    refine awp_f rfl ?_
    refine awp_skip ?_
    refine hK3 _ ?_
    refine awp_seq_k (fun K6 hK6 => ?_)
    refine awp_plain 6 (by kernel_rfl) rfl (fun g4 hg4 => ?_)
    simp only [go_sem, getM hi, siC, encSi]
    refine hK6 _ ?_
    refine awp_ret ?_
    rw [hf]
    refine ends_ev rfl ?_
    simp only [go_sem, siC, encSi]
    exact Co.of_eq (by simp [hi])
end Go.Proofs.T

