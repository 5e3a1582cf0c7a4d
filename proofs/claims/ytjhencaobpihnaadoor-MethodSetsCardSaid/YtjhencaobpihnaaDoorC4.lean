/- A part of the proof, under no conditions of its own: C4. -/
import Derived.Test.YtjhencaobpihnaaDoorC3
namespace Go.Proofs.T
open Go Go.Ab Go.RowKit

/-! ## Missing names -/

def getSi (l : List Sig) (m : Str) : Sig := ((findSi l m).bind fun i => l[i]?).getD zeroSi
def covered (a : List Sig) (s : Sig) : Bool := (findSi a s.name).isSome && alike (getSi a s.name) s
def missL (a b : List Sig) : List Str := (b.filter fun s => !covered a s).map (·.name)
theorem missL_succ (a b : List Sig) (k : Nat) (h : k < b.length) : missL a (b.take (k + 1)) = if covered a b[k] = true then missL a (b.take k) else missL a (b.take k) ++ [b[k].name] := by
  unfold missL
  rw [List.take_add_one, List.getElem?_eq_getElem h, List.filter_append, List.map_append]
  cases hc : covered a b[k] <;> simp [hc]
theorem missL_len (a b : List Sig) : (missL a b).length ≤ b.length := by
  unfold missL
  rw [List.length_map]
  exact List.length_filter_le _ _
theorem smSi_zero : smSi zeroSi := smDe_zero.2.2.2.2.2.2.1
theorem getSi_sm {l : List Sig} (h : ∀ s ∈ l, smSi s) (m : Str) : smSi (getSi l m) := by
  unfold getSi
  cases hf : findSi l m with
  | none => exact smSi_zero
  | some i =>
    obtain ⟨hi, _⟩ := List.findIdx?_eq_some_iff_getElem.1 hf
    simp only [Option.bind_some, List.getElem?_eq_getElem hi, Option.getD_some]
    exact h _ (List.getElem_mem hi)

theorem find12_calls (_ : Nat) (p : Prg) (h : smPr p) (env : List Formal) (he : env.length ≤ 1000000) (he2 : ∀ f ∈ env, smFm f) (x : Ty) (hx : smTy x) (m : Str) (g d : Nat) :
    ACalls E 12 [encTb p, slFm env, encTy x, encS m] [] g d (.tup [encSi (getSi (setOf p env x) m), dB (findSi (setOf p env x) m).isSome]) [] := by
  have hs := setOf_sm h he2 hx
  refine acalls_of_awp (fn := Tryd.f12) (N := 18) Tryd.call12 Tryd.func12 rfl rfl (by simp) ?_
  simp only [go_sem]
  refine awp_seq_k (fun K1 hK1 => ?_)
  refine awp_plain 3 (by kernel_rfl) rfl (fun g0 hg0 => ?_)
  simp only [go_sem]
  refine hK1 _ ?_
  refine awp_seq_k (fun K2 hK2 => ?_)
  refine awp_ops (by kernel_rfl) rfl (fun g1 hg1 ops1 KR1 hops1 hKR1 => ?_)
  refine aops_eval 3 hops1 ?_
  simp only [go_sem]
  refine aops_pure hops1 rfl rfl rfl (set_calls p h env he he2 x hx _ _) (CoL.refl _) ?_
  refine aops_eval 1 hops1 ?_
  simp only [go_sem]
  refine aops_pure hops1 rfl rfl rfl (pick_calls _ hs.1 m _ _) (CoL.refl _) ?_
  refine aops_last 4 hops1 ?_
  simp only [go_sem, siC, encSi]
  refine hKR1 _ ?_
  refine hK2 _ ?_
  refine awp_ret ?_
  refine ends_ev rfl ?_
  simp only [go_sem, siC, encSi]
  exact Co.refl _

theorem missing_calls (a b : List Sig) (ha : a.length ≤ 1000000) (ha2 : ∀ s ∈ a, smSi s) (hb : b.length ≤ 1000000) (hb2 : ∀ s ∈ b, smSi s) (g d : Nat) :
    ACalls E 11 [slSi a, slSi b] [] g d (slS (missL a b)) [] := by
  refine acalls_of_awp (fn := Tryd.f11) (N := 38) Tryd.call11 Tryd.func11 rfl rfl (by simp) ?_
  simp only [go_sem]
  refine awp_seq_k (fun K1 hK1 => ?_)
  refine awp_plain 1 (by kernel_rfl) rfl (fun g0 hg0 => ?_)
  simp only [go_sem]
  refine hK1 _ ?_
  refine awp_seq_k (fun K2 hK2 => ?_)
  refine awp_plain 1 (by kernel_rfl) rfl (fun g1 hg1 => ?_)
  simp only [go_sem]
  refine hK2 _ ?_
  refine awp_seq_k (fun K3 hK3 => ?_)
  refine awp_seq_k (fun K4 hK4 => ?_)
  refine awp_plain 3 (by kernel_rfl) rfl (fun g2 hg2 => ?_)
  simp only [go_sem]
  refine hK4 _ ?_
  refine awp_block ?_
  refine awp_nil 5 9 1 rfl fun gn hgn => ?_
  refine awp_loop (fun m s => ∃ k a' i n, k ≤ b.length ∧ m = b.length - k ∧ n = (missL a (b.take k)).length ∧
      Le { env := [(0, slSi a), (10, slSi b), (11, dN b.length), (12, dN k), (5, .own ⟨a', i, 0⟩ n)], σ := [(⟨a', i, 0⟩, .arr 9 1 ((missL a (b.take k)).map encS))] } s) b.length ?_ ?_
  · refine ⟨0, gn, 0, 0, Nat.zero_le _, rfl, rfl, le_of ?_⟩
    simp only [go_sem, missL, List.take_zero, List.filter_nil, List.map_nil]
    trivial
  · rintro m s ⟨k, a', i, n, hk, rfl, hn, hle⟩
    refine awp_keep hle ?_
    clear hle
    by_cases hlt : k < b.length
    · have hss := missL_succ a b k hlt
      have hml := missL_len a (b.take k)
      have hmk : (b.take k).length ≤ k := by rw [List.length_take]; omega
      have hbk := hb2 _ (List.getElem_mem hlt)
      refine awp_seq_k (fun K5 hK5 => ?_)
      refine awp_plain 1 (by kernel_rfl) rfl (fun g3 hg3 => ?_)
      simp only [go_sem, hlt]
      refine hK5 _ ?_
      refine awp_seq_k (fun K6 hK6 => ?_)
      refine awp_t rfl ?_
      refine awp_skip ?_
      refine hK6 _ ?_
      refine awp_seq_k (fun K7 hK7 => ?_)
      refine awp_block ?_
      refine awp_seq_k (fun K8 hK8 => ?_)
      refine awp_plain 4 (by kernel_rfl) rfl (fun g4 hg4 => ?_)
      simp only [go_sem, getM hlt, siC, encSi]
      refine hK8 _ ?_
      refine awp_seq_k (fun K9 hK9 => ?_)
      refine awp_ops (by kernel_rfl) rfl (fun g5 hg5 ops5 KR5 hops5 hKR5 => ?_)
      refine aops_eval 3 hops5 ?_
      simp only [go_sem]
      refine aops_pure hops5 rfl rfl rfl (pick_calls a ha b[k].name _ _) (CoL.refl _) ?_
      refine aops_last 6 hops5 ?_
      simp only [go_sem, siC, encSi]
      refine hKR5 _ ?_
      refine hK9 _ ?_
      refine awp_seq_k (fun K10 hK10 => ?_)
      have hn4_a' : g4 ≠ a' := fresh_g hg4 i 0 (by simp [go_sem])
      have hn5_a' : g5 ≠ a' := fresh_g hg5 i 0 (by simp [go_sem, hn4_a'])
      cases hf : (findSi a b[k].name).isSome with
      | false =>
        have hcv : covered a b[k] = false := by simp [covered, hf]
        rw [hcv, if_neg (by simp)] at hss
        refine awp_plain 8 (by kernel_rfl) rfl (fun g6 hg6 => ?_)
        simp only [go_sem, Bool.not_false]
        refine hK10 _ ?_
        refine awp_t rfl ?_
        refine awp_ops (by kernel_rfl) rfl (fun g7 hg7 ops7 KR7 hops7 hKR7 => ?_)
        refine aops_eval 4 hops7 ?_
        simp only [go_sem, Ne.symm hn4_a']
        refine aops_app hops7 rfl rfl rfl rfl rfl es44 sz9 by9 ze9 rfl (by decide) ?_
        simp only [go_sem, hn4_a', hn5_a']
        first | refine ⟨⟨by omega, by omega⟩, ?_⟩ | skip
        refine aops_last 1 hops7 ?_
        simp only [go_sem]
        refine hKR7 _ ?_
        refine hK7 _ ?_
        refine awp_plain 2 (by kernel_rfl) rfl (fun g8 hg8 => ?_)
        simp only [go_sem]
        try simp (disch := omega) only [wrapN]
        refine ⟨_, ?_, k + 1, g7, 35, n + 1, hlt, rfl, by rw [hss, List.length_append, hn]; rfl, le_of ?_⟩
        · omega
        simp only [go_sem, hss, List.map_append, List.map_cons, List.map_nil, encS]
        first | exact ⟨⟨by omega, hn.symm⟩, rfl⟩ | exact ⟨by omega, hn.symm⟩ | (constructor <;> first | omega | rfl) | omega
      | true =>
        cases hal : alike (getSi a b[k].name) b[k] with
        | false =>
          have hcv : covered a b[k] = false := by simp [covered, hal]
          rw [hcv, if_neg (by simp)] at hss
          refine awp_ops (by kernel_rfl) rfl (fun g6 hg6 ops6 KR6 hops6 hKR6 => ?_)
          refine aops_eval 5 hops6 ?_
          simp only [go_sem, Bool.not_true, Ne.symm hn4_a', Ne.symm hn5_a']
          refine aops_pure hops6 rfl rfl rfl (alike_calls (getSi a b[k].name) b[k] (getSi_sm ha2 _) hbk _ _) (CoL.refl _) ?_
          refine aops_last 2 hops6 ?_
          simp only [go_sem, hal, Bool.not_false]
          refine hKR6 _ ?_
          refine hK10 _ ?_
          refine awp_t rfl ?_
          refine awp_ops (by kernel_rfl) rfl (fun g7 hg7 ops7 KR7 hops7 hKR7 => ?_)
          refine aops_eval 4 hops7 ?_
          simp only [go_sem, Ne.symm hn4_a']
          refine aops_app hops7 rfl rfl rfl rfl rfl es44 sz9 by9 ze9 rfl (by decide) ?_
          simp only [go_sem, hn4_a', hn5_a']
          first | refine ⟨⟨by omega, by omega⟩, ?_⟩ | skip
          refine aops_last 1 hops7 ?_
          simp only [go_sem]
          refine hKR7 _ ?_
          refine hK7 _ ?_
          refine awp_plain 2 (by kernel_rfl) rfl (fun g8 hg8 => ?_)
          simp only [go_sem]
          try simp (disch := omega) only [wrapN]
          refine ⟨_, ?_, k + 1, g7, 35, n + 1, hlt, rfl, by rw [hss, List.length_append, hn]; rfl, le_of ?_⟩
          · omega
          simp only [go_sem, hss, List.map_append, List.map_cons, List.map_nil, encS]
          first | exact ⟨⟨by omega, hn.symm⟩, rfl⟩ | exact ⟨by omega, hn.symm⟩ | (constructor <;> first | omega | rfl) | omega
        | true =>
          have hcv : covered a b[k] = true := by simp [covered, hal, hf]
          rw [hcv, if_pos rfl] at hss
          refine awp_ops (by kernel_rfl) rfl (fun g6 hg6 ops6 KR6 hops6 hKR6 => ?_)
          refine aops_eval 5 hops6 ?_
          simp only [go_sem, Bool.not_true, Ne.symm hn4_a', Ne.symm hn5_a']
          refine aops_pure hops6 rfl rfl rfl (alike_calls (getSi a b[k].name) b[k] (getSi_sm ha2 _) hbk _ _) (CoL.refl _) ?_
          refine aops_last 2 hops6 ?_
          simp only [go_sem, hal, Bool.not_true]
          refine hKR6 _ ?_
          refine hK10 _ ?_
          refine awp_f rfl ?_
          refine awp_skip ?_
          refine hK7 _ ?_
          refine awp_plain 2 (by kernel_rfl) rfl (fun g8 hg8 => ?_)
          simp only [go_sem]
          try simp (disch := omega) only [wrapN]
          refine ⟨_, ?_, k + 1, a', i, n, hlt, rfl, by rw [hss]; exact hn, le_of ?_⟩
          · omega
          simp only [go_sem, hss, hn4_a', hn5_a']
          trivial
    · refine awp_seq_k (fun K11 hK11 => ?_)
      refine awp_plain 1 (by kernel_rfl) rfl (fun g3 hg3 => ?_)
      simp only [go_sem, hlt]
      refine hK11 _ ?_
      refine awp_seq_k (fun K12 hK12 => ?_)
      refine awp_f rfl ?_
      refine awp_exit ?_
      refine hK3 _ ?_
      refine awp_seq_k (fun K13 hK13 => ?_)
      have : k = b.length := by omega
      subst this
      refine awp_plain 2 (by kernel_rfl) rfl (fun g9 hg9 => ?_)
      simp only [go_sem]
      refine hK13 _ ?_
      refine awp_ret ?_
      refine ret_frz ⟨a', i, 0⟩ ?_
      simp only [go_sem]
      refine ends_ev rfl ?_
      simp only [go_sem]
      exact Co.of_eq (by simp [])

theorem covers_calls (a b : List Sig) (ha : a.length ≤ 1000000) (ha2 : ∀ s ∈ a, smSi s) (hb : b.length ≤ 1000000) (hb2 : ∀ s ∈ b, smSi s) (g d : Nat) :
    ACalls E 10 [slSi a, slSi b] [] g d (dB (decide (missL a b = []))) [] := by
  have e : decide (missL a b = []) = decide (((missL a b).length : Int) = 0) := by
    rw [Bool.eq_iff_iff]
    simp
  rw [e]
  refine acalls_of_awp (fn := Tryd.f10) (N := 10) Tryd.call10 Tryd.func10 rfl rfl (by simp) ?_
  simp only [go_sem]
  refine awp_seq_k (fun K1 hK1 => ?_)
  refine awp_plain 1 (by kernel_rfl) rfl (fun g0 hg0 => ?_)
  simp only [go_sem]
  refine hK1 _ ?_
  refine awp_seq_k (fun K2 hK2 => ?_)
  refine awp_ops (by kernel_rfl) rfl (fun g1 hg1 ops1 KR1 hops1 hKR1 => ?_)
  refine aops_eval 2 hops1 ?_
  simp only [go_sem]
  refine aops_pure hops1 rfl rfl rfl (missing_calls a b ha ha2 hb hb2 _ _) (CoL.refl _) ?_
  refine aops_last 3 hops1 ?_
  simp only [go_sem]
  refine hKR1 _ ?_
  refine hK2 _ ?_
  refine awp_ret ?_
  refine ends_ev rfl ?_
  simp only [go_sem]
  exact Co.refl _
end Go.Proofs.T

