/- A part of the proof, under no conditions of its own: A15. -/
import Derived.Test.YtkddeobmfhchfaaDoorA14
namespace Go.Proofs.T
open Go Go.Ab Go.RowKit

/-! ## Counting -/

/-- Counting goes on while it is small. -/
def cnt {α : Type} (f : α → Nat → Nat) : List α → Nat → Nat
  | [], n => n
  | a :: r, n => if n ≤ 2000 then cnt f r (f a n) else n
theorem cnt_stop {α : Type} {f : α → Nat → Nat} {l : List α} {n : Nat} (h : ¬ n ≤ 2000) : cnt f l n = n := by cases l <;> simp [cnt, h]
theorem cnt_bound {α : Type} {f : α → Nat → Nat} (M : Nat) : ∀ (l : List α) (n : Nat), (∀ a ∈ l, ∀ n, n ≤ 2000 → f a n ≤ M) → cnt f l n ≤ Nat.max n M
  | [], n, _ => Nat.le_max_left ..
  | a :: r, n, h => by
    simp only [cnt]
    split
    · rename_i hn
      refine Nat.le_trans (cnt_bound M r (f a n) fun x hx => h x (List.mem_cons_of_mem _ hx)) ?_
      exact Nat.max_le.2 ⟨Nat.le_trans (h a List.mem_cons_self n hn) (Nat.le_max_right ..), Nat.le_max_right ..⟩
    · exact Nat.le_max_left ..
theorem cnt_step {α : Type} {f : α → Nat → Nat} {l : List α} {k n : Nat} (h : k < l.length) (hn : n ≤ 2000) : cnt f (l.drop k) n = cnt f (l.drop (k + 1)) (f l[k] n) := by
  rw [dropC _ _ h]; simp only [cnt]; rw [if_pos hn]
theorem countL_cnt : ∀ (l : List Ty) (n : Nat), countL l n = cnt count l n
  | [], n => by simp [countL, cnt]
  | t :: r, n => by simp only [countL, cnt, countL_cnt r]

def cntPa (p : Param) (n : Nat) : Nat := count p.type (n + 1 + p.name.size / 50)
def cntFm (p : Formal) (n : Nat) : Nat := count p.bound (n + 1 + p.name.size / 50)
def cntSi (s : Sig) (n : Nat) : Nat := count s.result (cnt cntPa s.params (cnt cntFm s.formals (n + s.name.size / 50)))

theorem maxle {a b c : Nat} (h1 : a ≤ c) (h2 : b ≤ c) : Nat.max a b ≤ c := Nat.max_le.2 ⟨h1, h2⟩
theorem lemax (a b c : Nat) (h : c ≤ Nat.max a b) : c ≤ a ∨ c ≤ b := by
  rcases Nat.le_total a b with h1 | h1
  · right; rwa [show Nat.max a b = b from Nat.max_eq_right h1] at h
  · left; rwa [show Nat.max a b = a from Nat.max_eq_left h1] at h

theorem count_le (t : Ty) (n : Nat) (h : okTy t) : count t n ≤ n + big ∨ count t n ≤ 2000 + big := by
  have := count_bound t n h
  rcases Nat.le_total n 2000 with h1 | h1
  · right; rwa [show Nat.max n 2000 = 2000 from Nat.max_eq_right h1] at this
  · left; rwa [show Nat.max n 2000 = n from Nat.max_eq_left h1] at this
theorem cnt_le {α : Type} {f : α → Nat → Nat} (M : Nat) (l : List α) (n : Nat) (h : ∀ a ∈ l, ∀ n, n ≤ 2000 → f a n ≤ M) : cnt f l n ≤ n ∨ cnt f l n ≤ M := lemax _ _ _ (cnt_bound M l n h)
theorem cntPa_le (p : Param) (h : okPa p) (n : Nat) (hn : n ≤ 2000) : cntPa p n ≤ 3 * big := by
  have h1 := h.1
  have := count_le p.type (n + 1 + p.name.size / 50) h.2
  unfold cntPa
  unfold big at *
  omega
theorem cntFm_le (p : Formal) (h : okFm p) (n : Nat) (hn : n ≤ 2000) : cntFm p n ≤ 3 * big := by
  have h1 := h.1
  have := count_le p.bound (n + 1 + p.name.size / 50) h.2
  unfold cntFm
  unfold big at *
  omega
theorem cntSi_le (s : Sig) (h : okSi s) (n : Nat) : cntSi s n ≤ n + 6 * big := by
  obtain ⟨h1, ⟨h2, h3⟩, ⟨h4, h5⟩, h6⟩ := h
  have a1 := cnt_le (3 * big) s.formals (n + s.name.size / 50) (fun a ha n hn => cntFm_le a (h3 a ha) n hn)
  have a2 := cnt_le (3 * big) s.params (cnt cntFm s.formals (n + s.name.size / 50)) (fun a ha n hn => cntPa_le a (h5 a ha) n hn)
  have a3 := count_le s.result (cnt cntPa s.params (cnt cntFm s.formals (n + s.name.size / 50))) h6
  unfold cntSi
  unfold big at *
  omega


theorem cntPa_calls (l : List Param) (n : Nat) (hl : l.length ≤ 9223372036854775807) (hl2 : ∀ a ∈ l, okPa a) (hn : n ≤ 3000000000000000000) (g d : Nat) : ACalls E 53 [slPa l, dN n] [] g d (dN (cnt cntPa l n)) [] := by
  have hbig : big = 184467440737097518 := rfl
  refine acalls_of_awp (fn := Tryd.f53) (N := 33) Tryd.call53 Tryd.func53 rfl rfl (by simp) ?_
  simp only [go_sem]
  refine awp_seq_k (fun K1 hK1 => ?_)
  refine awp_plain 1 (by kernel_rfl) rfl (fun g0 hg0 => ?_)
  simp only [go_sem]
  refine hK1 _ ?_
  refine awp_seq_k (fun K2 hK2 => ?_)
  refine awp_seq_k (fun K3 hK3 => ?_)
  refine awp_plain 1 (by kernel_rfl) rfl (fun g1 hg1 => ?_)
  simp only [go_sem]
  refine hK3 _ ?_
  refine awp_block ?_
  refine awp_loop (fun m s => ∃ k n', k ≤ l.length ∧ m = l.length - k ∧ n' ≤ n + 3 * big ∧ cnt cntPa (l.drop k) n' = cnt cntPa l n ∧
      Le { env := [(0, slPa l), (1, dN n'), (5, dN k)], σ := [] } s) l.length ?_ ?_
  · refine ⟨0, n, Nat.zero_le _, rfl, by omega, rfl, le_of ?_⟩
    simp only [go_sem]
    trivial
  · rintro m s ⟨k, n', hk, rfl, hn', hc, hle⟩
    refine awp_keep hle ?_
    clear hle
    by_cases hlt : k < l.length
    · have g1 := getM (f := encPa) hlt
      by_cases hle : n' ≤ 2000
      · have hle' : (n' : Int) ≤ 2000 := by omega
        have h1 := (hl2 _ (List.getElem_mem hlt)).1
        have h3 := cntPa_le _ (hl2 _ (List.getElem_mem hlt)) n' hle
        refine awp_seq_k (fun K4 hK4 => ?_)
        refine awp_seq_k (fun K5 hK5 => ?_)
        refine awp_plain 8 (by kernel_rfl) rfl (fun g2 hg2 => ?_)
        simp only [go_sem, hle', hlt]
        refine hK5 _ ?_
        refine awp_t rfl ?_
        refine awp_skip ?_
        refine hK4 _ ?_
        refine awp_seq_k (fun K6 hK6 => ?_)
        refine awp_block ?_
        refine awp_any 16 (by kernel_rfl) (by kernel_rfl) rfl (fun g4 hg4 ops4 KR4 hops4 hKR4 => ?_)
        refine qrun_eval 15 hops4 ?_
        simp only [go_sem, g1]
        try simp (disch := omega) only [wrapN, Int.tdiv_eq_ediv_of_nonneg]
        refine qrun_pure hops4 rfl rfl rfl (count_calls _ (hl2 _ (List.getElem_mem hlt)).2 (n' + 1 + l[k].name.size / 50) _ _ (by omega)) (CoL.refl _) rfl ?_
        refine qrun_last 0 hops4 ?_
        simp only [go_sem]
        refine aops_last 1 hops4 ?_
        simp only [go_sem]
        refine hKR4 _ ?_
        refine hK6 _ ?_
        refine awp_plain 3 (by kernel_rfl) rfl (fun g3 hg3 => ?_)
        simp only [go_sem]
        try simp (disch := omega) only [wrapN]
        rw [cnt_step hlt hle] at hc
        refine ⟨_, ?_, k + 1, cntPa l[k] n', hlt, rfl, by omega, hc, le_of ?_⟩
        · omega
        simp only [go_sem, cntPa]
        omega
      · have hle' : ¬ (n' : Int) ≤ 2000 := by omega
        refine awp_seq_k (fun K7 hK7 => ?_)
        refine awp_seq_k (fun K8 hK8 => ?_)
        refine awp_plain 8 (by kernel_rfl) rfl (fun g2 hg2 => ?_)
        simp only [go_sem, hle', hlt]
        refine hK8 _ ?_
        rw [cnt_stop hle] at hc
        subst hc
        refine awp_f rfl ?_
        refine awp_exit ?_
        refine hK2 _ ?_
        refine awp_seq_k (fun K9 hK9 => ?_)
        refine awp_plain 2 (by kernel_rfl) rfl (fun g5 hg5 => ?_)
        simp only [go_sem]
        refine hK9 _ ?_
        refine awp_ret ?_
        refine ends_ev rfl ?_
        simp only [go_sem]
        exact Co.refl _
    · refine awp_seq_k (fun K10 hK10 => ?_)
      refine awp_seq_k (fun K11 hK11 => ?_)
      refine awp_plain 8 (by kernel_rfl) rfl (fun g2 hg2 => ?_)
      simp only [go_sem, hlt]
      refine hK11 _ ?_
      rw [dropN _ _ (by omega)] at hc
      simp only [cnt] at hc
      subst hc
      refine awp_f rfl ?_
      refine awp_exit ?_
      refine hK2 _ ?_
      refine awp_seq_k (fun K12 hK12 => ?_)
      refine awp_plain 2 (by kernel_rfl) rfl (fun g5 hg5 => ?_)
      simp only [go_sem]
      refine hK12 _ ?_
      refine awp_ret ?_
      refine ends_ev rfl ?_
      simp only [go_sem]
      exact Co.refl _

theorem cntFm_calls (l : List Formal) (n : Nat) (hl : l.length ≤ 9223372036854775807) (hl2 : ∀ a ∈ l, okFm a) (hn : n ≤ 3000000000000000000) (g d : Nat) : ACalls E 54 [slFm l, dN n] [] g d (dN (cnt cntFm l n)) [] := by
  have hbig : big = 184467440737097518 := rfl
  refine acalls_of_awp (fn := Tryd.f54) (N := 33) Tryd.call54 Tryd.func54 rfl rfl (by simp) ?_
  simp only [go_sem]
  refine awp_seq_k (fun K1 hK1 => ?_)
  refine awp_plain 1 (by kernel_rfl) rfl (fun g0 hg0 => ?_)
  simp only [go_sem]
  refine hK1 _ ?_
  refine awp_seq_k (fun K2 hK2 => ?_)
  refine awp_seq_k (fun K3 hK3 => ?_)
  refine awp_plain 1 (by kernel_rfl) rfl (fun g1 hg1 => ?_)
  simp only [go_sem]
  refine hK3 _ ?_
  refine awp_block ?_
  refine awp_loop (fun m s => ∃ k n', k ≤ l.length ∧ m = l.length - k ∧ n' ≤ n + 3 * big ∧ cnt cntFm (l.drop k) n' = cnt cntFm l n ∧
      Le { env := [(0, slFm l), (1, dN n'), (5, dN k)], σ := [] } s) l.length ?_ ?_
  · refine ⟨0, n, Nat.zero_le _, rfl, by omega, rfl, le_of ?_⟩
    simp only [go_sem]
    trivial
  · rintro m s ⟨k, n', hk, rfl, hn', hc, hle⟩
    refine awp_keep hle ?_
    clear hle
    by_cases hlt : k < l.length
    · have g1 := getM (f := encFm) hlt
      by_cases hle : n' ≤ 2000
      · have hle' : (n' : Int) ≤ 2000 := by omega
        have h1 := (hl2 _ (List.getElem_mem hlt)).1
        have h3 := cntFm_le _ (hl2 _ (List.getElem_mem hlt)) n' hle
        refine awp_seq_k (fun K4 hK4 => ?_)
        refine awp_seq_k (fun K5 hK5 => ?_)
        refine awp_plain 8 (by kernel_rfl) rfl (fun g2 hg2 => ?_)
        simp only [go_sem, hle', hlt]
        refine hK5 _ ?_
        refine awp_t rfl ?_
        refine awp_skip ?_
        refine hK4 _ ?_
        refine awp_seq_k (fun K6 hK6 => ?_)
        refine awp_block ?_
        refine awp_any 16 (by kernel_rfl) (by kernel_rfl) rfl (fun g4 hg4 ops4 KR4 hops4 hKR4 => ?_)
        refine qrun_eval 15 hops4 ?_
        simp only [go_sem, g1]
        try simp (disch := omega) only [wrapN, Int.tdiv_eq_ediv_of_nonneg]
        refine qrun_pure hops4 rfl rfl rfl (count_calls _ (hl2 _ (List.getElem_mem hlt)).2 (n' + 1 + l[k].name.size / 50) _ _ (by omega)) (CoL.refl _) rfl ?_
        refine qrun_last 0 hops4 ?_
        simp only [go_sem]
        refine aops_last 1 hops4 ?_
        simp only [go_sem]
        refine hKR4 _ ?_
        refine hK6 _ ?_
        refine awp_plain 3 (by kernel_rfl) rfl (fun g3 hg3 => ?_)
        simp only [go_sem]
        try simp (disch := omega) only [wrapN]
        rw [cnt_step hlt hle] at hc
        refine ⟨_, ?_, k + 1, cntFm l[k] n', hlt, rfl, by omega, hc, le_of ?_⟩
        · omega
        simp only [go_sem, cntFm]
        omega
      · have hle' : ¬ (n' : Int) ≤ 2000 := by omega
        refine awp_seq_k (fun K7 hK7 => ?_)
        refine awp_seq_k (fun K8 hK8 => ?_)
        refine awp_plain 8 (by kernel_rfl) rfl (fun g2 hg2 => ?_)
        simp only [go_sem, hle', hlt]
        refine hK8 _ ?_
        rw [cnt_stop hle] at hc
        subst hc
        refine awp_f rfl ?_
        refine awp_exit ?_
        refine hK2 _ ?_
        refine awp_seq_k (fun K9 hK9 => ?_)
        refine awp_plain 2 (by kernel_rfl) rfl (fun g5 hg5 => ?_)
        simp only [go_sem]
        refine hK9 _ ?_
        refine awp_ret ?_
        refine ends_ev rfl ?_
        simp only [go_sem]
        exact Co.refl _
    · refine awp_seq_k (fun K10 hK10 => ?_)
      refine awp_seq_k (fun K11 hK11 => ?_)
      refine awp_plain 8 (by kernel_rfl) rfl (fun g2 hg2 => ?_)
      simp only [go_sem, hlt]
      refine hK11 _ ?_
      rw [dropN _ _ (by omega)] at hc
      simp only [cnt] at hc
      subst hc
      refine awp_f rfl ?_
      refine awp_exit ?_
      refine hK2 _ ?_
      refine awp_seq_k (fun K12 hK12 => ?_)
      refine awp_plain 2 (by kernel_rfl) rfl (fun g5 hg5 => ?_)
      simp only [go_sem]
      refine hK12 _ ?_
      refine awp_ret ?_
      refine ends_ev rfl ?_
      simp only [go_sem]
      exact Co.refl _

theorem cntSi_calls (s : Sig) (n : Nat) (hs : okSi s) (hn : n ≤ 1500000000000000000) (g d : Nat) : ACalls E 55 [encSi s, dN n] [] g d (dN (cntSi s n)) [] := by
  have hbig : big = 184467440737097518 := rfl
  obtain ⟨h1, ⟨h2, h3⟩, ⟨h4, h5⟩, h6⟩ := hs
  have a1 := cnt_le (3 * big) s.formals (n + s.name.size / 50) (fun a ha n hn => cntFm_le a (h3 a ha) n hn)
  have a2 := cnt_le (3 * big) s.params (cnt cntFm s.formals (n + s.name.size / 50)) (fun a ha n hn => cntPa_le a (h5 a ha) n hn)
  refine acalls_of_awp (fn := Tryd.f55) (N := 20) Tryd.call55 Tryd.func55 rfl rfl (by simp) ?_
  simp only [go_sem]
  refine awp_seq_k (fun K1 hK1 => ?_)
  refine awp_plain 2 (by kernel_rfl) rfl (fun g0 hg0 => ?_)
  simp only [go_sem]
  refine hK1 _ ?_
  refine awp_seq_k (fun K2 hK2 => ?_)
  refine awp_any 15 (by kernel_rfl) (by kernel_rfl) rfl (fun g1 hg1 ops1 KR1 hops1 hKR1 => ?_)
  refine qrun_eval 12 hops1 ?_
  simp only [go_sem]
  try simp (disch := omega) only [wrapN, Int.tdiv_eq_ediv_of_nonneg]
  refine qrun_pure hops1 rfl rfl rfl (cntFm_calls s.formals (n + s.name.size / 50) h2 h3 (by omega) _ _) (CoL.refl _) rfl ?_
  refine qrun_pure hops1 rfl rfl rfl (cntPa_calls s.params _ h4 h5 (by omega) _ _) (CoL.refl _) rfl ?_
  refine qrun_pure hops1 rfl rfl rfl (count_calls _ h6 _ _ _ (by omega)) (CoL.refl _) rfl ?_
  refine qrun_last 0 hops1 ?_
  simp only [go_sem]
  refine aops_last 1 hops1 ?_
  simp only [go_sem]
  refine hKR1 _ ?_
  refine hK2 _ ?_
  refine awp_ret ?_
  refine ends_ev rfl ?_
  simp only [go_sem]
  exact Co.refl _

end Go.Proofs.T

