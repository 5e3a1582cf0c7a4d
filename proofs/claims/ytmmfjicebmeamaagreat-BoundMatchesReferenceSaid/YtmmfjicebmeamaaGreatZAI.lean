/- A part of the proof, under no conditions of its own: ZAI. -/
import Derived.Test.YtmmfjicebmeamaaGreatZAH
namespace Go.Proofs.T
open Go Go.Ab Go.RowKit

/-! ## Counting -/

/-- Counting goes on while it is small. -/
def cnt {α : Type} (f : α → Nat → Nat) : List α → Nat → Nat
  | [], n => n
  | a :: r, n => if n ≤ 2000 then cnt f r (f a n) else n
theorem cnt_stop {α : Type} {f : α → Nat → Nat} {l : List α} {n : Nat} (h : ¬ n ≤ 2000) : cnt f l n = n := by cases l <;> simp [cnt, h]
theorem cnt_bound {α : Type} {f : α → Nat → Nat} (M : Nat) : ∀ (l : List α) (n : Nat), (∀ a ∈ l, ∀ n, n ≤ 2000 → f a n ≤ M) → cnt f l n ≤ Nat.max n M
  | [], n, _ => Nat.le_max_left ..
  | a :: r, n, h => by
    simp only [cnt]
    split
    · rename_i hn
      refine Nat.le_trans (cnt_bound M r (f a n) fun x hx => h x (List.mem_cons_of_mem _ hx)) ?_
      exact Nat.max_le.2 ⟨Nat.le_trans (h a List.mem_cons_self n hn) (Nat.le_max_right ..), Nat.le_max_right ..⟩
    · exact Nat.le_max_left ..
theorem cnt_step {α : Type} {f : α → Nat → Nat} {l : List α} {k n : Nat} (h : k < l.length) (hn : n ≤ 2000) : cnt f (l.drop k) n = cnt f (l.drop (k + 1)) (f l[k] n) := by
  rw [dropC _ _ h]; simp only [cnt]; rw [if_pos hn]
theorem countL_cnt : ∀ (l : List Ty) (n : Nat), countL l n = cnt count l n
  | [], n => by simp [countL, cnt]
  | t :: r, n => by simp only [countL, cnt, countL_cnt r]

def cntPa (p : Param) (n : Nat) : Nat := count p.type (n + 1 + p.name.size / 50)
def cntFm (p : Formal) (n : Nat) : Nat := count p.bound (n + 1 + p.name.size / 50)
def cntSi (s : Sig) (n : Nat) : Nat := count s.result (cnt cntPa s.params (cnt cntFm s.formals (n + s.name.size / 50)))

theorem lemax (a b c : Nat) (h : c ≤ Nat.max a b) : c ≤ a ∨ c ≤ b := by
  rcases Nat.le_total a b with h1 | h1
  · right; rwa [show Nat.max a b = b from Nat.max_eq_right h1] at h
  · left; rwa [show Nat.max a b = a from Nat.max_eq_left h1] at h

theorem count_le (t : Ty) (n : Nat) (h : okTy t) : count t n ≤ n + big ∨ count t n ≤ 2000 + big := by
  have := count_bound t n h
  rcases Nat.le_total n 2000 with h1 | h1
  · right; rwa [show Nat.max n 2000 = 2000 from Nat.max_eq_right h1] at this
  · left; rwa [show Nat.max n 2000 = n from Nat.max_eq_left h1] at this
theorem cnt_le {α : Type} {f : α → Nat → Nat} (M : Nat) (l : List α) (n : Nat) (h : ∀ a ∈ l, ∀ n, n ≤ 2000 → f a n ≤ M) : cnt f l n ≤ n ∨ cnt f l n ≤ M := lemax _ _ _ (cnt_bound M l n h)
theorem cntPa_le (p : Param) (h : okPa p) (n : Nat) (hn : n ≤ 2000) : cntPa p n ≤ 3 * big := by
  have h1 := h.1
  have := count_le p.type (n + 1 + p.name.size / 50) h.2
  unfold cntPa
  unfold big at *
  omega
theorem cntFm_le (p : Formal) (h : okFm p) (n : Nat) (hn : n ≤ 2000) : cntFm p n ≤ 3 * big := by
  have h1 := h.1
  have := count_le p.bound (n + 1 + p.name.size / 50) h.2
  unfold cntFm
  unfold big at *
  omega
theorem cntSi_le (s : Sig) (h : okSi s) (n : Nat) : cntSi s n ≤ n + 6 * big := by
  obtain ⟨h1, ⟨h2, h3⟩, ⟨h4, h5⟩, h6⟩ := h
  have a1 := cnt_le (3 * big) s.formals (n + s.name.size / 50) (fun a ha n hn => cntFm_le a (h3 a ha) n hn)
  have a2 := cnt_le (3 * big) s.params (cnt cntFm s.formals (n + s.name.size / 50)) (fun a ha n hn => cntPa_le a (h5 a ha) n hn)
  have a3 := count_le s.result (cnt cntPa s.params (cnt cntFm s.formals (n + s.name.size / 50))) h6
  unfold cntSi
  unfold big at *
  omega


theorem cntPa_calls (l : List Param) (n : Nat) (hl : l.length ≤ 9223372036854775807) (hl2 : ∀ a ∈ l, okPa a) (hn : n ≤ 3000000000000000000) (g d : Nat) : ACalls E 39 [slPa l, dN n] [] g d (dN (cnt cntPa l n)) [] := by
  have hbig : big = 184467440737097518 := rfl
  refine acalls_of_awp (fn := Tryz.f39) (N := 33) Tryz.call39 Tryz.func39 rfl rfl (by simp) ?_
  simp only [go_sem]
  refine awp_seq_k (fun K1 hK1 => ?_)
  refine awp_plain 1 (by kernel_rfl) rfl (fun g0 hg0 => ?_)
  simp only [go_sem]
  refine hK1 _ ?_
  refine awp_seq_k (fun K2 hK2 => ?_)
  refine awp_seq_k (fun K3 hK3 => ?_)
  refine awp_plain 1 (by kernel_rfl) rfl (fun g1 hg1 => ?_)
  simp only [go_sem]
  refine hK3 _ ?_
  refine awp_block ?_
  refine awp_loop (fun m s => ∃ k n', k ≤ l.length ∧ m = l.length - k ∧ n' ≤ n + 3 * big ∧ cnt cntPa (l.drop k) n' = cnt cntPa l n ∧
      Le { env := [(0, slPa l), (1, dN n'), (5, dN k)], σ := [] } s) l.length ?_ ?_
  · refine ⟨0, n, Nat.zero_le _, rfl, by omega, rfl, le_of ?_⟩
    simp only [go_sem]
    trivial
  · rintro m s ⟨k, n', hk, rfl, hn', hc, hle⟩
    refine awp_keep hle ?_
    clear hle
    by_cases hlt : k < l.length
    · have g1 := getM (f := encPa) hlt
      by_cases hle : n' ≤ 2000
      · have hle' : (n' : Int) ≤ 2000 := by omega
        have h1 := (hl2 _ (List.getElem_mem hlt)).1
        have h3 := cntPa_le _ (hl2 _ (List.getElem_mem hlt)) n' hle
        refine awp_seq_k (fun K4 hK4 => ?_)
        refine awp_seq_k (fun K5 hK5 => ?_)
        refine awp_plain 8 (by kernel_rfl) rfl (fun g2 hg2 => ?_)
        simp only [go_sem, hle', hlt]
        refine hK5 _ ?_
        refine awp_t rfl ?_
        refine awp_skip ?_
        refine hK4 _ ?_
        refine awp_seq_k (fun K6 hK6 => ?_)
        refine awp_block ?_
        refine awp_any 16 (by kernel_rfl) (by kernel_rfl) rfl (fun g4 hg4 ops4 KR4 hops4 hKR4 => ?_)
        refine qrun_eval 15 hops4 ?_
        simp only [go_sem, g1]
        try simp (disch := omega) only [wrapN, Int.tdiv_eq_ediv_of_nonneg]
        refine qrun_pure hops4 rfl rfl rfl (count_calls _ (hl2 _ (List.getElem_mem hlt)).2 (n' + 1 + l[k].name.size / 50) _ _ (by omega)) (CoL.refl _) rfl ?_
        refine qrun_last 0 hops4 ?_
        simp only [go_sem]
        refine aops_last 1 hops4 ?_
        simp only [go_sem]
        refine hKR4 _ ?_
        refine hK6 _ ?_
        refine awp_plain 3 (by kernel_rfl) rfl (fun g3 hg3 => ?_)
        simp only [go_sem]
        try simp (disch := omega) only [wrapN]
        rw [cnt_step hlt hle] at hc
        refine ⟨_, ?_, k + 1, cntPa l[k] n', hlt, rfl, by omega, hc, le_of ?_⟩
        · omega
        simp only [go_sem, cntPa]
        omega
      · have hle' : ¬ (n' : Int) ≤ 2000 := by omega
        refine awp_seq_k (fun K7 hK7 => ?_)
        refine awp_seq_k (fun K8 hK8 => ?_)
        refine awp_plain 8 (by kernel_rfl) rfl (fun g2 hg2 => ?_)
        simp only [go_sem, hle', hlt]
        refine hK8 _ ?_
        rw [cnt_stop hle] at hc
        subst hc
        refine awp_f rfl ?_
        refine awp_exit ?_
        refine hK2 _ ?_
        refine awp_seq_k (fun K9 hK9 => ?_)
        refine awp_plain 2 (by kernel_rfl) rfl (fun g5 hg5 => ?_)
        simp only [go_sem]
        refine hK9 _ ?_
        refine awp_ret ?_
        refine ends_ev rfl ?_
        simp only [go_sem]
        exact Co.refl _
    · refine awp_seq_k (fun K10 hK10 => ?_)
      refine awp_seq_k (fun K11 hK11 => ?_)
      refine awp_plain 8 (by kernel_rfl) rfl (fun g2 hg2 => ?_)
      simp only [go_sem, hlt]
      refine hK11 _ ?_
      rw [dropN _ _ (by omega)] at hc
      simp only [cnt] at hc
      subst hc
      refine awp_f rfl ?_
      refine awp_exit ?_
      refine hK2 _ ?_
      refine awp_seq_k (fun K12 hK12 => ?_)
      refine awp_plain 2 (by kernel_rfl) rfl (fun g5 hg5 => ?_)
      simp only [go_sem]
      refine hK12 _ ?_
      refine awp_ret ?_
      refine ends_ev rfl ?_
      simp only [go_sem]
      exact Co.refl _

theorem cntFm_calls (l : List Formal) (n : Nat) (hl : l.length ≤ 9223372036854775807) (hl2 : ∀ a ∈ l, okFm a) (hn : n ≤ 3000000000000000000) (g d : Nat) : ACalls E 40 [slFm l, dN n] [] g d (dN (cnt cntFm l n)) [] := by
  have hbig : big = 184467440737097518 := rfl
  refine acalls_of_awp (fn := Tryz.f40) (N := 33) Tryz.call40 Tryz.func40 rfl rfl (by simp) ?_
  simp only [go_sem]
  refine awp_seq_k (fun K1 hK1 => ?_)
  refine awp_plain 1 (by kernel_rfl) rfl (fun g0 hg0 => ?_)
  simp only [go_sem]
  refine hK1 _ ?_
  refine awp_seq_k (fun K2 hK2 => ?_)
  refine awp_seq_k (fun K3 hK3 => ?_)
  refine awp_plain 1 (by kernel_rfl) rfl (fun g1 hg1 => ?_)
  simp only [go_sem]
  refine hK3 _ ?_
  refine awp_block ?_
  refine awp_loop (fun m s => ∃ k n', k ≤ l.length ∧ m = l.length - k ∧ n' ≤ n + 3 * big ∧ cnt cntFm (l.drop k) n' = cnt cntFm l n ∧
      Le { env := [(0, slFm l), (1, dN n'), (5, dN k)], σ := [] } s) l.length ?_ ?_
  · refine ⟨0, n, Nat.zero_le _, rfl, by omega, rfl, le_of ?_⟩
    simp only [go_sem]
    trivial
  · rintro m s ⟨k, n', hk, rfl, hn', hc, hle⟩
    refine awp_keep hle ?_
    clear hle
    by_cases hlt : k < l.length
    · have g1 := getM (f := encFm) hlt
      by_cases hle : n' ≤ 2000
      · have hle' : (n' : Int) ≤ 2000 := by omega
        have h1 := (hl2 _ (List.getElem_mem hlt)).1
        have h3 := cntFm_le _ (hl2 _ (List.getElem_mem hlt)) n' hle
        refine awp_seq_k (fun K4 hK4 => ?_)
        refine awp_seq_k (fun K5 hK5 => ?_)
        refine awp_plain 8 (by kernel_rfl) rfl (fun g2 hg2 => ?_)
        simp only [go_sem, hle', hlt]
        refine hK5 _ ?_
        refine awp_t rfl ?_
        refine awp_skip ?_
        refine hK4 _ ?_
        refine awp_seq_k (fun K6 hK6 => ?_)
        refine awp_block ?_
        refine awp_any 16 (by kernel_rfl) (by kernel_rfl) rfl (fun g4 hg4 ops4 KR4 hops4 hKR4 => ?_)
        refine qrun_eval 15 hops4 ?_
        simp only [go_sem, g1]
        try simp (disch := omega) only [wrapN, Int.tdiv_eq_ediv_of_nonneg]
        refine qrun_pure hops4 rfl rfl rfl (count_calls _ (hl2 _ (List.getElem_mem hlt)).2 (n' + 1 + l[k].name.size / 50) _ _ (by omega)) (CoL.refl _) rfl ?_
        refine qrun_last 0 hops4 ?_
        simp only [go_sem]
        refine aops_last 1 hops4 ?_
        simp only [go_sem]
        refine hKR4 _ ?_
        refine hK6 _ ?_
        refine awp_plain 3 (by kernel_rfl) rfl (fun g3 hg3 => ?_)
        simp only [go_sem]
        try simp (disch := omega) only [wrapN]
        rw [cnt_step hlt hle] at hc
        refine ⟨_, ?_, k + 1, cntFm l[k] n', hlt, rfl, by omega, hc, le_of ?_⟩
        · omega
        simp only [go_sem, cntFm]
        omega
      · have hle' : ¬ (n' : Int) ≤ 2000 := by omega
        refine awp_seq_k (fun K7 hK7 => ?_)
        refine awp_seq_k (fun K8 hK8 => ?_)
        refine awp_plain 8 (by kernel_rfl) rfl (fun g2 hg2 => ?_)
        simp only [go_sem, hle', hlt]
        refine hK8 _ ?_
        rw [cnt_stop hle] at hc
        subst hc
        refine awp_f rfl ?_
        refine awp_exit ?_
        refine hK2 _ ?_
        refine awp_seq_k (fun K9 hK9 => ?_)
        refine awp_plain 2 (by kernel_rfl) rfl (fun g5 hg5 => ?_)
        simp only [go_sem]
        refine hK9 _ ?_
        refine awp_ret ?_
        refine ends_ev rfl ?_
        simp only [go_sem]
        exact Co.refl _
    · refine awp_seq_k (fun K10 hK10 => ?_)
      refine awp_seq_k (fun K11 hK11 => ?_)
      refine awp_plain 8 (by kernel_rfl) rfl (fun g2 hg2 => ?_)
      simp only [go_sem, hlt]
      refine hK11 _ ?_
      rw [dropN _ _ (by omega)] at hc
      simp only [cnt] at hc
      subst hc
      refine awp_f rfl ?_
      refine awp_exit ?_
      refine hK2 _ ?_
      refine awp_seq_k (fun K12 hK12 => ?_)
      refine awp_plain 2 (by kernel_rfl) rfl (fun g5 hg5 => ?_)
      simp only [go_sem]
      refine hK12 _ ?_
      refine awp_ret ?_
      refine ends_ev rfl ?_
      simp only [go_sem]
      exact Co.refl _

theorem cntSi_calls (s : Sig) (n : Nat) (hs : okSi s) (hn : n ≤ 1500000000000000000) (g d : Nat) : ACalls E 41 [encSi s, dN n] [] g d (dN (cntSi s n)) [] := by
  have hbig : big = 184467440737097518 := rfl
  obtain ⟨h1, ⟨h2, h3⟩, ⟨h4, h5⟩, h6⟩ := hs
  have a1 := cnt_le (3 * big) s.formals (n + s.name.size / 50) (fun a ha n hn => cntFm_le a (h3 a ha) n hn)
  have a2 := cnt_le (3 * big) s.params (cnt cntFm s.formals (n + s.name.size / 50)) (fun a ha n hn => cntPa_le a (h5 a ha) n hn)
  refine acalls_of_awp (fn := Tryz.f41) (N := 20) Tryz.call41 Tryz.func41 rfl rfl (by simp) ?_
  simp only [go_sem]
  refine awp_seq_k (fun K1 hK1 => ?_)
  refine awp_plain 2 (by kernel_rfl) rfl (fun g0 hg0 => ?_)
  simp only [go_sem]
  refine hK1 _ ?_
  refine awp_seq_k (fun K2 hK2 => ?_)
  refine awp_any 15 (by kernel_rfl) (by kernel_rfl) rfl (fun g1 hg1 ops1 KR1 hops1 hKR1 => ?_)
  refine qrun_eval 12 hops1 ?_
  simp only [go_sem]
  try simp (disch := omega) only [wrapN, Int.tdiv_eq_ediv_of_nonneg]
  refine qrun_pure hops1 rfl rfl rfl (cntFm_calls s.formals (n + s.name.size / 50) h2 h3 (by omega) _ _) (CoL.refl _) rfl ?_
  refine qrun_pure hops1 rfl rfl rfl (cntPa_calls s.params _ h4 h5 (by omega) _ _) (CoL.refl _) rfl ?_
  refine qrun_pure hops1 rfl rfl rfl (count_calls _ h6 _ _ _ (by omega)) (CoL.refl _) rfl ?_
  refine qrun_last 0 hops1 ?_
  simp only [go_sem]
  refine aops_last 1 hops1 ?_
  simp only [go_sem]
  refine hKR1 _ ?_
  refine hK2 _ ?_
  refine awp_ret ?_
  refine ends_ev rfl ?_
  simp only [go_sem]
  exact Co.refl _

end Go.Proofs.T


namespace Go.Proofs.T
open Go Go.Ab Go.RowKit

/-! ## Counting programs -/

mutual
def countEx : Ex → Nat → Nat
  | .mk _ nm ty ta ks _, n => countExs ks (cnt count ta (count ty (n + nm.size / 50)))
def countExs : List Ex → Nat → Nat
  | [], n => n
  | t :: r, n => if n ≤ 2000 then countExs r (countEx t n) else n
end
theorem countExs_cnt : ∀ (l : List Ex) (n : Nat), countExs l n = cnt countEx l n
  | [], n => by simp [countExs, cnt]
  | t :: r, n => by simp only [countExs, cnt, countExs_cnt r]
theorem countEx_eq (e : Ex) (n : Nat) : countEx e n = cnt countEx e.kids (cnt count e.targs (count e.type (n + e.name.size / 50))) := by
  cases e; rw [countEx, countExs_cnt]; rfl
theorem count_small (t : Ty) (h : okTy t) (n : Nat) (hn : n ≤ 2000) : count t n ≤ 3 * big := by
  have := count_le t n h
  unfold big at *
  omega
theorem countEx_le : ∀ e : Ex, okEx e → ∀ n, countEx e n ≤ n + 2 * big ∨ countEx e n ≤ 3 * big := by
  refine Ex.ind fun e ih he n => ?_
  obtain ⟨h1, h2, ⟨h3, h4⟩, h5, h6⟩ := (okEx_iff e).1 he
  have a1 := count_le e.type (n + e.name.size / 50) h2
  have a2 := cnt_le (3 * big) e.targs (count e.type (n + e.name.size / 50)) (fun a ha n hn => count_small a (h4 a ha) n hn)
  have hk : ∀ a ∈ e.kids, ∀ n, n ≤ 2000 → countEx a n ≤ 3 * big := fun a ha n hn => by
    have := ih a ha (h6 a ha) n
    unfold big at *
    omega
  have a3 := cnt_le (3 * big) e.kids (cnt count e.targs (count e.type (n + e.name.size / 50))) hk
  rw [countEx_eq]
  unfold big at *
  omega

theorem countEx_calls : ∀ e : Ex, okEx e → ∀ (n g d : Nat), n ≤ 3000000000000000000 → ACalls E 38 [encEx e, dN n] [] g d (dN (countEx e n)) [] := by
  have hbig : big = 184467440737097518 := rfl
  refine Ex.ind fun e ih he n g d hn => ?_
  obtain ⟨h1, h2, ⟨h3, h4⟩, h5, h6⟩ := (okEx_iff e).1 he
  have a1 := count_le e.type (n + e.name.size / 50) h2
  have a2 := cnt_le (3 * big) e.targs (count e.type (n + e.name.size / 50)) (fun a ha n hn => count_small a (h4 a ha) n hn)
  refine acalls_of_awp (fn := Tryz.f38) (N := 53) Tryz.call38 Tryz.func38 rfl rfl (by simp) ?_
  simp only [go_sem]
  refine awp_seq_k (fun K1 hK1 => ?_)
  refine awp_plain 2 (by kernel_rfl) rfl (fun g0 hg0 => ?_)
  simp only [go_sem]
  refine hK1 _ ?_
  refine awp_seq_k (fun K2 hK2 => ?_)
  refine awp_ops (by kernel_rfl) rfl (fun g1 hg1 ops1 KR1 hops1 hKR1 => ?_)
  refine aops_eval 8 hops1 ?_
  simp only [go_sem]
  try simp (disch := omega) only [wrapN, Int.tdiv_eq_ediv_of_nonneg]
  refine aops_pure hops1 rfl rfl rfl (count_calls _ h2 (n + e.name.size / 50) _ _ (by omega)) (CoL.refl _) ?_
  refine aops_last 1 hops1 ?_
  simp only [go_sem]
  refine hKR1 _ ?_
  refine hK2 _ ?_
  refine awp_seq_k (fun K3 hK3 => ?_)
  refine awp_seq_k (fun K4 hK4 => ?_)
  refine awp_plain 1 (by kernel_rfl) rfl (fun g2 hg2 => ?_)
  simp only [go_sem]
  refine hK4 _ ?_
  refine awp_block ?_
  refine awp_loop (fun m s => ∃ k n', k ≤ e.targs.length ∧ m = e.targs.length - k ∧ n' ≤ n + 4 * big ∧ cnt count (e.targs.drop k) n' = cnt count e.targs (count e.type (n + e.name.size / 50)) ∧
      Le { env := [(1, dN n'), (2, .ptr ⟨g0, 2, 0⟩ 0), (5, dN k)], σ := [(⟨g0, 2, 0⟩, .box 28 (exC e))] } s) e.targs.length ?_ ?_
  · refine ⟨0, count e.type (n + e.name.size / 50), Nat.zero_le _, rfl, by omega, rfl, le_of ?_⟩
    simp only [go_sem]
    trivial
  · rintro m s ⟨k, n', hk, rfl, hn', hc, hle⟩
    refine awp_keep hle ?_
    clear hle
    by_cases hlt : k < e.targs.length
    · have g1 := getM (f := encTy) hlt
      by_cases hle : n' ≤ 2000
      · have hle' : (n' : Int) ≤ 2000 := by omega
        have h7 := count_le _ n' (h4 _ (List.getElem_mem hlt))
        refine awp_seq_k (fun K5 hK5 => ?_)
        refine awp_seq_k (fun K6 hK6 => ?_)
        refine awp_plain 9 (by kernel_rfl) rfl (fun g3 hg3 => ?_)
        simp only [go_sem, hle', hlt]
        refine hK6 _ ?_
        refine awp_t rfl ?_
        refine awp_skip ?_
        refine hK5 _ ?_
        refine awp_seq_k (fun K7 hK7 => ?_)
        refine awp_block ?_
        refine awp_ops (by kernel_rfl) rfl (fun g5 hg5 ops5 KR5 hops5 hKR5 => ?_)
        refine aops_eval 6 hops5 ?_
        simp only [go_sem, g1]
        refine aops_pure hops5 rfl rfl rfl (count_calls _ (h4 _ (List.getElem_mem hlt)) n' _ _ (by omega)) (CoL.refl _) ?_
        refine aops_last 1 hops5 ?_
        simp only [go_sem]
        refine hKR5 _ ?_
        refine hK7 _ ?_
        refine awp_plain 3 (by kernel_rfl) rfl (fun g4 hg4 => ?_)
        simp only [go_sem]
        try simp (disch := omega) only [wrapN]
        rw [cnt_step hlt hle] at hc
        refine ⟨_, ?_, k + 1, count e.targs[k] n', hlt, rfl, by omega, hc, le_of ?_⟩
        · omega
        simp only [go_sem]
        omega
      · have hle' : ¬ (n' : Int) ≤ 2000 := by omega
        refine awp_seq_k (fun K8 hK8 => ?_)
        refine awp_seq_k (fun K9 hK9 => ?_)
        refine awp_plain 9 (by kernel_rfl) rfl (fun g3 hg3 => ?_)
        simp only [go_sem, hle', hlt]
        refine hK9 _ ?_
        rw [cnt_stop hle] at hc
        subst hc
        refine awp_f rfl ?_
        refine awp_exit ?_
        refine hK3 _ ?_
        refine awp_seq_k (fun K10 hK10 => ?_)
        refine awp_seq_k (fun K11 hK11 => ?_)
        refine awp_plain 1 (by kernel_rfl) rfl (fun g6 hg6 => ?_)
        simp only [go_sem]
        refine hK11 _ ?_
        refine awp_block ?_
        generalize hA : cnt count e.targs (count e.type (n + e.name.size / 50)) = A at *
        have hAb : A ≤ n + 4 * big := by omega
        refine awp_loop (fun m s => ∃ k n', k ≤ e.kids.length ∧ m = e.kids.length - k ∧ n' ≤ n + 7 * big ∧ cnt countEx (e.kids.drop k) n' = countEx e n ∧
            Le { env := [(1, dN n'), (2, .ptr ⟨g0, 2, 0⟩ 0), (6, dN k)], σ := [(⟨g0, 2, 0⟩, .box 28 (exC e))] } s) e.kids.length ?_ ?_
        · refine ⟨0, A, Nat.zero_le _, rfl, by omega, by rw [countEx_eq, hA]; rfl, le_of ?_⟩
          simp only [go_sem]
          trivial
        · rintro m s ⟨k, n', hk, rfl, hn', hc, hle⟩
          refine awp_keep hle ?_
          clear hle
          by_cases hlt : k < e.kids.length
          · have g1 := getM (f := encEx) hlt
            by_cases hle : n' ≤ 2000
            · have hle' : (n' : Int) ≤ 2000 := by omega
              have h7 := countEx_le _ (h6 _ (List.getElem_mem hlt)) n'
              refine awp_seq_k (fun K12 hK12 => ?_)
              refine awp_seq_k (fun K13 hK13 => ?_)
              refine awp_plain 9 (by kernel_rfl) rfl (fun g7 hg7 => ?_)
              simp only [go_sem, hle', hlt]
              refine hK13 _ ?_
              refine awp_t rfl ?_
              refine awp_skip ?_
              refine hK12 _ ?_
              refine awp_seq_k (fun K14 hK14 => ?_)
              refine awp_block ?_
              refine awp_ops (by kernel_rfl) rfl (fun g9 hg9 ops9 KR9 hops9 hKR9 => ?_)
              refine aops_eval 6 hops9 ?_
              simp only [go_sem, g1]
              refine aops_pure hops9 rfl rfl rfl (ih _ (List.getElem_mem hlt) (h6 _ (List.getElem_mem hlt)) n' _ _ (by omega)) (CoL.refl _) ?_
              refine aops_last 1 hops9 ?_
              simp only [go_sem]
              refine hKR9 _ ?_
              refine hK14 _ ?_
              refine awp_plain 3 (by kernel_rfl) rfl (fun g8 hg8 => ?_)
              simp only [go_sem]
              try simp (disch := omega) only [wrapN]
              rw [cnt_step hlt hle] at hc
              refine ⟨_, ?_, k + 1, countEx e.kids[k] n', hlt, rfl, by omega, hc, le_of ?_⟩
              · omega
              simp only [go_sem]
              omega
            · have hle' : ¬ (n' : Int) ≤ 2000 := by omega
              refine awp_seq_k (fun K15 hK15 => ?_)
              refine awp_seq_k (fun K16 hK16 => ?_)
              refine awp_plain 9 (by kernel_rfl) rfl (fun g7 hg7 => ?_)
              simp only [go_sem, hle', hlt]
              refine hK16 _ ?_
              rw [cnt_stop hle] at hc
              refine awp_f rfl ?_
              refine awp_exit ?_
              refine hK10 _ ?_
              refine awp_seq_k (fun K17 hK17 => ?_)
              refine awp_plain 2 (by kernel_rfl) rfl (fun g10 hg10 => ?_)
              simp only [go_sem]
              refine hK17 _ ?_
              refine awp_ret ?_
              rw [← hc]
              refine ends_ev rfl ?_
              simp only [go_sem]
              exact Co.refl _
          · refine awp_seq_k (fun K18 hK18 => ?_)
            refine awp_seq_k (fun K19 hK19 => ?_)
            refine awp_plain 9 (by kernel_rfl) rfl (fun g7 hg7 => ?_)
            simp only [go_sem, hlt]
            refine hK19 _ ?_
            rw [dropN _ _ (by omega)] at hc
            simp only [cnt] at hc
            refine awp_f rfl ?_
            refine awp_exit ?_
            refine hK10 _ ?_
            refine awp_seq_k (fun K20 hK20 => ?_)
            refine awp_plain 2 (by kernel_rfl) rfl (fun g10 hg10 => ?_)
            simp only [go_sem]
            refine hK20 _ ?_
            refine awp_ret ?_
            rw [← hc]
            refine ends_ev rfl ?_
            simp only [go_sem]
            exact Co.refl _
    · refine awp_seq_k (fun K21 hK21 => ?_)
      refine awp_seq_k (fun K22 hK22 => ?_)
      refine awp_plain 9 (by kernel_rfl) rfl (fun g3 hg3 => ?_)
      simp only [go_sem, hlt]
      refine hK22 _ ?_
      rw [dropN _ _ (by omega)] at hc
      simp only [cnt] at hc
      subst hc
      refine awp_f rfl ?_
      refine awp_exit ?_
      refine hK3 _ ?_
      refine awp_seq_k (fun K23 hK23 => ?_)
      refine awp_seq_k (fun K24 hK24 => ?_)
      refine awp_plain 1 (by kernel_rfl) rfl (fun g6 hg6 => ?_)
      simp only [go_sem]
      refine hK24 _ ?_
      refine awp_block ?_
      generalize hA : cnt count e.targs (count e.type (n + e.name.size / 50)) = A at *
      have hAb : A ≤ n + 4 * big := by omega
      refine awp_loop (fun m s => ∃ k n', k ≤ e.kids.length ∧ m = e.kids.length - k ∧ n' ≤ n + 7 * big ∧ cnt countEx (e.kids.drop k) n' = countEx e n ∧
          Le { env := [(1, dN n'), (2, .ptr ⟨g0, 2, 0⟩ 0), (6, dN k)], σ := [(⟨g0, 2, 0⟩, .box 28 (exC e))] } s) e.kids.length ?_ ?_
      · refine ⟨0, A, Nat.zero_le _, rfl, by omega, by rw [countEx_eq, hA]; rfl, le_of ?_⟩
        simp only [go_sem]
        trivial
      · rintro m s ⟨k, n', hk, rfl, hn', hc, hle⟩
        refine awp_keep hle ?_
        clear hle
        by_cases hlt : k < e.kids.length
        · have g1 := getM (f := encEx) hlt
          by_cases hle : n' ≤ 2000
          · have hle' : (n' : Int) ≤ 2000 := by omega
            have h7 := countEx_le _ (h6 _ (List.getElem_mem hlt)) n'
            refine awp_seq_k (fun K25 hK25 => ?_)
            refine awp_seq_k (fun K26 hK26 => ?_)
            refine awp_plain 9 (by kernel_rfl) rfl (fun g7 hg7 => ?_)
            simp only [go_sem, hle', hlt]
            refine hK26 _ ?_
            refine awp_t rfl ?_
            refine awp_skip ?_
            refine hK25 _ ?_
            refine awp_seq_k (fun K27 hK27 => ?_)
            refine awp_block ?_
            refine awp_ops (by kernel_rfl) rfl (fun g9 hg9 ops9 KR9 hops9 hKR9 => ?_)
            refine aops_eval 6 hops9 ?_
            simp only [go_sem, g1]
            refine aops_pure hops9 rfl rfl rfl (ih _ (List.getElem_mem hlt) (h6 _ (List.getElem_mem hlt)) n' _ _ (by omega)) (CoL.refl _) ?_
            refine aops_last 1 hops9 ?_
            simp only [go_sem]
            refine hKR9 _ ?_
            refine hK27 _ ?_
            refine awp_plain 3 (by kernel_rfl) rfl (fun g8 hg8 => ?_)
            simp only [go_sem]
            try simp (disch := omega) only [wrapN]
            rw [cnt_step hlt hle] at hc
            refine ⟨_, ?_, k + 1, countEx e.kids[k] n', hlt, rfl, by omega, hc, le_of ?_⟩
            · omega
            simp only [go_sem]
            omega
          · have hle' : ¬ (n' : Int) ≤ 2000 := by omega
            refine awp_seq_k (fun K28 hK28 => ?_)
            refine awp_seq_k (fun K29 hK29 => ?_)
            refine awp_plain 9 (by kernel_rfl) rfl (fun g7 hg7 => ?_)
            simp only [go_sem, hle', hlt]
            refine hK29 _ ?_
            rw [cnt_stop hle] at hc
            refine awp_f rfl ?_
            refine awp_exit ?_
            refine hK23 _ ?_
            refine awp_seq_k (fun K30 hK30 => ?_)
            refine awp_plain 2 (by kernel_rfl) rfl (fun g10 hg10 => ?_)
            simp only [go_sem]
            refine hK30 _ ?_
            refine awp_ret ?_
            rw [← hc]
            refine ends_ev rfl ?_
            simp only [go_sem]
            exact Co.refl _
        · refine awp_seq_k (fun K31 hK31 => ?_)
          refine awp_seq_k (fun K32 hK32 => ?_)
          refine awp_plain 9 (by kernel_rfl) rfl (fun g7 hg7 => ?_)
          simp only [go_sem, hlt]
          refine hK32 _ ?_
          rw [dropN _ _ (by omega)] at hc
          simp only [cnt] at hc
          refine awp_f rfl ?_
          refine awp_exit ?_
          refine hK23 _ ?_
          refine awp_seq_k (fun K33 hK33 => ?_)
          refine awp_plain 2 (by kernel_rfl) rfl (fun g10 hg10 => ?_)
          simp only [go_sem]
          refine hK33 _ ?_
          refine awp_ret ?_
          rw [← hc]
          refine ends_ev rfl ?_
          simp only [go_sem]
          exact Co.refl _

end Go.Proofs.T


namespace Go.Proofs.T
open Go Go.Ab Go.RowKit

def cntS (v : Str) (n : Nat) : Nat := n + 1 + v.size / 50
def cntHead (d : Dec) (n : Nat) : Nat := cnt cntPa d.fields (cnt cntFm d.formals (n + 1 + d.name.size / 50 + d.recv.size / 50))
def cntTail (d : Dec) (n : Nat) : Nat := if n ≤ 2000 then countEx d.body (cntSi d.sig n) else n
def cntDe (d : Dec) (n : Nat) : Nat := cntTail d (cnt cntS d.vars (cnt cntSi d.sigs (cntHead d n)))
def cntPr (p : Prg) : Nat := cnt cntDe p.decls (countEx p.main 0)

theorem cntS_le (v : Str) (h : v.size ≤ 9223372036854775807) (n : Nat) (hn : n ≤ 2000) : cntS v n ≤ 2 * big := by unfold cntS big; omega
theorem cntSi_small (s : Sig) (h : okSi s) (n : Nat) (hn : n ≤ 2000) : cntSi s n ≤ 7 * big := by
  have := cntSi_le s h n
  unfold big at *
  omega
theorem cntHead_le (d : Dec) (h : okDe d) (n : Nat) : cntHead d n ≤ n + 3 * big ∨ cntHead d n ≤ 3 * big := by
  obtain ⟨h1, ⟨h2, h3⟩, ⟨h4, h5⟩, _, h6, _⟩ := h
  have a1 := cnt_le (3 * big) d.formals (n + 1 + d.name.size / 50 + d.recv.size / 50) (fun a ha n hn => cntFm_le a (h3 a ha) n hn)
  have a2 := cnt_le (3 * big) d.fields (cnt cntFm d.formals (n + 1 + d.name.size / 50 + d.recv.size / 50)) (fun a ha n hn => cntPa_le a (h5 a ha) n hn)
  unfold cntHead
  unfold big at *
  omega
theorem cntTail_le (d : Dec) (h : okDe d) (n : Nat) : cntTail d n ≤ n ∨ cntTail d n ≤ 10 * big := by
  obtain ⟨_, _, _, _, _, _, h7, h8⟩ := h
  unfold cntTail
  split
  · rename_i hn
    have a1 := cntSi_le d.sig h7 n
    have a2 := countEx_le d.body h8 (cntSi d.sig n)
    unfold big at *
    omega
  · left; exact Nat.le_refl _
theorem cntDe_small (d : Dec) (h : okDe d) (n : Nat) (hn : n ≤ 2000) : cntDe d n ≤ 10 * big := by
  have h0 := h
  obtain ⟨h1, ⟨h2, h3⟩, ⟨h4, h5⟩, ⟨h6, h7⟩, h8, ⟨h9, h10⟩, h11, h12⟩ := h
  have a1 := cntHead_le d h0 n
  have a2 := cnt_le (7 * big) d.sigs (cntHead d n) (fun a ha n hn => cntSi_small a (h7 a ha) n hn)
  have a3 := cnt_le (7 * big) d.vars (cnt cntSi d.sigs (cntHead d n)) (fun a ha n hn => Nat.le_trans (cntS_le a (h10 a ha) n hn) (by unfold big; omega))
  have a4 := cntTail_le d h0 (cnt cntS d.vars (cnt cntSi d.sigs (cntHead d n)))
  unfold cntDe
  unfold big at *
  omega

theorem cntPr_calls (p : Prg) (hp : okPr p) (g d : Nat) : ACalls E 20 [encPr p] [] g d (dN (cntPr p)) [] := by
  have hbig : big = 184467440737097518 := rfl
  obtain ⟨⟨h1, h2⟩, h3⟩ := hp
  have b0 := countEx_le p.main h3 0
  refine acalls_of_awp (fn := Tryz.f20) (N := 94) Tryz.call20 Tryz.func20 rfl rfl (by simp) ?_
  simp only [go_sem]
  refine awp_seq_k (fun K1 hK1 => ?_)
  refine awp_plain 2 (by kernel_rfl) rfl (fun g0 hg0 => ?_)
  simp only [go_sem]
  refine hK1 _ ?_
  refine awp_seq_k (fun K2 hK2 => ?_)
  refine awp_ops (by kernel_rfl) rfl (fun g1 hg1 ops1 KR1 hops1 hKR1 => ?_)
  refine aops_eval 2 hops1 ?_
  simp only [go_sem]
  refine aops_pure hops1 rfl rfl rfl (countEx_calls _ h3 0 _ _ (by omega)) (CoL.refl _) ?_
  refine aops_last 1 hops1 ?_
  simp only [go_sem]
  refine hKR1 _ ?_
  refine hK2 _ ?_
  refine awp_seq_k (fun K3 hK3 => ?_)
  refine awp_seq_k (fun K4 hK4 => ?_)
  refine awp_plain 1 (by kernel_rfl) rfl (fun g2 hg2 => ?_)
  simp only [go_sem]
  refine hK4 _ ?_
  refine awp_block ?_
  refine awp_loop (fun m s => ∃ k n', k ≤ p.decls.length ∧ m = p.decls.length - k ∧ n' ≤ 10 * big ∧ cnt cntDe (p.decls.drop k) n' = cntPr p ∧
      Le { env := [(1, .ptr ⟨g0, 1, 0⟩ 0), (3, dN n'), (4, dN k)], σ := [(⟨g0, 1, 0⟩, .box 30 (prC p))] } s) p.decls.length ?_ ?_
  · refine ⟨0, countEx p.main 0, Nat.zero_le _, rfl, by omega, rfl, le_of ?_⟩
    simp only [go_sem]
    trivial
  · rintro m s ⟨k, n', hk, rfl, hn', hc, hle⟩
    refine awp_keep hle ?_
    clear hle
    by_cases hlt : k < p.decls.length
    · by_cases hle : n' ≤ 2000
      · have hle' : (n' : Int) ≤ 2000 := by omega
        have g1 := getM (f := encDe) hlt
        have hd := h2 _ (List.getElem_mem hlt)
        have hd0 := hd
        rw [cnt_step hlt hle] at hc
        have b1 := cntDe_small _ hd n' hle
        generalize p.decls[k] = D at *
        obtain ⟨i1, ⟨i2, i3⟩, ⟨i4, i5⟩, ⟨i6, i7⟩, i8, ⟨i9, i10⟩, i11, i12⟩ := hd
        have a1 := cntHead_le D hd0 n'
        have f1 := cnt_le (3 * big) D.formals (n' + 1 + D.name.size / 50 + D.recv.size / 50) (fun a ha n hn => cntFm_le a (i3 a ha) n hn)
        refine awp_seq_k (fun K5 hK5 => ?_)
        refine awp_seq_k (fun K6 hK6 => ?_)
        refine awp_plain 9 (by kernel_rfl) rfl (fun g3 hg3 => ?_)
        simp only [go_sem, hle', hlt]
        refine hK6 _ ?_
        refine awp_t rfl ?_
        refine awp_skip ?_
        refine hK5 _ ?_
        refine awp_seq_k (fun K7 hK7 => ?_)
        refine awp_block ?_
        refine awp_seq_k (fun K8 hK8 => ?_)
        refine awp_plain 7 (by kernel_rfl) rfl (fun g5 hg5 => ?_)
        simp only [go_sem, g1]
        refine hK8 _ ?_
        refine awp_seq_k (fun K9 hK9 => ?_)
        refine awp_any 18 (by kernel_rfl) (by kernel_rfl) rfl (fun g6 hg6 ops6 KR6 hops6 hKR6 => ?_)
        refine qrun_eval 16 hops6 ?_
        simp only [go_sem]
        try simp (disch := omega) only [wrapN, Int.tdiv_eq_ediv_of_nonneg]
        refine qrun_pure hops6 rfl rfl rfl (cntFm_calls D.formals (n' + 1 + D.name.size / 50 + D.recv.size / 50) i2 i3 (by omega) _ _) (CoL.refl _) rfl ?_
        refine qrun_pure hops6 rfl rfl rfl (cntPa_calls D.fields _ i4 i5 (by omega) _ _) (CoL.refl _) rfl ?_
        refine qrun_last 0 hops6 ?_
        simp only [go_sem]
        refine aops_last 1 hops6 ?_
        simp only [go_sem]
        refine hKR6 _ ?_
        refine hK9 _ ?_
        refine awp_seq_k (fun K10 hK10 => ?_)
        refine awp_seq_k (fun K11 hK11 => ?_)
        refine awp_plain 1 (by kernel_rfl) rfl (fun g7 hg7 => ?_)
        simp only [go_sem]
        refine hK11 _ ?_
        refine awp_block ?_
        generalize hH : cntHead D n' = H at *
        have hHd : H = cnt cntPa D.fields (cnt cntFm D.formals (n' + 1 + D.name.size / 50 + D.recv.size / 50)) := by rw [← hH]; rfl
        rw [← hHd]
        refine awp_loop (fun m s => ∃ j u, j ≤ D.sigs.length ∧ m = D.sigs.length - j ∧ u ≤ 14 * big ∧ cnt cntSi D.sigs (cntHead D n') = cnt cntSi (D.sigs.drop j) u ∧
            Le { env := [(1, .ptr ⟨g0, 1, 0⟩ 0), (3, dN u), (4, dN k), (5, .ptr ⟨g5, 5, 0⟩ 0), (6, dN j)], σ := [(⟨g0, 1, 0⟩, .box 30 (prC p)), (⟨g5, 5, 0⟩, .box 48 (deC D))] } s) D.sigs.length ?_ ?_
        · refine ⟨0, H, Nat.zero_le _, rfl, by omega, by rw [hH]; rfl, le_of ?_⟩
          simp only [go_sem]
          trivial
        · rintro m s ⟨j, u, hj, rfl, hub, hu0, hle2⟩
          refine awp_keep hle2 ?_
          clear hle2
          by_cases hjt : j < D.sigs.length
          · have g2 := getM (f := encSi) hjt
            by_cases hu : u ≤ 2000
            · have hu' : (u : Int) ≤ 2000 := by omega
              have s1 := cntSi_small _ (i7 _ (List.getElem_mem hjt)) u hu
              refine awp_seq_k (fun K12 hK12 => ?_)
              refine awp_seq_k (fun K13 hK13 => ?_)
              refine awp_plain 9 (by kernel_rfl) rfl (fun g8 hg8 => ?_)
              simp only [go_sem, hu', hjt]
              refine hK13 _ ?_
              refine awp_t rfl ?_
              refine awp_skip ?_
              refine hK12 _ ?_
              refine awp_seq_k (fun K14 hK14 => ?_)
              refine awp_block ?_
              refine awp_ops (by kernel_rfl) rfl (fun g10 hg10 ops10 KR10 hops10 hKR10 => ?_)
              refine aops_eval 6 hops10 ?_
              simp only [go_sem, g2]
              refine aops_pure hops10 rfl rfl rfl (cntSi_calls _ u (i7 _ (List.getElem_mem hjt)) (by omega) _ _) (CoL.refl _) ?_
              refine aops_last 1 hops10 ?_
              simp only [go_sem]
              refine hKR10 _ ?_
              refine hK14 _ ?_
              refine awp_plain 3 (by kernel_rfl) rfl (fun g9 hg9 => ?_)
              simp only [go_sem]
              try simp (disch := omega) only [wrapN]
              rw [cnt_step hjt hu] at hu0
              refine ⟨_, ?_, j + 1, cntSi D.sigs[j] u, hjt, rfl, by omega, hu0, le_of ?_⟩
              · omega
              simp only [go_sem]
              omega
            · have hu' : ¬ (u : Int) ≤ 2000 := by omega
              rw [cnt_stop hu] at hu0
              refine awp_seq_k (fun K15 hK15 => ?_)
              refine awp_seq_k (fun K16 hK16 => ?_)
              refine awp_plain 9 (by kernel_rfl) rfl (fun g8 hg8 => ?_)
              simp only [go_sem, hu', hjt]
              refine hK16 _ ?_
              refine awp_f rfl ?_
              refine awp_exit ?_
              refine hK10 _ ?_
              refine awp_seq_k (fun K17 hK17 => ?_)
              refine awp_seq_k (fun K18 hK18 => ?_)
              refine awp_plain 1 (by kernel_rfl) rfl (fun g11 hg11 => ?_)
              simp only [go_sem]
              refine hK18 _ ?_
              refine awp_block ?_
              refine awp_loop (fun m s => ∃ j v, j ≤ D.vars.length ∧ m = D.vars.length - j ∧ v ≤ 15 * big ∧ cnt cntS D.vars (cnt cntSi D.sigs (cntHead D n')) = cnt cntS (D.vars.drop j) v ∧
                  Le { env := [(1, .ptr ⟨g0, 1, 0⟩ 0), (3, dN v), (4, dN k), (5, .ptr ⟨g5, 5, 0⟩ 0), (7, dN j)], σ := [(⟨g0, 1, 0⟩, .box 30 (prC p)), (⟨g5, 5, 0⟩, .box 48 (deC D))] } s) D.vars.length ?_ ?_
              · refine ⟨0, u, Nat.zero_le _, rfl, by omega, by rw [hu0]; rfl, le_of ?_⟩
                simp only [go_sem]
                trivial
              · rintro m s ⟨j, v, hj, rfl, hvb, hv0, hle3⟩
                refine awp_keep hle3 ?_
                clear hle3
                by_cases hjt : j < D.vars.length
                · have g3 := getM (f := encS) hjt
                  by_cases hv2 : v ≤ 2000
                  · have hv2' : (v : Int) ≤ 2000 := by omega
                    have s1 := i10 _ (List.getElem_mem hjt)
                    have s2 := cntS_le _ s1 v hv2
                    refine awp_seq_k (fun K19 hK19 => ?_)
                    refine awp_seq_k (fun K20 hK20 => ?_)
                    refine awp_plain 9 (by kernel_rfl) rfl (fun g12 hg12 => ?_)
                    simp only [go_sem, hv2', hjt]
                    refine hK20 _ ?_
                    refine awp_t rfl ?_
                    refine awp_skip ?_
                    refine hK19 _ ?_
                    refine awp_seq_k (fun K21 hK21 => ?_)
                    refine awp_block ?_
                    refine awp_plain 11 (by kernel_rfl) rfl (fun g14 hg14 => ?_)
                    simp only [go_sem, g3]
                    try simp (disch := omega) only [wrapN, Int.tdiv_eq_ediv_of_nonneg]
                    refine hK21 _ ?_
                    refine awp_plain 3 (by kernel_rfl) rfl (fun g13 hg13 => ?_)
                    simp only [go_sem]
                    try simp (disch := omega) only [wrapN]
                    rw [cnt_step hjt hv2] at hv0
                    refine ⟨_, ?_, j + 1, cntS D.vars[j] v, hjt, rfl, by omega, hv0, le_of ?_⟩
                    · omega
                    simp only [go_sem, cntS]
                    omega
                  · have hv2' : ¬ (v : Int) ≤ 2000 := by omega
                    rw [cnt_stop hv2] at hv0
                    refine awp_seq_k (fun K22 hK22 => ?_)
                    refine awp_seq_k (fun K23 hK23 => ?_)
                    refine awp_plain 9 (by kernel_rfl) rfl (fun g12 hg12 => ?_)
                    simp only [go_sem, hv2', hjt]
                    refine hK23 _ ?_
                    refine awp_f rfl ?_
                    refine awp_exit ?_
                    refine hK17 _ ?_
                    refine awp_seq_k (fun K24 hK24 => ?_)
                    by_cases hv : v ≤ 2000
                    · have hv' : (v : Int) ≤ 2000 := by omega
                      have t1 := cntSi_le D.sig i11 v
                      have t2 := countEx_le D.body i12 (cntSi D.sig v)
                      have ht : cntTail D v = countEx D.body (cntSi D.sig v) := by unfold cntTail; rw [if_pos hv]
                      refine awp_plain 2 (by kernel_rfl) rfl (fun g15 hg15 => ?_)
                      simp only [go_sem, hv']
                      refine hK24 _ ?_
                      refine awp_t rfl ?_
                      refine awp_any 7 (by kernel_rfl) (by kernel_rfl) rfl (fun g16 hg16 ops16 KR16 hops16 hKR16 => ?_)
                      refine qrun_eval 5 hops16 ?_
                      simp only [go_sem]
                      refine qrun_pure hops16 rfl rfl rfl (cntSi_calls D.sig v i11 (by omega) _ _) (CoL.refl _) rfl ?_
                      refine qrun_pure hops16 rfl rfl rfl (countEx_calls _ i12 _ _ _ (by omega)) (CoL.refl _) rfl ?_
                      refine qrun_last 0 hops16 ?_
                      simp only [go_sem]
                      refine aops_last 1 hops16 ?_
                      simp only [go_sem]
                      refine hKR16 _ ?_
                      refine hK7 _ ?_
                      refine awp_plain 3 (by kernel_rfl) rfl (fun g4 hg4 => ?_)
                      simp only [go_sem]
                      try simp (disch := omega) only [wrapN]
                      refine ⟨_, ?_, k + 1, cntDe D n', hlt, rfl, by omega, hc, le_of ?_⟩
                      · omega
                      rw [show cntDe D n' = countEx D.body (cntSi D.sig v) by rw [← ht, ← hv0]; rfl]
                      simp only [go_sem]
                      omega
                    · have hv' : ¬ (v : Int) ≤ 2000 := by omega
                      have ht : cntTail D v = v := by unfold cntTail; rw [if_neg hv]
                      refine awp_plain 2 (by kernel_rfl) rfl (fun g15 hg15 => ?_)
                      simp only [go_sem, hv']
                      refine hK24 _ ?_
                      refine awp_f rfl ?_
                      refine awp_skip ?_
                      refine hK7 _ ?_
                      refine awp_plain 3 (by kernel_rfl) rfl (fun g4 hg4 => ?_)
                      simp only [go_sem]
                      try simp (disch := omega) only [wrapN]
                      refine ⟨_, ?_, k + 1, cntDe D n', hlt, rfl, by omega, hc, le_of ?_⟩
                      · omega
                      rw [show cntDe D n' = v by rw [← ht, ← hv0]; rfl]
                      simp only [go_sem]
                      omega
                · rw [dropN _ _ (by omega)] at hv0
                  simp only [cnt] at hv0
                  refine awp_seq_k (fun K25 hK25 => ?_)
                  refine awp_seq_k (fun K26 hK26 => ?_)
                  refine awp_plain 9 (by kernel_rfl) rfl (fun g12 hg12 => ?_)
                  simp only [go_sem, hjt]
                  refine hK26 _ ?_
                  refine awp_f rfl ?_
                  refine awp_exit ?_
                  refine hK17 _ ?_
                  refine awp_seq_k (fun K27 hK27 => ?_)
                  by_cases hv : v ≤ 2000
                  · have hv' : (v : Int) ≤ 2000 := by omega
                    have t1 := cntSi_le D.sig i11 v
                    have t2 := countEx_le D.body i12 (cntSi D.sig v)
                    have ht : cntTail D v = countEx D.body (cntSi D.sig v) := by unfold cntTail; rw [if_pos hv]
                    refine awp_plain 2 (by kernel_rfl) rfl (fun g15 hg15 => ?_)
                    simp only [go_sem, hv']
                    refine hK27 _ ?_
                    refine awp_t rfl ?_
                    refine awp_any 7 (by kernel_rfl) (by kernel_rfl) rfl (fun g16 hg16 ops16 KR16 hops16 hKR16 => ?_)
                    refine qrun_eval 5 hops16 ?_
                    simp only [go_sem]
                    refine qrun_pure hops16 rfl rfl rfl (cntSi_calls D.sig v i11 (by omega) _ _) (CoL.refl _) rfl ?_
                    refine qrun_pure hops16 rfl rfl rfl (countEx_calls _ i12 _ _ _ (by omega)) (CoL.refl _) rfl ?_
                    refine qrun_last 0 hops16 ?_
                    simp only [go_sem]
                    refine aops_last 1 hops16 ?_
                    simp only [go_sem]
                    refine hKR16 _ ?_
                    refine hK7 _ ?_
                    refine awp_plain 3 (by kernel_rfl) rfl (fun g4 hg4 => ?_)
                    simp only [go_sem]
                    try simp (disch := omega) only [wrapN]
                    refine ⟨_, ?_, k + 1, cntDe D n', hlt, rfl, by omega, hc, le_of ?_⟩
                    · omega
                    rw [show cntDe D n' = countEx D.body (cntSi D.sig v) by rw [← ht, ← hv0]; rfl]
                    simp only [go_sem]
                    omega
                  · have hv' : ¬ (v : Int) ≤ 2000 := by omega
                    have ht : cntTail D v = v := by unfold cntTail; rw [if_neg hv]
                    refine awp_plain 2 (by kernel_rfl) rfl (fun g15 hg15 => ?_)
                    simp only [go_sem, hv']
                    refine hK27 _ ?_
                    refine awp_f rfl ?_
                    refine awp_skip ?_
                    refine hK7 _ ?_
                    refine awp_plain 3 (by kernel_rfl) rfl (fun g4 hg4 => ?_)
                    simp only [go_sem]
                    try simp (disch := omega) only [wrapN]
                    refine ⟨_, ?_, k + 1, cntDe D n', hlt, rfl, by omega, hc, le_of ?_⟩
                    · omega
                    rw [show cntDe D n' = v by rw [← ht, ← hv0]; rfl]
                    simp only [go_sem]
                    omega
          · rw [dropN _ _ (by omega)] at hu0
            simp only [cnt] at hu0
            refine awp_seq_k (fun K28 hK28 => ?_)
            refine awp_seq_k (fun K29 hK29 => ?_)
            refine awp_plain 9 (by kernel_rfl) rfl (fun g8 hg8 => ?_)
            simp only [go_sem, hjt]
            refine hK29 _ ?_
            refine awp_f rfl ?_
            refine awp_exit ?_
            refine hK10 _ ?_
            refine awp_seq_k (fun K30 hK30 => ?_)
            refine awp_seq_k (fun K31 hK31 => ?_)
            refine awp_plain 1 (by kernel_rfl) rfl (fun g11 hg11 => ?_)
            simp only [go_sem]
            refine hK31 _ ?_
            refine awp_block ?_
            refine awp_loop (fun m s => ∃ j v, j ≤ D.vars.length ∧ m = D.vars.length - j ∧ v ≤ 15 * big ∧ cnt cntS D.vars (cnt cntSi D.sigs (cntHead D n')) = cnt cntS (D.vars.drop j) v ∧
                Le { env := [(1, .ptr ⟨g0, 1, 0⟩ 0), (3, dN v), (4, dN k), (5, .ptr ⟨g5, 5, 0⟩ 0), (7, dN j)], σ := [(⟨g0, 1, 0⟩, .box 30 (prC p)), (⟨g5, 5, 0⟩, .box 48 (deC D))] } s) D.vars.length ?_ ?_
            · refine ⟨0, u, Nat.zero_le _, rfl, by omega, by rw [hu0]; rfl, le_of ?_⟩
              simp only [go_sem]
              trivial
            · rintro m s ⟨j, v, hj, rfl, hvb, hv0, hle3⟩
              refine awp_keep hle3 ?_
              clear hle3
              by_cases hjt : j < D.vars.length
              · have g3 := getM (f := encS) hjt
                by_cases hv2 : v ≤ 2000
                · have hv2' : (v : Int) ≤ 2000 := by omega
                  have s1 := i10 _ (List.getElem_mem hjt)
                  have s2 := cntS_le _ s1 v hv2
                  refine awp_seq_k (fun K32 hK32 => ?_)
                  refine awp_seq_k (fun K33 hK33 => ?_)
                  refine awp_plain 9 (by kernel_rfl) rfl (fun g12 hg12 => ?_)
                  simp only [go_sem, hv2', hjt]
                  refine hK33 _ ?_
                  refine awp_t rfl ?_
                  refine awp_skip ?_
                  refine hK32 _ ?_
                  refine awp_seq_k (fun K34 hK34 => ?_)
                  refine awp_block ?_
                  refine awp_plain 11 (by kernel_rfl) rfl (fun g14 hg14 => ?_)
                  simp only [go_sem, g3]
                  try simp (disch := omega) only [wrapN, Int.tdiv_eq_ediv_of_nonneg]
                  refine hK34 _ ?_
                  refine awp_plain 3 (by kernel_rfl) rfl (fun g13 hg13 => ?_)
                  simp only [go_sem]
                  try simp (disch := omega) only [wrapN]
                  rw [cnt_step hjt hv2] at hv0
                  refine ⟨_, ?_, j + 1, cntS D.vars[j] v, hjt, rfl, by omega, hv0, le_of ?_⟩
                  · omega
                  simp only [go_sem, cntS]
                  omega
                · have hv2' : ¬ (v : Int) ≤ 2000 := by omega
                  rw [cnt_stop hv2] at hv0
                  refine awp_seq_k (fun K35 hK35 => ?_)
                  refine awp_seq_k (fun K36 hK36 => ?_)
                  refine awp_plain 9 (by kernel_rfl) rfl (fun g12 hg12 => ?_)
                  simp only [go_sem, hv2', hjt]
                  refine hK36 _ ?_
                  refine awp_f rfl ?_
                  refine awp_exit ?_
                  refine hK30 _ ?_
                  refine awp_seq_k (fun K37 hK37 => ?_)
                  by_cases hv : v ≤ 2000
                  · have hv' : (v : Int) ≤ 2000 := by omega
                    have t1 := cntSi_le D.sig i11 v
                    have t2 := countEx_le D.body i12 (cntSi D.sig v)
                    have ht : cntTail D v = countEx D.body (cntSi D.sig v) := by unfold cntTail; rw [if_pos hv]
                    refine awp_plain 2 (by kernel_rfl) rfl (fun g15 hg15 => ?_)
                    simp only [go_sem, hv']
                    refine hK37 _ ?_
                    refine awp_t rfl ?_
                    refine awp_any 7 (by kernel_rfl) (by kernel_rfl) rfl (fun g16 hg16 ops16 KR16 hops16 hKR16 => ?_)
                    refine qrun_eval 5 hops16 ?_
                    simp only [go_sem]
                    refine qrun_pure hops16 rfl rfl rfl (cntSi_calls D.sig v i11 (by omega) _ _) (CoL.refl _) rfl ?_
                    refine qrun_pure hops16 rfl rfl rfl (countEx_calls _ i12 _ _ _ (by omega)) (CoL.refl _) rfl ?_
                    refine qrun_last 0 hops16 ?_
                    simp only [go_sem]
                    refine aops_last 1 hops16 ?_
                    simp only [go_sem]
                    refine hKR16 _ ?_
                    refine hK7 _ ?_
                    refine awp_plain 3 (by kernel_rfl) rfl (fun g4 hg4 => ?_)
                    simp only [go_sem]
                    try simp (disch := omega) only [wrapN]
                    refine ⟨_, ?_, k + 1, cntDe D n', hlt, rfl, by omega, hc, le_of ?_⟩
                    · omega
                    rw [show cntDe D n' = countEx D.body (cntSi D.sig v) by rw [← ht, ← hv0]; rfl]
                    simp only [go_sem]
                    omega
                  · have hv' : ¬ (v : Int) ≤ 2000 := by omega
                    have ht : cntTail D v = v := by unfold cntTail; rw [if_neg hv]
                    refine awp_plain 2 (by kernel_rfl) rfl (fun g15 hg15 => ?_)
                    simp only [go_sem, hv']
                    refine hK37 _ ?_
                    refine awp_f rfl ?_
                    refine awp_skip ?_
                    refine hK7 _ ?_
                    refine awp_plain 3 (by kernel_rfl) rfl (fun g4 hg4 => ?_)
                    simp only [go_sem]
                    try simp (disch := omega) only [wrapN]
                    refine ⟨_, ?_, k + 1, cntDe D n', hlt, rfl, by omega, hc, le_of ?_⟩
                    · omega
                    rw [show cntDe D n' = v by rw [← ht, ← hv0]; rfl]
                    simp only [go_sem]
                    omega
              · rw [dropN _ _ (by omega)] at hv0
                simp only [cnt] at hv0
                refine awp_seq_k (fun K38 hK38 => ?_)
                refine awp_seq_k (fun K39 hK39 => ?_)
                refine awp_plain 9 (by kernel_rfl) rfl (fun g12 hg12 => ?_)
                simp only [go_sem, hjt]
                refine hK39 _ ?_
                refine awp_f rfl ?_
                refine awp_exit ?_
                refine hK30 _ ?_
                refine awp_seq_k (fun K40 hK40 => ?_)
                by_cases hv : v ≤ 2000
                · have hv' : (v : Int) ≤ 2000 := by omega
                  have t1 := cntSi_le D.sig i11 v
                  have t2 := countEx_le D.body i12 (cntSi D.sig v)
                  have ht : cntTail D v = countEx D.body (cntSi D.sig v) := by unfold cntTail; rw [if_pos hv]
                  refine awp_plain 2 (by kernel_rfl) rfl (fun g15 hg15 => ?_)
                  simp only [go_sem, hv']
                  refine hK40 _ ?_
                  refine awp_t rfl ?_
                  refine awp_any 7 (by kernel_rfl) (by kernel_rfl) rfl (fun g16 hg16 ops16 KR16 hops16 hKR16 => ?_)
                  refine qrun_eval 5 hops16 ?_
                  simp only [go_sem]
                  refine qrun_pure hops16 rfl rfl rfl (cntSi_calls D.sig v i11 (by omega) _ _) (CoL.refl _) rfl ?_
                  refine qrun_pure hops16 rfl rfl rfl (countEx_calls _ i12 _ _ _ (by omega)) (CoL.refl _) rfl ?_
                  refine qrun_last 0 hops16 ?_
                  simp only [go_sem]
                  refine aops_last 1 hops16 ?_
                  simp only [go_sem]
                  refine hKR16 _ ?_
                  refine hK7 _ ?_
                  refine awp_plain 3 (by kernel_rfl) rfl (fun g4 hg4 => ?_)
                  simp only [go_sem]
                  try simp (disch := omega) only [wrapN]
                  refine ⟨_, ?_, k + 1, cntDe D n', hlt, rfl, by omega, hc, le_of ?_⟩
                  · omega
                  rw [show cntDe D n' = countEx D.body (cntSi D.sig v) by rw [← ht, ← hv0]; rfl]
                  simp only [go_sem]
                  omega
                · have hv' : ¬ (v : Int) ≤ 2000 := by omega
                  have ht : cntTail D v = v := by unfold cntTail; rw [if_neg hv]
                  refine awp_plain 2 (by kernel_rfl) rfl (fun g15 hg15 => ?_)
                  simp only [go_sem, hv']
                  refine hK40 _ ?_
                  refine awp_f rfl ?_
                  refine awp_skip ?_
                  refine hK7 _ ?_
                  refine awp_plain 3 (by kernel_rfl) rfl (fun g4 hg4 => ?_)
                  simp only [go_sem]
                  try simp (disch := omega) only [wrapN]
                  refine ⟨_, ?_, k + 1, cntDe D n', hlt, rfl, by omega, hc, le_of ?_⟩
                  · omega
                  rw [show cntDe D n' = v by rw [← ht, ← hv0]; rfl]
                  simp only [go_sem]
                  omega
      · have hle' : ¬ (n' : Int) ≤ 2000 := by omega
        refine awp_seq_k (fun K41 hK41 => ?_)
        refine awp_seq_k (fun K42 hK42 => ?_)
        refine awp_plain 9 (by kernel_rfl) rfl (fun g3 hg3 => ?_)
        simp only [go_sem, hle', hlt]
        refine hK42 _ ?_
        rw [cnt_stop hle] at hc
        subst hc
        refine awp_f rfl ?_
        refine awp_exit ?_
        refine hK3 _ ?_
        refine awp_seq_k (fun K43 hK43 => ?_)
        refine awp_plain 2 (by kernel_rfl) rfl (fun g17 hg17 => ?_)
        simp only [go_sem]
        refine hK43 _ ?_
        refine awp_ret ?_
        refine ends_ev rfl ?_
        simp only [go_sem]
        exact Co.refl _
    · refine awp_seq_k (fun K44 hK44 => ?_)
      refine awp_seq_k (fun K45 hK45 => ?_)
      refine awp_plain 9 (by kernel_rfl) rfl (fun g3 hg3 => ?_)
      simp only [go_sem, hlt]
      refine hK45 _ ?_
      rw [dropN _ _ (by omega)] at hc
      simp only [cnt] at hc
      subst hc
      refine awp_f rfl ?_
      refine awp_exit ?_
      refine hK3 _ ?_
      refine awp_seq_k (fun K46 hK46 => ?_)
      refine awp_plain 2 (by kernel_rfl) rfl (fun g17 hg17 => ?_)
      simp only [go_sem]
      refine hK46 _ ?_
      refine awp_ret ?_
      refine ends_ev rfl ?_
      simp only [go_sem]
      exact Co.refl _

theorem few06_calls (p : Prg) (hp : okPr p) (g d : Nat) : ACalls E 6 [encPr p] [] g d (dB (decide (cntPr p ≤ 600))) [] := by
  have h : ((cntPr p : Int) ≤ 600) = (cntPr p ≤ 600) := by apply propext; omega
  refine acalls_of_awp (fn := Tryz.f6) (N := 6) Tryz.call6 Tryz.func6 rfl rfl (by simp) ?_
  simp only [go_sem]
  refine awp_seq_k (fun K1 hK1 => ?_)
  refine awp_plain 2 (by kernel_rfl) rfl (fun g0 hg0 => ?_)
  simp only [go_sem]
  refine hK1 _ ?_
  refine awp_seq_k (fun K2 hK2 => ?_)
  refine awp_ops (by kernel_rfl) rfl (fun g1 hg1 ops1 KR1 hops1 hKR1 => ?_)
  refine aops_eval 1 hops1 ?_
  simp only [go_sem]
  refine aops_pure hops1 rfl rfl rfl (cntPr_calls _ hp _ _) (CoL.refl _) ?_
  refine aops_last 2 hops1 ?_
  simp only [go_sem]
  refine hKR1 _ ?_
  refine hK2 _ ?_
  refine awp_ret ?_
  refine ends_ev rfl ?_
  simp only [go_sem]
  exact Co.of_eq (by simp only [h])

end Go.Proofs.T


namespace Go.Proofs.T
open Go Go.Ab Go.RowKit

/-! ## What is counted as small has small sizes -/

theorem cnt_ge {α : Type} {f : α → Nat → Nat} (hf : ∀ a n, n ≤ f a n) : ∀ (l : List α) (n : Nat), n ≤ cnt f l n
  | [], n => Nat.le_refl _
  | a :: r, n => by
    simp only [cnt]
    split
    · exact Nat.le_trans (hf a n) (cnt_ge hf r _)
    · exact Nat.le_refl _
theorem cnt_small {α : Type} {f : α → Nat → Nat} (hf : ∀ a n, n + 1 ≤ f a n) : ∀ (l : List α) (n : Nat), cnt f l n ≤ 2000 → n + l.length ≤ cnt f l n ∧ ∀ a ∈ l, ∃ m, f a m ≤ cnt f l n
  | [], n, _ => ⟨Nat.le_refl _, fun a h => by cases h⟩
  | a :: r, n, h => by
    have hg : ∀ m, m ≤ cnt f r m := fun m => cnt_ge (fun a n => Nat.le_trans (Nat.le_succ n) (hf a n)) r m
    have hn : n ≤ 2000 := by
      simp only [cnt] at h
      split at h
      · assumption
      · exact h
    simp only [cnt] at h ⊢
    rw [if_pos hn] at h ⊢
    obtain ⟨h1, h2⟩ := cnt_small hf r (f a n) h
    have := hf a n
    refine ⟨by simp only [List.length_cons]; omega, fun x hx => ?_⟩
    rcases List.mem_cons.1 hx with rfl | hx
    · exact ⟨n, hg _⟩
    · exact h2 x hx

theorem count_ge : ∀ (t : Ty) (n : Nat), n + 1 + t.name.size / 50 ≤ count t n := by
  refine Ty.ind fun t ih n => ?_
  rw [count_eq, countL_cnt]
  have : ∀ (l : List Ty), (∀ x ∈ l, ∀ n, n + 1 + x.name.size / 50 ≤ count x n) → ∀ n, n ≤ cnt count l n := by
    intro l
    induction l with
    | nil => intro _ n; exact Nat.le_refl _
    | cons a r ih2 =>
      intro h n
      simp only [cnt]
      split
      · have := h a List.mem_cons_self n
        exact Nat.le_trans (by omega) (ih2 (fun x hx => h x (List.mem_cons_of_mem _ hx)) _)
      · exact Nat.le_refl _
  exact this _ ih _

theorem count_sm : ∀ (t : Ty) (n : Nat), count t n ≤ 2000 → smTy t := by
  refine Ty.ind fun t ih n h => ?_
  have h0 := count_ge t n
  rw [count_eq, countL_cnt] at h
  obtain ⟨h1, h2⟩ := cnt_small (fun a n => by have := count_ge a n; omega) _ _ h
  refine (smTy_iff t).2 ⟨?_, by omega, fun x hx => ?_⟩
  · rw [count_eq, countL_cnt] at h0; omega
  · obtain ⟨m, hm⟩ := h2 x hx
    exact ih x hx m (by omega)

theorem cntFm_sm (f : Formal) (n : Nat) (h : cntFm f n ≤ 2000) : smFm f := by
  have := count_ge f.bound (n + 1 + f.name.size / 50)
  unfold cntFm at h
  exact ⟨by omega, count_sm _ _ h⟩
theorem cntPa_sm (f : Param) (n : Nat) (h : cntPa f n ≤ 2000) : smPa f := by
  have := count_ge f.type (n + 1 + f.name.size / 50)
  unfold cntPa at h
  exact ⟨by omega, count_sm _ _ h⟩
theorem cntFm_ge (f : Formal) (n : Nat) : n + 1 ≤ cntFm f n := by
  have := count_ge f.bound (n + 1 + f.name.size / 50)
  unfold cntFm; omega
theorem cntPa_ge (f : Param) (n : Nat) : n + 1 ≤ cntPa f n := by
  have := count_ge f.type (n + 1 + f.name.size / 50)
  unfold cntPa; omega
theorem cntFms_sm (l : List Formal) (n : Nat) (h : cnt cntFm l n ≤ 2000) : l.length ≤ 2000 ∧ ∀ f ∈ l, smFm f := by
  obtain ⟨h1, h2⟩ := cnt_small cntFm_ge l n h
  exact ⟨by omega, fun f hf => let ⟨m, hm⟩ := h2 f hf; cntFm_sm f m (by omega)⟩
theorem cntPas_sm (l : List Param) (n : Nat) (h : cnt cntPa l n ≤ 2000) : l.length ≤ 2000 ∧ ∀ f ∈ l, smPa f := by
  obtain ⟨h1, h2⟩ := cnt_small cntPa_ge l n h
  exact ⟨by omega, fun f hf => let ⟨m, hm⟩ := h2 f hf; cntPa_sm f m (by omega)⟩
theorem cntTys_sm (l : List Ty) (n : Nat) (h : cnt count l n ≤ 2000) : l.length ≤ 2000 ∧ ∀ f ∈ l, smTy f := by
  obtain ⟨h1, h2⟩ := cnt_small (fun t n => by have := count_ge t n; omega) l n h
  exact ⟨by omega, fun f hf => let ⟨m, hm⟩ := h2 f hf; count_sm f m (by omega)⟩

theorem cntSi_ge (s : Sig) (n : Nat) : n + 1 ≤ cntSi s n := by
  have h1 := cnt_ge (fun a n => Nat.le_trans (Nat.le_succ n) (cntFm_ge a n)) s.formals (n + s.name.size / 50)
  have h2 := cnt_ge (fun a n => Nat.le_trans (Nat.le_succ n) (cntPa_ge a n)) s.params (cnt cntFm s.formals (n + s.name.size / 50))
  have h3 := count_ge s.result (cnt cntPa s.params (cnt cntFm s.formals (n + s.name.size / 50)))
  unfold cntSi
  omega
theorem cntSi_sm (s : Sig) (n : Nat) (h : cntSi s n ≤ 2000) : smSi s ∧ s.formals.length ≤ 2000 ∧ s.params.length ≤ 2000 := by
  have h1 := cnt_ge (fun a n => Nat.le_trans (Nat.le_succ n) (cntFm_ge a n)) s.formals (n + s.name.size / 50)
  have h2 := cnt_ge (fun a n => Nat.le_trans (Nat.le_succ n) (cntPa_ge a n)) s.params (cnt cntFm s.formals (n + s.name.size / 50))
  have h3 := count_ge s.result (cnt cntPa s.params (cnt cntFm s.formals (n + s.name.size / 50)))
  unfold cntSi at h
  have a1 := cntFms_sm s.formals (n + s.name.size / 50) (by omega)
  have a2 := cntPas_sm s.params _ (show cnt cntPa s.params (cnt cntFm s.formals (n + s.name.size / 50)) ≤ 2000 by omega)
  exact ⟨⟨by omega, ⟨by omega, a1.2⟩, ⟨by omega, a2.2⟩, count_sm _ _ h⟩, a1.1, a2.1⟩

/-! ## The guards of the laws -/

def zeroEx : Ex := .mk 0 ByteArray.empty zeroTy [] [] 0
def decSig (s : Sig) : Dec := ⟨0, ByteArray.empty, [], [], [], ByteArray.empty, [], s, zeroEx, 0⟩
def decEnv (l : List Formal) : Dec := ⟨0, ByteArray.empty, l, [], [], ByteArray.empty, [], zeroSi, zeroEx, 0⟩
def few10 (s : Sig) : Bool := decide (cntPr ⟨[decSig s], zeroEx⟩ ≤ 600)
def fewEnv (l : List Formal) : Bool := decide (cntPr ⟨[decEnv l], zeroEx⟩ ≤ 600)

theorem countEx_ge : ∀ (e : Ex) (n : Nat), n + 1 ≤ countEx e n := by
  refine Ex.ind fun e ih n => ?_
  rw [countEx_eq]
  have h1 := count_ge e.type (n + e.name.size / 50)
  have h2 := cnt_ge (f := count) (fun t m => by have := count_ge t m; omega) e.targs (count e.type (n + e.name.size / 50))
  have : ∀ (l : List Ex), (∀ x ∈ l, ∀ n, n + 1 ≤ countEx x n) → ∀ n, n ≤ cnt countEx l n := by
    intro l
    induction l with
    | nil => intro _ n; exact Nat.le_refl _
    | cons a r ih2 =>
      intro h n
      simp only [cnt]
      split
      · have := h a List.mem_cons_self n
        exact Nat.le_trans (by omega) (ih2 (fun x hx => h x (List.mem_cons_of_mem _ hx)) _)
      · exact Nat.le_refl _
  have h3 := this e.kids ih (cnt count e.targs (count e.type (n + e.name.size / 50)))
  omega

end Go.Proofs.T


namespace Go.Proofs.T
open Go Go.Ab Go.RowKit

/-! ## Being the same is an equivalence -/

mutual
def strip : Ty → Ty
  | .mk n x _ => .mk n (strips x) 0
def strips : List Ty → List Ty
  | [] => []
  | t :: r => strip t :: strips r
end
mutual
theorem cmpTy_iff : ∀ (t u : Ty), cmpTy t u = 0 ↔ strip t = strip u
  | .mk a x p, .mk b y q => by
    simp only [cmpTy, strip, Ty.mk.injEq, and_true]
    rw [← cmpTys_iff x y, ← cmpS_zero]
    split
    · rename_i h; simp [h]
    · rename_i h; simp [h]
theorem cmpTys_iff : ∀ (x y : List Ty), cmpTys x y = 0 ↔ strips x = strips y
  | [], [] => by simp [cmpTys]
  | [], _ :: _ => by simp [cmpTys, strips]
  | _ :: _, [] => by simp [cmpTys, strips]
  | t :: x, u :: y => by
    simp only [cmpTys, strips, List.cons.injEq]
    rw [← cmpTys_iff x y, ← cmpTy_iff t u]
    split
    · rename_i h; simp [h]
    · rename_i h; simp [h]
end
def keyFm (a : Formal) : Str × Ty := (a.name, strip a.bound)
def keyPa (a : Param) : Str × Ty := (a.name, strip a.type)
def keySi (s : Sig) : Str × List (Str × Ty) × List (Str × Ty) × Ty := (s.name, s.formals.map keyFm, s.params.map keyPa, strip s.result)
def key (s : Sig) := keySi (canonSi s)
/-! ## The canonical form of a canonical form -/

end Go.Proofs.T


namespace Go.Proofs.T
open Go Go.Ab Go.RowKit

/-! ## What is compared with itself -/

end Go.Proofs.T


namespace Go.Proofs.T
open Go Go.Ab Go.RowKit

/-! ## Copies -/


/-! Small expressions, declarations, programs. -/
mutual
def smEx : Ex → Prop
  | .mk _ n t a c _ => n.size ≤ 1000000 ∧ smTy t ∧ (a.length ≤ 1000000 ∧ ∀ x ∈ a, smTy x) ∧ c.length ≤ 1000000 ∧ smExs c
def smExs : List Ex → Prop
  | [] => True
  | t :: r => smEx t ∧ smExs r
end
theorem smExs_iff : ∀ l, smExs l ↔ ∀ t ∈ l, smEx t
  | [] => by simp [smExs]
  | t :: r => by simp [smExs, smExs_iff r]
theorem smEx_iff (e : Ex) : smEx e ↔ e.name.size ≤ 1000000 ∧ smTy e.type ∧ (e.targs.length ≤ 1000000 ∧ ∀ x ∈ e.targs, smTy x) ∧ e.kids.length ≤ 1000000 ∧ ∀ x ∈ e.kids, smEx x := by
  cases e
  simp [smEx, smExs_iff]
def smDe (d : Dec) : Prop := d.name.size ≤ 1000000 ∧ (d.formals.length ≤ 2000 ∧ ∀ f ∈ d.formals, smFm f) ∧ (d.fields.length ≤ 1000000 ∧ ∀ f ∈ d.fields, smPa f) ∧ (d.sigs.length ≤ 1000000 ∧ ∀ f ∈ d.sigs, smSi f) ∧ d.recv.size ≤ 1000000 ∧
  (d.vars.length ≤ 1000000 ∧ ∀ f ∈ d.vars, f.size ≤ 1000000) ∧ smSi d.sig ∧ smEx d.body
def smPr (p : Prg) : Prop := (p.decls.length ≤ 2000 ∧ ∀ f ∈ p.decls, smDe f) ∧ smEx p.main

end Go.Proofs.T


namespace Go.Proofs.T
open Go Go.Ab Go.RowKit

end Go.Proofs.T


namespace Go.Proofs.T
open Go Go.Ab Go.RowKit

/-! ## What is counted as small is small -/

theorem cntEx_sm : ∀ (e : Ex) (n : Nat), countEx e n ≤ 2000 → smEx e := by
  refine Ex.ind fun e ih n h => ?_
  have h1 := count_ge e.type (n + e.name.size / 50)
  have h2 := cnt_ge (f := count) (fun t m => by have := count_ge t m; omega) e.targs (count e.type (n + e.name.size / 50))
  rw [countEx_eq] at h
  obtain ⟨k1, k2⟩ := cnt_small countEx_ge e.kids _ h
  obtain ⟨k3, k4⟩ := cntTys_sm e.targs (count e.type (n + e.name.size / 50)) (by omega)
  have k5 := count_sm e.type (n + e.name.size / 50) (by omega)
  refine (smEx_iff e).2 ⟨by omega, k5, ⟨by omega, k4⟩, by omega, fun x hx => ?_⟩
  obtain ⟨m, hm⟩ := k2 x hx
  exact ih x hx m (by omega)

theorem cntS_ge (v : Str) (n : Nat) : n + 1 ≤ cntS v n := by unfold cntS; omega

theorem cntDe_sm (d : Dec) (n : Nat) (h : cntDe d n ≤ 2000) : smDe d := by
  have g1 := cnt_ge (fun a n => Nat.le_trans (Nat.le_succ n) (cntFm_ge a n)) d.formals (n + 1 + d.name.size / 50 + d.recv.size / 50)
  have g2 := cnt_ge (fun a n => Nat.le_trans (Nat.le_succ n) (cntPa_ge a n)) d.fields (cnt cntFm d.formals (n + 1 + d.name.size / 50 + d.recv.size / 50))
  have g3 := cnt_ge (fun a n => Nat.le_trans (Nat.le_succ n) (cntSi_ge a n)) d.sigs (cntHead d n)
  have g4 := cnt_ge (fun a n => Nat.le_trans (Nat.le_succ n) (cntS_ge a n)) d.vars (cnt cntSi d.sigs (cntHead d n))
  have g5 := cntSi_ge d.sig (cnt cntS d.vars (cnt cntSi d.sigs (cntHead d n)))
  have g6 := countEx_ge d.body (cntSi d.sig (cnt cntS d.vars (cnt cntSi d.sigs (cntHead d n))))
  have e0 : cntHead d n = cnt cntPa d.fields (cnt cntFm d.formals (n + 1 + d.name.size / 50 + d.recv.size / 50)) := rfl
  unfold cntDe cntTail at h
  split at h
  · have a1 := cntFms_sm d.formals (n + 1 + d.name.size / 50 + d.recv.size / 50) (by omega)
    have a2 := cntPas_sm d.fields (cnt cntFm d.formals (n + 1 + d.name.size / 50 + d.recv.size / 50)) (by omega)
    obtain ⟨a3, a4⟩ := cnt_small cntSi_ge d.sigs (cntHead d n) (by omega)
    obtain ⟨a5, a6⟩ := cnt_small cntS_ge d.vars (cnt cntSi d.sigs (cntHead d n)) (by omega)
    have a7 := cntSi_sm d.sig (cnt cntS d.vars (cnt cntSi d.sigs (cntHead d n))) (by omega)
    have a8 := cntEx_sm d.body (cntSi d.sig (cnt cntS d.vars (cnt cntSi d.sigs (cntHead d n)))) (by omega)
    refine ⟨by omega, ⟨by omega, a1.2⟩, ⟨by omega, a2.2⟩, ⟨by omega, fun s hs => ?_⟩, by omega, ⟨by omega, fun v hv => ?_⟩, a7.1, a8⟩
    · obtain ⟨m, hm⟩ := a4 s hs
      exact (cntSi_sm s m (by omega)).1
    · obtain ⟨m, hm⟩ := a6 v hv
      have e1 : cntS v m = m + 1 + v.size / 50 := rfl
      omega
  · omega

theorem cntDe_ge (d : Dec) (n : Nat) : n + 1 ≤ cntDe d n := by
  have g1 := cnt_ge (fun a n => Nat.le_trans (Nat.le_succ n) (cntFm_ge a n)) d.formals (n + 1 + d.name.size / 50 + d.recv.size / 50)
  have g2 := cnt_ge (fun a n => Nat.le_trans (Nat.le_succ n) (cntPa_ge a n)) d.fields (cnt cntFm d.formals (n + 1 + d.name.size / 50 + d.recv.size / 50))
  have g3 := cnt_ge (fun a n => Nat.le_trans (Nat.le_succ n) (cntSi_ge a n)) d.sigs (cntHead d n)
  have g4 := cnt_ge (fun a n => Nat.le_trans (Nat.le_succ n) (cntS_ge a n)) d.vars (cnt cntSi d.sigs (cntHead d n))
  have g5 := cntSi_ge d.sig (cnt cntS d.vars (cnt cntSi d.sigs (cntHead d n)))
  have g6 := countEx_ge d.body (cntSi d.sig (cnt cntS d.vars (cnt cntSi d.sigs (cntHead d n))))
  have e0 : cntHead d n = cnt cntPa d.fields (cnt cntFm d.formals (n + 1 + d.name.size / 50 + d.recv.size / 50)) := rfl
  unfold cntDe cntTail
  split <;> omega

theorem cntPr_sm (p : Prg) (h : cntPr p ≤ 600) : smPr p ∧ p.decls.length ≤ 600 := by
  unfold cntPr at h
  have g1 := countEx_ge p.main 0
  have g2 := cnt_ge (fun a n => Nat.le_trans (Nat.le_succ n) (cntDe_ge a n)) p.decls (countEx p.main 0)
  obtain ⟨a1, a2⟩ := cnt_small cntDe_ge p.decls (countEx p.main 0) (by omega)
  refine ⟨⟨⟨by omega, fun d hd => ?_⟩, cntEx_sm p.main 0 (by omega)⟩, by omega⟩
  obtain ⟨m, hm⟩ := a2 d hd
  exact cntDe_sm d m (by omega)
end Go.Proofs.T

