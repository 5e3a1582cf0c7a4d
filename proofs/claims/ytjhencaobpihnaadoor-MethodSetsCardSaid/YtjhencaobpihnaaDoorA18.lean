/- A part of the proof, under no conditions of its own: A18. -/
import Derived.Test.YtjhencaobpihnaaDoorA17
namespace Go.Proofs.T
open Go Go.Ab Go.RowKit

/-! ## What is counted as small has small sizes -/

theorem cnt_ge {α : Type} {f : α → Nat → Nat} (hf : ∀ a n, n ≤ f a n) : ∀ (l : List α) (n : Nat), n ≤ cnt f l n
  | [], n => Nat.le_refl _
  | a :: r, n => by
    simp only [cnt]
    split
    · exact Nat.le_trans (hf a n) (cnt_ge hf r _)
    · exact Nat.le_refl _
theorem cnt_small {α : Type} {f : α → Nat → Nat} (hf : ∀ a n, n + 1 ≤ f a n) : ∀ (l : List α) (n : Nat), cnt f l n ≤ 2000 → n + l.length ≤ cnt f l n ∧ ∀ a ∈ l, ∃ m, f a m ≤ cnt f l n
  | [], n, _ => ⟨Nat.le_refl _, fun a h => by cases h⟩
  | a :: r, n, h => by
    have hg : ∀ m, m ≤ cnt f r m := fun m => cnt_ge (fun a n => Nat.le_trans (Nat.le_succ n) (hf a n)) r m
    have hn : n ≤ 2000 := by
      simp only [cnt] at h
      split at h
      · assumption
      · exact h
    simp only [cnt] at h ⊢
    rw [if_pos hn] at h ⊢
    obtain ⟨h1, h2⟩ := cnt_small hf r (f a n) h
    have := hf a n
    refine ⟨by simp only [List.length_cons]; omega, fun x hx => ?_⟩
    rcases List.mem_cons.1 hx with rfl | hx
    · exact ⟨n, hg _⟩
    · exact h2 x hx

theorem count_ge : ∀ (t : Ty) (n : Nat), n + 1 + t.name.size / 50 ≤ count t n := by
  refine Ty.ind fun t ih n => ?_
  rw [count_eq, countL_cnt]
  have : ∀ (l : List Ty), (∀ x ∈ l, ∀ n, n + 1 + x.name.size / 50 ≤ count x n) → ∀ n, n ≤ cnt count l n := by
    intro l
    induction l with
    | nil => intro _ n; exact Nat.le_refl _
    | cons a r ih2 =>
      intro h n
      simp only [cnt]
      split
      · have := h a List.mem_cons_self n
        exact Nat.le_trans (by omega) (ih2 (fun x hx => h x (List.mem_cons_of_mem _ hx)) _)
      · exact Nat.le_refl _
  exact this _ ih _

theorem count_sm : ∀ (t : Ty) (n : Nat), count t n ≤ 2000 → smTy t := by
  refine Ty.ind fun t ih n h => ?_
  have h0 := count_ge t n
  rw [count_eq, countL_cnt] at h
  obtain ⟨h1, h2⟩ := cnt_small (fun a n => by have := count_ge a n; omega) _ _ h
  refine (smTy_iff t).2 ⟨?_, by omega, fun x hx => ?_⟩
  · rw [count_eq, countL_cnt] at h0; omega
  · obtain ⟨m, hm⟩ := h2 x hx
    exact ih x hx m (by omega)

theorem cntFm_sm (f : Formal) (n : Nat) (h : cntFm f n ≤ 2000) : smFm f := by
  have := count_ge f.bound (n + 1 + f.name.size / 50)
  unfold cntFm at h
  exact ⟨by omega, count_sm _ _ h⟩
theorem cntPa_sm (f : Param) (n : Nat) (h : cntPa f n ≤ 2000) : smPa f := by
  have := count_ge f.type (n + 1 + f.name.size / 50)
  unfold cntPa at h
  exact ⟨by omega, count_sm _ _ h⟩
theorem cntFm_ge (f : Formal) (n : Nat) : n + 1 ≤ cntFm f n := by
  have := count_ge f.bound (n + 1 + f.name.size / 50)
  unfold cntFm; omega
theorem cntPa_ge (f : Param) (n : Nat) : n + 1 ≤ cntPa f n := by
  have := count_ge f.type (n + 1 + f.name.size / 50)
  unfold cntPa; omega
theorem cntFms_sm (l : List Formal) (n : Nat) (h : cnt cntFm l n ≤ 2000) : l.length ≤ 2000 ∧ ∀ f ∈ l, smFm f := by
  obtain ⟨h1, h2⟩ := cnt_small cntFm_ge l n h
  exact ⟨by omega, fun f hf => let ⟨m, hm⟩ := h2 f hf; cntFm_sm f m (by omega)⟩
theorem cntPas_sm (l : List Param) (n : Nat) (h : cnt cntPa l n ≤ 2000) : l.length ≤ 2000 ∧ ∀ f ∈ l, smPa f := by
  obtain ⟨h1, h2⟩ := cnt_small cntPa_ge l n h
  exact ⟨by omega, fun f hf => let ⟨m, hm⟩ := h2 f hf; cntPa_sm f m (by omega)⟩
theorem cntTys_sm (l : List Ty) (n : Nat) (h : cnt count l n ≤ 2000) : l.length ≤ 2000 ∧ ∀ f ∈ l, smTy f := by
  obtain ⟨h1, h2⟩ := cnt_small (fun t n => by have := count_ge t n; omega) l n h
  exact ⟨by omega, fun f hf => let ⟨m, hm⟩ := h2 f hf; count_sm f m (by omega)⟩

theorem cntSi_ge (s : Sig) (n : Nat) : n + 1 ≤ cntSi s n := by
  have h1 := cnt_ge (fun a n => Nat.le_trans (Nat.le_succ n) (cntFm_ge a n)) s.formals (n + s.name.size / 50)
  have h2 := cnt_ge (fun a n => Nat.le_trans (Nat.le_succ n) (cntPa_ge a n)) s.params (cnt cntFm s.formals (n + s.name.size / 50))
  have h3 := count_ge s.result (cnt cntPa s.params (cnt cntFm s.formals (n + s.name.size / 50)))
  unfold cntSi
  omega
theorem cntSi_sm (s : Sig) (n : Nat) (h : cntSi s n ≤ 2000) : smSi s ∧ s.formals.length ≤ 2000 ∧ s.params.length ≤ 2000 := by
  have h1 := cnt_ge (fun a n => Nat.le_trans (Nat.le_succ n) (cntFm_ge a n)) s.formals (n + s.name.size / 50)
  have h2 := cnt_ge (fun a n => Nat.le_trans (Nat.le_succ n) (cntPa_ge a n)) s.params (cnt cntFm s.formals (n + s.name.size / 50))
  have h3 := count_ge s.result (cnt cntPa s.params (cnt cntFm s.formals (n + s.name.size / 50)))
  unfold cntSi at h
  have a1 := cntFms_sm s.formals (n + s.name.size / 50) (by omega)
  have a2 := cntPas_sm s.params _ (show cnt cntPa s.params (cnt cntFm s.formals (n + s.name.size / 50)) ≤ 2000 by omega)
  exact ⟨⟨by omega, ⟨by omega, a1.2⟩, ⟨by omega, a2.2⟩, count_sm _ _ h⟩, a1.1, a2.1⟩

/-! ## The guards of the laws -/

def zeroEx : Ex := .mk 0 ByteArray.empty zeroTy [] [] 0
def decSig (s : Sig) : Dec := ⟨0, ByteArray.empty, [], [], [], ByteArray.empty, [], s, zeroEx, 0⟩
def decEnv (l : List Formal) : Dec := ⟨0, ByteArray.empty, l, [], [], ByteArray.empty, [], zeroSi, zeroEx, 0⟩
def few10 (s : Sig) : Bool := decide (cntPr ⟨[decSig s], zeroEx⟩ ≤ 600)
def fewEnv (l : List Formal) : Bool := decide (cntPr ⟨[decEnv l], zeroEx⟩ ≤ 600)

theorem okTy_zero : okTy zeroTy := (okTy_iff _).2 ⟨by simp [zeroTy], by simp [zeroTy], by simp [zeroTy]⟩
theorem okEx_zero : okEx zeroEx := (okEx_iff _).2 ⟨by simp [zeroEx], okTy_zero, ⟨by simp [zeroEx], by simp [zeroEx]⟩, by simp [zeroEx], by simp [zeroEx]⟩
theorem okSi_zero : okSi zeroSi := ⟨by simp [zeroSi], ⟨by simp [zeroSi], by simp [zeroSi]⟩, ⟨by simp [zeroSi], by simp [zeroSi]⟩, okTy_zero⟩

theorem zeroEx_count (n : Nat) : countEx zeroEx n = n + 1 := by
  rw [countEx_eq]
  simp [zeroEx, cnt, zeroTy, count_eq, countL_cnt]
theorem countEx_ge : ∀ (e : Ex) (n : Nat), n + 1 ≤ countEx e n := by
  refine Ex.ind fun e ih n => ?_
  rw [countEx_eq]
  have h1 := count_ge e.type (n + e.name.size / 50)
  have h2 := cnt_ge (f := count) (fun t m => by have := count_ge t m; omega) e.targs (count e.type (n + e.name.size / 50))
  have : ∀ (l : List Ex), (∀ x ∈ l, ∀ n, n + 1 ≤ countEx x n) → ∀ n, n ≤ cnt countEx l n := by
    intro l
    induction l with
    | nil => intro _ n; exact Nat.le_refl _
    | cons a r ih2 =>
      intro h n
      simp only [cnt]
      split
      · have := h a List.mem_cons_self n
        exact Nat.le_trans (by omega) (ih2 (fun x hx => h x (List.mem_cons_of_mem _ hx)) _)
      · exact Nat.le_refl _
  have h3 := this e.kids ih (cnt count e.targs (count e.type (n + e.name.size / 50)))
  omega

theorem few10_sm {s : Sig} (h : few10 s = true) : smSi s ∧ s.formals.length ≤ 2000 ∧ s.params.length ≤ 2000 := by
  have h := of_decide_eq_true h
  have hh : cntPr ⟨[decSig s], zeroEx⟩ = cntSi s 2 + 1 := by
    simp [cntPr, zeroEx_count, cnt, cntDe, cntTail, decSig, cntHead]
  exact cntSi_sm s 2 (by omega)
theorem fewEnv_sm {l : List Formal} (h : fewEnv l = true) : l.length ≤ 2000 ∧ ∀ f ∈ l, smFm f := by
  have h := of_decide_eq_true h
  have hh : cnt cntFm l 2 ≤ cntPr ⟨[decEnv l], zeroEx⟩ := by
    simp [cntPr, zeroEx_count, cnt, cntDe, cntTail, decEnv, cntHead]
    have := cntSi_ge zeroSi (cnt cntFm l 2)
    split <;> omega
  exact cntFms_sm l 2 (by omega)

theorem fewEnv_calls (l : List Formal) (hl : l.length ≤ 9223372036854775807 ∧ ∀ f ∈ l, okFm f) (g d : Nat) : ACalls E 6 [slFm l] [] g d (dB (fewEnv l)) [] := by
  have hp : okPr ⟨[decEnv l], zeroEx⟩ := ⟨⟨by simp, fun x hx => by
    rw [List.mem_singleton.1 hx]
    exact ⟨by simp [decEnv], hl, ⟨by simp [decEnv], by simp [decEnv]⟩, ⟨by simp [decEnv], by simp [decEnv]⟩, by simp [decEnv], ⟨by simp [decEnv], by simp [decEnv]⟩, okSi_zero, okEx_zero⟩⟩, okEx_zero⟩
  refine acalls_of_awp (fn := Tryd.f6) (N := 8) Tryd.call6 Tryd.func6 rfl rfl (by simp) ?_
  simp only [go_sem]
  refine awp_seq_k (fun K1 hK1 => ?_)
  refine awp_plain 1 (by kernel_rfl) rfl (fun g0 hg0 => ?_)
  simp only [go_sem]
  refine hK1 _ ?_
  refine awp_seq_k (fun K2 hK2 => ?_)
  refine awp_ops (by kernel_rfl) rfl (fun g1 hg1 ops1 KR1 hops1 hKR1 => ?_)
  refine aops_eval 4 hops1 ?_
  simp only [go_sem]
  refine aops_pure hops1 rfl rfl rfl (few06_calls _ hp _ _) (.cons (.agg (.cons (.one (.cons (.refl _) (.cons (.refl _) (.cons (.refl _) (.cons (.nil _) (.cons (.nil _) (.cons (.refl _) (.cons (.nil _) (.cons (.refl _) (.cons (.nil _) (.cons (.nil _) (.cons (.refl _) (.cons (.nil _) (.cons (.refl _) (.cons (.refl _) (.cons (.refl _) (.cons (.refl _) (.cons (.refl _) (.cons (.nil _) (.cons (.refl _) (.cons (.nil _) (.cons (.nil _) (.cons (.refl _) (.cons (.refl _) .nil)))))))))))))))))))))))) (.cons (.refl _) (.cons (.refl _) (.cons (.refl _) (.cons (.nil _) (.cons (.refl _) (.cons (.nil _) (.cons (.nil _) (.cons (.refl _) .nil)))))))))) .nil) ?_
  refine aops_last 1 hops1 ?_
  simp only [go_sem]
  refine hKR1 _ ?_
  refine hK2 _ ?_
  refine awp_ret ?_
  refine ends_ev rfl ?_
  simp only [go_sem]
  exact Co.refl _
end Go.Proofs.T

