/- A part of the proof, under no conditions of its own: A3. -/
import Derived.Test.YtmmfjicebmeamaaA2
namespace Go.Proofs.T
open Go Go.Ab Go.RowKit

/-! ## Comparing types -/

theorem isNaN_calls (a : Str) (g d : Nat) : ACalls E 66 [encS a] [] g d (dB false) [] := by
  refine acalls_of_awp (fn := Try.f66) (N := 6) Try.call66 Try.func66 rfl rfl (by simp) ?_
  simp only [go_sem]
  refine awp_seq_k (fun K1 hK1 => ?_)
  refine awp_plain 1 (by kernel_rfl) rfl (fun g0 hg0 => ?_)
  simp only [go_sem]
  refine hK1 _ ?_
  refine awp_seq_k (fun K2 hK2 => ?_)
  refine awp_plain 4 (by kernel_rfl) rfl (fun g1 hg1 => ?_)
  simp only [go_sem, decide_true]
  refine hK2 _ ?_
  refine awp_ret ?_
  refine ends_ev rfl ?_
  simp only [go_sem]
  exact Co.refl _

theorem cmpCompare_calls (a b : Str) (g d : Nat) : ACalls E 56 [encS a, encS b] [] g d (dI (cmpS a b)) [] := by
  refine acalls_of_awp (fn := Try.f56) (N := 20) Try.call56 Try.func56 rfl rfl (by simp) ?_
  simp only [go_sem]
  refine awp_seq_k (fun K1 hK1 => ?_)
  refine awp_plain 1 (by kernel_rfl) rfl (fun g0 hg0 => ?_)
  simp only [go_sem]
  refine hK1 _ ?_
  refine awp_seq_k (fun K2 hK2 => ?_)
  refine awp_ops (by kernel_rfl) rfl (fun g1 hg1 ops1 KR1 hops1 hKR1 => ?_)
  refine aops_eval 1 hops1 ?_
  simp only [go_sem]
  refine aops_pure hops1 rfl rfl rfl (isNaN_calls _ _ _) (CoL.refl _) ?_
  refine aops_last 1 hops1 ?_
  simp only [go_sem]
  refine hKR1 _ ?_
  refine hK2 _ ?_
  refine awp_seq_k (fun K3 hK3 => ?_)
  refine awp_ops (by kernel_rfl) rfl (fun g2 hg2 ops2 KR2 hops2 hKR2 => ?_)
  refine aops_eval 1 hops2 ?_
  simp only [go_sem]
  refine aops_pure hops2 rfl rfl rfl (isNaN_calls _ _ _) (CoL.refl _) ?_
  refine aops_last 1 hops2 ?_
  simp only [go_sem]
  refine hKR2 _ ?_
  refine hK3 _ ?_
  refine awp_seq_k (fun K4 hK4 => ?_)
  refine awp_seq_k (fun K5 hK5 => ?_)
  refine awp_plain 1 (by kernel_rfl) rfl (fun g3 hg3 => ?_)
  simp only [go_sem]
  refine hK5 _ ?_
  refine awp_f rfl ?_
  refine awp_skip ?_
  refine hK4 _ ?_
  refine awp_seq_k (fun K6 hK6 => ?_)
  refine awp_seq_k (fun K7 hK7 => ?_)
  refine awp_plain 1 (by kernel_rfl) rfl (fun g7 hg7 => ?_)
  simp only [go_sem]
  refine hK7 _ ?_
  refine awp_f rfl ?_
  refine awp_skip ?_
  refine hK6 _ ?_
  refine awp_seq_k (fun K8 hK8 => ?_)
  refine awp_seq_k (fun K9 hK9 => ?_)
  by_cases h : cmpS a b = -1
  · refine awp_plain 3 (by kernel_rfl) rfl (fun g9 hg9 => ?_)
    simp only [go_sem, cmpS_less, h]
    refine hK9 _ ?_
    refine awp_t rfl ?_
    refine awp_seq_k (fun K10 hK10 => ?_)
    refine awp_plain 1 (by kernel_rfl) rfl (fun g10 hg10 => ?_)
    simp only [go_sem]
    refine hK10 _ ?_
    refine awp_ret ?_
    rw [h]
    refine ends_ev rfl ?_
    simp only [go_sem]
    exact Co.refl _
  · refine awp_plain 3 (by kernel_rfl) rfl (fun g9 hg9 => ?_)
    simp only [go_sem, cmpS_less, h]
    refine hK9 _ ?_
    refine awp_f rfl ?_
    refine awp_skip ?_
    refine hK8 _ ?_
    refine awp_seq_k (fun K11 hK11 => ?_)
    refine awp_seq_k (fun K12 hK12 => ?_)
    by_cases h2 : a = b
    · have h3 : cmpS a b = 0 := cmpS_zero.2 h2
      subst h2
      refine awp_plain 3 (by kernel_rfl) rfl (fun g11 hg11 => ?_)
      simp only [go_sem, cmpS_less, h]
      refine hK12 _ ?_
      refine awp_f rfl ?_
      refine awp_skip ?_
      refine hK11 _ ?_
      refine awp_seq_k (fun K13 hK13 => ?_)
      refine awp_plain 1 (by kernel_rfl) rfl (fun g13 hg13 => ?_)
      simp only [go_sem]
      refine hK13 _ ?_
      refine awp_ret ?_
      rw [h3]
      refine ends_ev rfl ?_
      simp only [go_sem]
      exact Co.refl _
    · have h3 : cmpS a b = 1 := by
        rcases cmpL_range a.data.toList b.data.toList with h4 | h4 | h4
        · exact absurd h4 h
        · exact absurd (cmpS_zero.1 h4) h2
        · exact h4
      refine awp_plain 3 (by kernel_rfl) rfl (fun g11 hg11 => ?_)
      simp only [go_sem, cmpS_less, h, h2]
      refine hK12 _ ?_
      refine awp_t rfl ?_
      refine awp_seq_k (fun K14 hK14 => ?_)
      refine awp_plain 1 (by kernel_rfl) rfl (fun g12 hg12 => ?_)
      simp only [go_sem]
      refine hK14 _ ?_
      refine awp_ret ?_
      rw [h3]
      refine ends_ev rfl ?_
      simp only [go_sem]
      exact Co.refl _

theorem nameCompare_calls (a b : Str) (g d : Nat) : ACalls E 40 [encS a, encS b] [] g d (dI (cmpS a b)) [] := by
  refine acalls_of_awp (fn := Try.f40) (N := 8) Try.call40 Try.func40 rfl rfl (by simp) ?_
  simp only [go_sem]
  refine awp_seq_k (fun K1 hK1 => ?_)
  refine awp_plain 1 (by kernel_rfl) rfl (fun g0 hg0 => ?_)
  simp only [go_sem]
  refine hK1 _ ?_
  refine awp_seq_k (fun K2 hK2 => ?_)
  refine awp_ops (by kernel_rfl) rfl (fun g1 hg1 ops1 KR1 hops1 hKR1 => ?_)
  refine aops_eval 2 hops1 ?_
  simp only [go_sem]
  refine aops_pure hops1 rfl rfl rfl (cmpCompare_calls _ _ _ _) (CoL.refl _) ?_
  refine aops_last 1 hops1 ?_
  simp only [go_sem]
  refine hKR1 _ ?_
  refine hK2 _ ?_
  refine awp_ret ?_
  refine ends_ev rfl ?_
  simp only [go_sem]
  exact Co.refl _

theorem or2_calls (x : Bool) (a b : Int) (g d : Nat) : ACalls E 37 [.sl x [dI a, dI b]] [] g d (dI (if a = 0 then b else a)) [] := by
  refine acalls_of_awp (fn := Try.f37) (N := 18) Try.call37 Try.func37 rfl rfl (by simp) ?_
  simp only [go_sem]
  refine awp_seq_k (fun K1 hK1 => ?_)
  refine awp_plain 1 (by kernel_rfl) rfl (fun g0 hg0 => ?_)
  simp only [go_sem]
  refine hK1 _ ?_
  refine awp_seq_k (fun K2 hK2 => ?_)
  refine awp_plain 1 (by kernel_rfl) rfl (fun g1 hg1 => ?_)
  simp only [go_sem]
  refine hK2 _ ?_
  refine awp_seq_k (fun K3 hK3 => ?_)
  refine awp_seq_k (fun K4 hK4 => ?_)
  refine awp_plain 3 (by kernel_rfl) rfl (fun g2 hg2 => ?_)
  simp only [go_sem]
  refine hK4 _ ?_
  refine awp_block ?_
  refine awp_loop (fun m s => ∃ k, k ≤ 2 ∧ m = 2 - k ∧ (0 < k → a = 0) ∧ (1 < k → b = 0) ∧
      Le { env := [(6, .sl x [dI a, dI b]), (7, dI 2), (8, dN k), (3, dI 0)], σ := [] } s) 2 ?_ ?_
  · refine ⟨0, by omega, rfl, by omega, by omega, le_of ?_⟩
    simp only [go_sem]
    trivial
  · rintro m s ⟨k, hk, rfl, h1, h2, hle⟩
    refine awp_keep hle ?_
    clear hle
    match k, hk, h1, h2 with
    | 0, hk, h1, h2 =>
      refine awp_seq_k (fun K5 hK5 => ?_)
      refine awp_plain 1 (by kernel_rfl) rfl (fun g3 hg3 => ?_)
      simp only [go_sem]
      refine hK5 _ ?_
      refine awp_seq_k (fun K6 hK6 => ?_)
      refine awp_t rfl ?_
      refine awp_skip ?_
      refine hK6 _ ?_
      refine awp_seq_k (fun K7 hK7 => ?_)
      refine awp_block ?_
      refine awp_seq_k (fun K8 hK8 => ?_)
      refine awp_plain 3 (by kernel_rfl) rfl (fun g4 hg4 => ?_)
      simp only [go_sem]
      refine hK8 _ ?_
      refine awp_seq_k (fun K9 hK9 => ?_)
      by_cases ha : a = 0
      · subst ha
        refine awp_plain 3 (by kernel_rfl) rfl (fun g5 hg5 => ?_)
        simp only [go_sem, decide_true]
        refine hK9 _ ?_
        refine awp_f rfl ?_
        refine awp_skip ?_
        refine hK7 _ ?_
        refine awp_plain 2 (by kernel_rfl) rfl (fun g7 hg7 => ?_)
        simp only [go_sem]
        try simp (disch := omega) only [wrapN]
        refine ⟨_, ?_, 1, by omega, rfl, by simp, by omega, le_of ?_⟩
        · omega
        simp only [go_sem]
        omega
      · refine awp_plain 3 (by kernel_rfl) rfl (fun g5 hg5 => ?_)
        simp only [go_sem, ha]
        refine hK9 _ ?_
        refine awp_t rfl ?_
        refine awp_seq_k (fun K10 hK10 => ?_)
        refine awp_plain 2 (by kernel_rfl) rfl (fun g6 hg6 => ?_)
        simp only [go_sem]
        refine hK10 _ ?_
        refine awp_ret ?_
        rw [if_neg ha]
        refine ends_ev rfl ?_
        simp only [go_sem]
        exact Co.refl _
    | 1, hk, h1, h2 =>
      have ha := h1 (by omega)
      subst ha
      refine awp_seq_k (fun K11 hK11 => ?_)
      refine awp_plain 1 (by kernel_rfl) rfl (fun g3 hg3 => ?_)
      simp only [go_sem]
      refine hK11 _ ?_
      refine awp_seq_k (fun K12 hK12 => ?_)
      refine awp_t rfl ?_
      refine awp_skip ?_
      refine hK12 _ ?_
      refine awp_seq_k (fun K13 hK13 => ?_)
      refine awp_block ?_
      refine awp_seq_k (fun K14 hK14 => ?_)
      refine awp_plain 3 (by kernel_rfl) rfl (fun g4 hg4 => ?_)
      simp only [go_sem]
      refine hK14 _ ?_
      refine awp_seq_k (fun K15 hK15 => ?_)
      by_cases hb : b = 0
      · subst hb
        refine awp_plain 3 (by kernel_rfl) rfl (fun g5 hg5 => ?_)
        simp only [go_sem, decide_true]
        refine hK15 _ ?_
        refine awp_f rfl ?_
        refine awp_skip ?_
        refine hK13 _ ?_
        refine awp_plain 2 (by kernel_rfl) rfl (fun g7 hg7 => ?_)
        simp only [go_sem]
        try simp (disch := omega) only [wrapN]
        refine ⟨_, ?_, 2, by omega, rfl, by simp, by simp, le_of ?_⟩
        · omega
        simp only [go_sem]
        omega
      · refine awp_plain 3 (by kernel_rfl) rfl (fun g5 hg5 => ?_)
        simp only [go_sem, hb]
        refine hK15 _ ?_
        refine awp_t rfl ?_
        refine awp_seq_k (fun K16 hK16 => ?_)
        refine awp_plain 2 (by kernel_rfl) rfl (fun g6 hg6 => ?_)
        simp only [go_sem]
        refine hK16 _ ?_
        refine awp_ret ?_
        rw [if_pos rfl]
        refine ends_ev rfl ?_
        simp only [go_sem]
        exact Co.refl _
    | 2, hk, h1, h2 =>
      have ha := h1 (by omega)
      have hb := h2 (by omega)
      subst ha hb
      refine awp_seq_k (fun K17 hK17 => ?_)
      refine awp_plain 1 (by kernel_rfl) rfl (fun g3 hg3 => ?_)
      simp only [go_sem]
      refine hK17 _ ?_
      refine awp_seq_k (fun K18 hK18 => ?_)
      refine awp_f rfl ?_
      refine awp_exit ?_
      refine hK3 _ ?_
      refine awp_seq_k (fun K19 hK19 => ?_)
      refine awp_plain 2 (by kernel_rfl) rfl (fun g8 hg8 => ?_)
      simp only [go_sem]
      refine hK19 _ ?_
      refine awp_ret ?_
      rw [if_pos rfl]
      refine ends_ev rfl ?_
      simp only [go_sem]
      exact Co.refl _
    | k + 3, hk, _, _ => omega

mutual
def cmpTy : Ty → Ty → Int
  | .mk a x _, .mk b y _ => if cmpS a b = 0 then cmpTys x y else cmpS a b
def cmpTys : List Ty → List Ty → Int
  | [], [] => 0
  | [], _ :: _ => -1
  | _ :: _, [] => 1
  | t :: x, u :: y => if cmpTy t u = 0 then cmpTys x y else cmpTy t u
end
theorem cmpTy_eq (t u : Ty) : cmpTy t u = if cmpS t.name u.name = 0 then cmpTys t.args u.args else cmpS t.name u.name := by cases t; cases u; rw [cmpTy]; rfl

mutual
def eqTy : Ty → Ty → Bool
  | .mk a x p, .mk b y q => decide (a = b) && (decide (p = q) && eqTys x y)
def eqTys : List Ty → List Ty → Bool
  | [], [] => true
  | [], _ :: _ => false
  | _ :: _, [] => false
  | t :: x, u :: y => eqTy t u && eqTys x y
end
theorem eqTy_eq (t u : Ty) : eqTy t u = (decide (t.name = u.name) && (decide (t.pos = u.pos) && eqTys t.args u.args)) := by cases t; cases u; rw [eqTy]; rfl

mutual
theorem eqTy_iff : ∀ (t u : Ty), eqTy t u = true ↔ t = u
  | .mk a x p, .mk b y q => by
    simp only [eqTy, eqTys_iff x y, Bool.and_eq_true, decide_eq_true_eq, Ty.mk.injEq]
    constructor
    · rintro ⟨rfl, rfl, rfl⟩; exact ⟨rfl, rfl, rfl⟩
    · rintro ⟨rfl, rfl, rfl⟩; exact ⟨rfl, rfl, rfl⟩
theorem eqTys_iff : ∀ (x y : List Ty), eqTys x y = true ↔ x = y
  | [], [] => by simp [eqTys]
  | [], _ :: _ => by simp [eqTys]
  | _ :: _, [] => by simp [eqTys]
  | t :: x, u :: y => by simp [eqTys, eqTy_iff t u, eqTys_iff x y]
end
theorem eqTys_length {x y : List Ty} (h : x.length ≠ y.length) : eqTys x y = false := by
  cases he : eqTys x y with
  | false => rfl
  | true => exact absurd (congrArg List.length ((eqTys_iff x y).1 he)) h

end Go.Proofs.T

