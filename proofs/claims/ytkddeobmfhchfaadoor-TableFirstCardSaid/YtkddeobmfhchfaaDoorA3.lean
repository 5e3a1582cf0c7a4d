/- A part of the proof, under no conditions of its own: A3. -/
import Derived.Test.YtkddeobmfhchfaaDoorA2
namespace Go.Proofs.T
open Go Go.Ab Go.RowKit

/-! ## Comparing types -/

mutual
def cmpTy : Ty → Ty → Int
  | .mk a x _, .mk b y _ => if cmpS a b = 0 then cmpTys x y else cmpS a b
def cmpTys : List Ty → List Ty → Int
  | [], [] => 0
  | [], _ :: _ => -1
  | _ :: _, [] => 1
  | t :: x, u :: y => if cmpTy t u = 0 then cmpTys x y else cmpTy t u
end
theorem cmpTy_eq (t u : Ty) : cmpTy t u = if cmpS t.name u.name = 0 then cmpTys t.args u.args else cmpS t.name u.name := by cases t; cases u; rw [cmpTy]; rfl

theorem ref04Compare_calls : ∀ t : Ty, okTy t → ∀ (u : Ty) (g d : Nat), ACalls E 79 [encTy t, encTy u] [] g d (dI (cmpTy t u)) [] := by
  refine Ty.ind fun t ih => ?_
  intro ht u g d
  obtain ⟨hs1, hs2, hs3⟩ := (okTy_iff t).1 ht
  rw [cmpTy_eq]
  refine acalls_of_awp (fn := Tryd.f79) (N := 59) Tryd.call79 Tryd.func79 rfl rfl (by simp) ?_
  simp only [go_sem]
  refine awp_seq_k (fun K1 hK1 => ?_)
  refine awp_plain 3 (by kernel_rfl) rfl (fun g0 hg0 => ?_)
  simp only [go_sem]
  refine hK1 _ ?_
  refine awp_seq_k (fun K2 hK2 => ?_)
  refine awp_seq_k (fun K3 hK3 => ?_)
  by_cases hn : t.name = u.name
  · have hcs := cmpS_zero.2 hn
    refine awp_plain 5 (by kernel_rfl) rfl (fun g1 hg1 => ?_)
    simp only [go_sem, hn]
    refine hK3 _ ?_
    refine awp_f rfl ?_
    refine awp_skip ?_
    refine hK2 _ ?_
    refine awp_seq_k (fun K4 hK4 => ?_)
    refine awp_seq_k (fun K5 hK5 => ?_)
    refine awp_plain 1 (by kernel_rfl) rfl (fun g3 hg3 => ?_)
    simp only [go_sem]
    refine hK5 _ ?_
    refine awp_block ?_
    refine awp_loop (fun m s => ∃ k, k ≤ t.args.length ∧ k ≤ u.args.length ∧ m = t.args.length - k ∧ cmpTys (t.args.drop k) (u.args.drop k) = cmpTys t.args u.args ∧
      Le { env := [(2, .ptr ⟨g0, 2, 0⟩ 0), (3, .ptr ⟨g0, 3, 0⟩ 0), (5, dN k)], σ := [(⟨g0, 2, 0⟩, .box 25 (tyC t)), (⟨g0, 3, 0⟩, .box 25 (tyC u))] } s) t.args.length ?_ ?_
    · refine ⟨0, Nat.zero_le _, Nat.zero_le _, rfl, rfl, le_of ?_⟩
      simp only [go_sem, tyC, hn]
      trivial
    · rintro m s ⟨k, hka, hkb, rfl, hc, hle⟩
      refine awp_keep hle ?_
      clear hle
      by_cases ha : k < t.args.length
      · by_cases hb : k < u.args.length
        · rw [List.drop_eq_getElem_cons ha, List.drop_eq_getElem_cons hb] at hc
          simp only [cmpTys] at hc
          refine awp_seq_k (fun K6 hK6 => ?_)
          refine awp_seq_k (fun K7 hK7 => ?_)
          refine awp_plain 12 (by kernel_rfl) rfl (fun g4 hg4 => ?_)
          simp only [go_sem, tyC, ha, hb]
          refine hK7 _ ?_
          refine awp_t rfl ?_
          refine awp_skip ?_
          refine hK6 _ ?_
          refine awp_seq_k (fun K8 hK8 => ?_)
          refine awp_block ?_
          refine awp_seq_k (fun K9 hK9 => ?_)
          refine awp_any 11 (by kernel_rfl) (by kernel_rfl) rfl (fun g6 hg6 ops6 KR6 hops6 hKR6 => ?_)
          refine qrun_eval 10 hops6 ?_
          simp only [go_sem, getM ha, getM hb]
          refine qrun_pure hops6 rfl rfl rfl (ih _ (List.getElem_mem ha) (hs3 _ (List.getElem_mem ha)) _ _ _) (CoL.refl _) rfl ?_
          refine qrun_last 0 hops6 ?_
          simp only [go_sem]
          refine aops_last 1 hops6 ?_
          simp only [go_sem]
          refine hKR6 _ ?_
          refine hK9 _ ?_
          refine awp_seq_k (fun K10 hK10 => ?_)
          by_cases h0 : cmpTy t.args[k] u.args[k] = 0
          · rw [if_pos h0] at hc
            refine awp_plain 2 (by kernel_rfl) rfl (fun g7 hg7 => ?_)
            simp only [go_sem, h0]
            refine hK10 _ ?_
            refine awp_f rfl ?_
            refine awp_skip ?_
            refine hK8 _ ?_
            refine awp_plain 3 (by kernel_rfl) rfl (fun g5 hg5 => ?_)
            simp only [go_sem]
            try simp (disch := omega) only [wrapN]
            refine ⟨_, ?_, k + 1, ha, hb, rfl, hc, le_of ?_⟩
            · omega
            simp only [go_sem, tyC]
            omega
          · rw [if_neg h0] at hc
            refine awp_plain 2 (by kernel_rfl) rfl (fun g7 hg7 => ?_)
            simp only [go_sem, h0]
            refine hK10 _ ?_
            refine awp_t rfl ?_
            refine awp_seq_k (fun K11 hK11 => ?_)
            refine awp_plain 2 (by kernel_rfl) rfl (fun g8 hg8 => ?_)
            simp only [go_sem]
            refine hK11 _ ?_
            refine awp_ret ?_
            rw [if_pos hcs, ← hc]
            refine ends_ev rfl ?_
            simp only [go_sem]
            exact Co.refl _
        · rw [List.drop_eq_getElem_cons ha, dropN u.args k (by omega)] at hc
          simp only [cmpTys] at hc
          have h3 : ¬ t.args.length < u.args.length := by omega
          have h4 : u.args.length < t.args.length := by omega
          refine awp_seq_k (fun K12 hK12 => ?_)
          refine awp_seq_k (fun K13 hK13 => ?_)
          refine awp_plain 12 (by kernel_rfl) rfl (fun g4 hg4 => ?_)
          simp only [go_sem, tyC, ha, hb]
          refine hK13 _ ?_
          refine awp_f rfl ?_
          refine awp_exit ?_
          refine hK4 _ ?_
          refine awp_seq_k (fun K14 hK14 => ?_)
          refine awp_seq_k (fun K15 hK15 => ?_)
          refine awp_plain 7 (by kernel_rfl) rfl (fun g9 hg9 => ?_)
          simp only [go_sem, h3]
          refine hK15 _ ?_
          refine awp_f rfl ?_
          refine awp_skip ?_
          refine hK14 _ ?_
          refine awp_seq_k (fun K16 hK16 => ?_)
          refine awp_seq_k (fun K17 hK17 => ?_)
          refine awp_plain 7 (by kernel_rfl) rfl (fun g11 hg11 => ?_)
          simp only [go_sem, h4]
          refine hK17 _ ?_
          refine awp_t rfl ?_
          refine awp_seq_k (fun K18 hK18 => ?_)
          refine awp_plain 1 (by kernel_rfl) rfl (fun g12 hg12 => ?_)
          simp only [go_sem]
          refine hK18 _ ?_
          refine awp_ret ?_
          rw [if_pos hcs, ← hc]
          refine ends_ev rfl ?_
          simp only [go_sem]
          exact Co.refl _
      · have : k = t.args.length := by omega
        subst this
        rw [List.drop_eq_nil_of_le (Nat.le_refl _)] at hc
        refine awp_seq_k (fun K19 hK19 => ?_)
        refine awp_seq_k (fun K20 hK20 => ?_)
        refine awp_plain 12 (by kernel_rfl) rfl (fun g4 hg4 => ?_)
        simp only [go_sem, tyC, ha]
        refine hK20 _ ?_
        refine awp_f rfl ?_
        refine awp_exit ?_
        refine hK4 _ ?_
        refine awp_seq_k (fun K21 hK21 => ?_)
        refine awp_seq_k (fun K22 hK22 => ?_)
        by_cases hb : t.args.length < u.args.length
        · rw [List.drop_eq_getElem_cons hb] at hc
          simp only [cmpTys] at hc
          refine awp_plain 7 (by kernel_rfl) rfl (fun g9 hg9 => ?_)
          simp only [go_sem, hb]
          refine hK22 _ ?_
          refine awp_t rfl ?_
          refine awp_seq_k (fun K23 hK23 => ?_)
          refine awp_plain 1 (by kernel_rfl) rfl (fun g10 hg10 => ?_)
          simp only [go_sem]
          refine hK23 _ ?_
          refine awp_ret ?_
          rw [if_pos hcs, ← hc]
          refine ends_ev rfl ?_
          simp only [go_sem]
          exact Co.refl _
        · rw [List.drop_eq_nil_of_le (by omega)] at hc
          simp only [cmpTys] at hc
          have h4 : ¬ u.args.length < t.args.length := by omega
          refine awp_plain 7 (by kernel_rfl) rfl (fun g9 hg9 => ?_)
          simp only [go_sem, hb]
          refine hK22 _ ?_
          refine awp_f rfl ?_
          refine awp_skip ?_
          refine hK21 _ ?_
          refine awp_seq_k (fun K24 hK24 => ?_)
          refine awp_seq_k (fun K25 hK25 => ?_)
          refine awp_plain 7 (by kernel_rfl) rfl (fun g11 hg11 => ?_)
          simp only [go_sem, h4]
          refine hK25 _ ?_
          refine awp_f rfl ?_
          refine awp_skip ?_
          refine hK24 _ ?_
          refine awp_seq_k (fun K26 hK26 => ?_)
          refine awp_plain 1 (by kernel_rfl) rfl (fun g13 hg13 => ?_)
          simp only [go_sem]
          refine hK26 _ ?_
          refine awp_ret ?_
          rw [if_pos hcs, ← hc]
          refine ends_ev rfl ?_
          simp only [go_sem]
          exact Co.refl _
  · refine awp_plain 5 (by kernel_rfl) rfl (fun g1 hg1 => ?_)
    simp only [go_sem, hn]
    refine hK3 _ ?_
    refine awp_t rfl ?_
    refine awp_seq_k (fun K27 hK27 => ?_)
    refine awp_ops (by kernel_rfl) rfl (fun g2 hg2 ops2 KR2 hops2 hKR2 => ?_)
    refine aops_eval 4 hops2 ?_
    simp only [go_sem]
    refine aops_pure hops2 rfl rfl rfl (compareS_calls _ _ hs1 _ _) (CoL.refl _) ?_
    refine aops_last 1 hops2 ?_
    simp only [go_sem]
    refine hKR2 _ ?_
    refine hK27 _ ?_
    refine awp_ret ?_
    rw [if_neg (fun h => hn (cmpS_zero.1 h))]
    refine ends_ev rfl ?_
    simp only [go_sem]
    exact Co.refl _

theorem ref04Same_calls (t u : Ty) (ht : okTy t) (g d : Nat) : ACalls E 65 [encTy t, encTy u] [] g d (dB (decide (cmpTy t u = 0))) [] := by
  refine acalls_of_awp (fn := Tryd.f65) (N := 9) Tryd.call65 Tryd.func65 rfl rfl (by simp) ?_
  simp only [go_sem]
  refine awp_seq_k (fun K1 hK1 => ?_)
  refine awp_plain 3 (by kernel_rfl) rfl (fun g0 hg0 => ?_)
  simp only [go_sem]
  refine hK1 _ ?_
  refine awp_seq_k (fun K2 hK2 => ?_)
  refine awp_ops (by kernel_rfl) rfl (fun g1 hg1 ops1 KR1 hops1 hKR1 => ?_)
  refine aops_eval 2 hops1 ?_
  simp only [go_sem]
  refine aops_pure hops1 rfl rfl rfl (ref04Compare_calls _ ht _ _ _) (CoL.refl _) ?_
  refine aops_last 2 hops1 ?_
  simp only [go_sem]
  refine hKR1 _ ?_
  refine hK2 _ ?_
  refine awp_ret ?_
  refine ends_ev rfl ?_
  simp only [go_sem]
  exact Co.refl _

mutual
def eqTy : Ty → Ty → Bool
  | .mk a x p, .mk b y q => decide (a = b) && (decide (p = q) && eqTys x y)
def eqTys : List Ty → List Ty → Bool
  | [], [] => true
  | [], _ :: _ => false
  | _ :: _, [] => false
  | t :: x, u :: y => eqTy t u && eqTys x y
end
theorem eqTy_eq (t u : Ty) : eqTy t u = (decide (t.name = u.name) && (decide (t.pos = u.pos) && eqTys t.args u.args)) := by cases t; cases u; rw [eqTy]; rfl

mutual
theorem eqTy_iff : ∀ (t u : Ty), eqTy t u = true ↔ t = u
  | .mk a x p, .mk b y q => by
    simp only [eqTy, eqTys_iff x y, Bool.and_eq_true, decide_eq_true_eq, Ty.mk.injEq]
    constructor
    · rintro ⟨rfl, rfl, rfl⟩; exact ⟨rfl, rfl, rfl⟩
    · rintro ⟨rfl, rfl, rfl⟩; exact ⟨rfl, rfl, rfl⟩
theorem eqTys_iff : ∀ (x y : List Ty), eqTys x y = true ↔ x = y
  | [], [] => by simp [eqTys]
  | [], _ :: _ => by simp [eqTys]
  | _ :: _, [] => by simp [eqTys]
  | t :: x, u :: y => by simp [eqTys, eqTy_iff t u, eqTys_iff x y]
end
theorem eqTys_length {x y : List Ty} (h : x.length ≠ y.length) : eqTys x y = false := by
  cases he : eqTys x y with
  | false => rfl
  | true => exact absurd (congrArg List.length ((eqTys_iff x y).1 he)) h

theorem ref04Equal_calls : ∀ t : Ty, okTy t → ∀ (u : Ty) (g d : Nat), ACalls E 66 [encTy t, encTy u] [] g d (dB (eqTy t u)) [] := by
  refine Ty.ind fun t ih => ?_
  intro ht u g d
  obtain ⟨hs1, hs2, hs3⟩ := (okTy_iff t).1 ht
  rw [eqTy_eq]
  refine acalls_of_awp (fn := Tryd.f66) (N := 46) Tryd.call66 Tryd.func66 rfl rfl (by simp) ?_
  simp only [go_sem]
  refine awp_seq_k (fun K1 hK1 => ?_)
  refine awp_plain 3 (by kernel_rfl) rfl (fun g0 hg0 => ?_)
  simp only [go_sem]
  refine hK1 _ ?_
  refine awp_seq_k (fun K2 hK2 => ?_)
  refine awp_seq_k (fun K3 hK3 => ?_)
  by_cases hn : t.name = u.name
  · by_cases hp : t.pos = u.pos
    · by_cases hl : t.args.length = u.args.length
      · have hl' : (t.args.length : Int) = u.args.length := by omega
        refine awp_plain 21 (by kernel_rfl) rfl (fun g1 hg1 => ?_)
        simp only [go_sem, hn, hp, hl']
        refine hK3 _ ?_
        refine awp_f rfl ?_
        refine awp_skip ?_
        refine hK2 _ ?_
        refine awp_seq_k (fun K4 hK4 => ?_)
        refine awp_seq_k (fun K5 hK5 => ?_)
        refine awp_plain 1 (by kernel_rfl) rfl (fun g3 hg3 => ?_)
        simp only [go_sem]
        refine hK5 _ ?_
        refine awp_block ?_
        refine awp_loop (fun m s => ∃ k, k ≤ t.args.length ∧ m = t.args.length - k ∧ eqTys (t.args.drop k) (u.args.drop k) = eqTys t.args u.args ∧
          Le { env := [(2, .ptr ⟨g0, 2, 0⟩ 0), (3, .ptr ⟨g0, 3, 0⟩ 0), (5, dN k)], σ := [(⟨g0, 2, 0⟩, .box 25 (tyC t)), (⟨g0, 3, 0⟩, .box 25 (tyC u))] } s) t.args.length ?_ ?_
        · refine ⟨0, Nat.zero_le _, rfl, rfl, le_of ?_⟩
          simp only [go_sem, tyC, hn, hp]
          trivial
        · rintro m s ⟨k, hka, rfl, hc, hle⟩
          refine awp_keep hle ?_
          clear hle
          by_cases ha : k < t.args.length
          · have hb : k < u.args.length := by omega
            rw [List.drop_eq_getElem_cons ha, List.drop_eq_getElem_cons hb] at hc
            simp only [eqTys] at hc
            refine awp_seq_k (fun K6 hK6 => ?_)
            refine awp_seq_k (fun K7 hK7 => ?_)
            refine awp_plain 5 (by kernel_rfl) rfl (fun g4 hg4 => ?_)
            simp only [go_sem, tyC, ha]
            refine hK7 _ ?_
            refine awp_t rfl ?_
            refine awp_skip ?_
            refine hK6 _ ?_
            refine awp_seq_k (fun K8 hK8 => ?_)
            refine awp_block ?_
            refine awp_seq_k (fun K9 hK9 => ?_)
            cases he : eqTy t.args[k] u.args[k] with
            | true =>
              rw [he, Bool.true_and] at hc
              refine awp_anyq (by kernel_rfl) rfl (fun g6 hg6 ops6 KR6 hops6 hKR6 => ?_)
              refine qrun_eval 10 hops6 ?_
              simp only [go_sem, getM ha, getM hb]
              refine qrun_pure hops6 rfl rfl rfl (he ▸ ih _ (List.getElem_mem ha) (hs3 _ (List.getElem_mem ha)) _ _ _) (CoL.refl _) rfl ?_
              refine qrun_last 1 hops6 ?_
              simp only [go_sem]
              refine hKR6 _ ?_
              refine hK9 _ ?_
              refine awp_f rfl ?_
              refine awp_skip ?_
              refine hK8 _ ?_
              refine awp_plain 3 (by kernel_rfl) rfl (fun g5 hg5 => ?_)
              simp only [go_sem]
              try simp (disch := omega) only [wrapN]
              refine ⟨_, ?_, k + 1, ha, rfl, hc, le_of ?_⟩
              · omega
              simp only [go_sem, tyC]
              omega
            | false =>
              rw [he, Bool.false_and] at hc
              refine awp_anyq (by kernel_rfl) rfl (fun g6 hg6 ops6 KR6 hops6 hKR6 => ?_)
              refine qrun_eval 10 hops6 ?_
              simp only [go_sem, getM ha, getM hb]
              refine qrun_pure hops6 rfl rfl rfl (he ▸ ih _ (List.getElem_mem ha) (hs3 _ (List.getElem_mem ha)) _ _ _) (CoL.refl _) rfl ?_
              refine qrun_last 1 hops6 ?_
              simp only [go_sem]
              refine hKR6 _ ?_
              refine hK9 _ ?_
              refine awp_t rfl ?_
              refine awp_seq_k (fun K10 hK10 => ?_)
              refine awp_plain 1 (by kernel_rfl) rfl (fun g7 hg7 => ?_)
              simp only [go_sem]
              refine hK10 _ ?_
              refine awp_ret ?_
              simp only [hn, hp, ← hc, decide_true, Bool.and_false]
              refine ends_ev rfl ?_
              simp only [go_sem]
              exact Co.refl _
          · rw [List.drop_eq_nil_of_le (by omega), List.drop_eq_nil_of_le (by omega)] at hc
            simp only [eqTys] at hc
            refine awp_seq_k (fun K11 hK11 => ?_)
            refine awp_seq_k (fun K12 hK12 => ?_)
            refine awp_plain 5 (by kernel_rfl) rfl (fun g4 hg4 => ?_)
            simp only [go_sem, tyC, ha]
            refine hK12 _ ?_
            refine awp_f rfl ?_
            refine awp_exit ?_
            refine hK4 _ ?_
            refine awp_seq_k (fun K13 hK13 => ?_)
            refine awp_plain 1 (by kernel_rfl) rfl (fun g8 hg8 => ?_)
            simp only [go_sem]
            refine hK13 _ ?_
            refine awp_ret ?_
            simp only [hn, hp, ← hc, decide_true, Bool.and_true]
            refine ends_ev rfl ?_
            simp only [go_sem]
            exact Co.refl _
      · have hl' : ¬ ((t.args.length : Int) = u.args.length) := by omega
        refine awp_plain 21 (by kernel_rfl) rfl (fun g1 hg1 => ?_)
        simp only [go_sem, hn, hp, hl']
        refine hK3 _ ?_
        refine awp_t rfl ?_
        refine awp_seq_k (fun K14 hK14 => ?_)
        refine awp_plain 1 (by kernel_rfl) rfl (fun g2 hg2 => ?_)
        simp only [go_sem]
        refine hK14 _ ?_
        refine awp_ret ?_
        simp only [eqTys_length hl, Bool.and_false]
        refine ends_ev rfl ?_
        simp only [go_sem]
        exact Co.refl _
    · refine awp_plain 21 (by kernel_rfl) rfl (fun g1 hg1 => ?_)
      simp only [go_sem, hn, hp]
      refine hK3 _ ?_
      refine awp_t rfl ?_
      refine awp_seq_k (fun K15 hK15 => ?_)
      refine awp_plain 1 (by kernel_rfl) rfl (fun g2 hg2 => ?_)
      simp only [go_sem]
      refine hK15 _ ?_
      refine awp_ret ?_
      simp only [hp, decide_false, Bool.and_false, Bool.false_and]
      refine ends_ev rfl ?_
      simp only [go_sem]
      exact Co.refl _
  · refine awp_plain 21 (by kernel_rfl) rfl (fun g1 hg1 => ?_)
    simp only [go_sem, hn]
    refine hK3 _ ?_
    refine awp_t rfl ?_
    refine awp_seq_k (fun K16 hK16 => ?_)
    refine awp_plain 1 (by kernel_rfl) rfl (fun g2 hg2 => ?_)
    simp only [go_sem]
    refine hK16 _ ?_
    refine awp_ret ?_
    simp only [hn, decide_false, Bool.false_and]
    refine ends_ev rfl ?_
    simp only [go_sem]
    exact Co.refl _

end Go.Proofs.T

