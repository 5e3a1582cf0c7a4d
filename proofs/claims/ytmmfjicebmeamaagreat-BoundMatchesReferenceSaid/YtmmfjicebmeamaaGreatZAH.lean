/- A part of the proof, under no conditions of its own: ZAH. -/
import Derived.Test.YtmmfjicebmeamaaGreatZAG
import Derived.Test.YtmmfjicebmeamaaGreatZAF
import Derived.Lib.ItoaLen
import Derived.Shelf.Strconv.Itoa3
import Derived.Shelf.Spec.SlicesGrow
import Derived.Ground.NamesProg
import Derived.Ground.Names7Prog
import Derived.Shelf.SlSortCmp.NoneTotal
import Derived.Ground.SlsfProg
import Derived.Test.YtmmfjicebmeamaaGreatProg
namespace Go.Proofs.T
open Go Go.Ab Go.RowKit

/-! ## Comparing types -/

theorem isNaN_calls (a : Str) (g d : Nat) : ACalls E 170 [encS a] [] g d (dB false) [] := by
  refine acalls_of_awp (fn := Tryz.f170) (N := 6) Tryz.call170 Tryz.func170 rfl rfl (by simp) ?_
  simp only [go_sem]
  refine awp_seq_k (fun K1 hK1 => ?_)
  refine awp_plain 1 (by kernel_rfl) rfl (fun g0 hg0 => ?_)
  simp only [go_sem]
  refine hK1 _ ?_
  refine awp_seq_k (fun K2 hK2 => ?_)
  refine awp_plain 4 (by kernel_rfl) rfl (fun g1 hg1 => ?_)
  simp only [go_sem, decide_true]
  refine hK2 _ ?_
  refine awp_ret ?_
  refine ends_ev rfl ?_
  simp only [go_sem]
  exact Co.refl _

theorem cmpCompare_calls (a b : Str) (g d : Nat) : ACalls E 156 [encS a, encS b] [] g d (dI (cmpS a b)) [] := by
  refine acalls_of_awp (fn := Tryz.f156) (N := 20) Tryz.call156 Tryz.func156 rfl rfl (by simp) ?_
  simp only [go_sem]
  refine awp_seq_k (fun K1 hK1 => ?_)
  refine awp_plain 1 (by kernel_rfl) rfl (fun g0 hg0 => ?_)
  simp only [go_sem]
  refine hK1 _ ?_
  refine awp_seq_k (fun K2 hK2 => ?_)
  refine awp_ops (by kernel_rfl) rfl (fun g1 hg1 ops1 KR1 hops1 hKR1 => ?_)
  refine aops_eval 1 hops1 ?_
  simp only [go_sem]
  refine aops_pure hops1 rfl rfl rfl (isNaN_calls _ _ _) (CoL.refl _) ?_
  refine aops_last 1 hops1 ?_
  simp only [go_sem]
  refine hKR1 _ ?_
  refine hK2 _ ?_
  refine awp_seq_k (fun K3 hK3 => ?_)
  refine awp_ops (by kernel_rfl) rfl (fun g2 hg2 ops2 KR2 hops2 hKR2 => ?_)
  refine aops_eval 1 hops2 ?_
  simp only [go_sem]
  refine aops_pure hops2 rfl rfl rfl (isNaN_calls _ _ _) (CoL.refl _) ?_
  refine aops_last 1 hops2 ?_
  simp only [go_sem]
  refine hKR2 _ ?_
  refine hK3 _ ?_
  refine awp_seq_k (fun K4 hK4 => ?_)
  refine awp_seq_k (fun K5 hK5 => ?_)
  refine awp_plain 1 (by kernel_rfl) rfl (fun g3 hg3 => ?_)
  simp only [go_sem]
  refine hK5 _ ?_
  refine awp_f rfl ?_
  refine awp_skip ?_
  refine hK4 _ ?_
  refine awp_seq_k (fun K6 hK6 => ?_)
  refine awp_seq_k (fun K7 hK7 => ?_)
  refine awp_plain 1 (by kernel_rfl) rfl (fun g7 hg7 => ?_)
  simp only [go_sem]
  refine hK7 _ ?_
  refine awp_f rfl ?_
  refine awp_skip ?_
  refine hK6 _ ?_
  refine awp_seq_k (fun K8 hK8 => ?_)
  refine awp_seq_k (fun K9 hK9 => ?_)
  by_cases h : cmpS a b = -1
  · refine awp_plain 3 (by kernel_rfl) rfl (fun g9 hg9 => ?_)
    simp only [go_sem, cmpS_less, h]
    refine hK9 _ ?_
    refine awp_t rfl ?_
    refine awp_seq_k (fun K10 hK10 => ?_)
    refine awp_plain 1 (by kernel_rfl) rfl (fun g10 hg10 => ?_)
    simp only [go_sem]
    refine hK10 _ ?_
    refine awp_ret ?_
    rw [h]
    refine ends_ev rfl ?_
    simp only [go_sem]
    exact Co.refl _
  · refine awp_plain 3 (by kernel_rfl) rfl (fun g9 hg9 => ?_)
    simp only [go_sem, cmpS_less, h]
    refine hK9 _ ?_
    refine awp_f rfl ?_
    refine awp_skip ?_
    refine hK8 _ ?_
    refine awp_seq_k (fun K11 hK11 => ?_)
    refine awp_seq_k (fun K12 hK12 => ?_)
    by_cases h2 : a = b
    · have h3 : cmpS a b = 0 := cmpS_zero.2 h2
      subst h2
      refine awp_plain 3 (by kernel_rfl) rfl (fun g11 hg11 => ?_)
      simp only [go_sem, cmpS_less, h]
      refine hK12 _ ?_
      refine awp_f rfl ?_
      refine awp_skip ?_
      refine hK11 _ ?_
      refine awp_seq_k (fun K13 hK13 => ?_)
      refine awp_plain 1 (by kernel_rfl) rfl (fun g13 hg13 => ?_)
      simp only [go_sem]
      refine hK13 _ ?_
      refine awp_ret ?_
      rw [h3]
      refine ends_ev rfl ?_
      simp only [go_sem]
      exact Co.refl _
    · have h3 : cmpS a b = 1 := by
        rcases cmpL_range a.data.toList b.data.toList with h4 | h4 | h4
        · exact absurd h4 h
        · exact absurd (cmpS_zero.1 h4) h2
        · exact h4
      refine awp_plain 3 (by kernel_rfl) rfl (fun g11 hg11 => ?_)
      simp only [go_sem, cmpS_less, h, h2]
      refine hK12 _ ?_
      refine awp_t rfl ?_
      refine awp_seq_k (fun K14 hK14 => ?_)
      refine awp_plain 1 (by kernel_rfl) rfl (fun g12 hg12 => ?_)
      simp only [go_sem]
      refine hK14 _ ?_
      refine awp_ret ?_
      rw [h3]
      refine ends_ev rfl ?_
      simp only [go_sem]
      exact Co.refl _

theorem nameCompare_calls (a b : Str) (g d : Nat) : ACalls E 124 [encS a, encS b] [] g d (dI (cmpS a b)) [] := by
  refine acalls_of_awp (fn := Tryz.f124) (N := 8) Tryz.call124 Tryz.func124 rfl rfl (by simp) ?_
  simp only [go_sem]
  refine awp_seq_k (fun K1 hK1 => ?_)
  refine awp_plain 1 (by kernel_rfl) rfl (fun g0 hg0 => ?_)
  simp only [go_sem]
  refine hK1 _ ?_
  refine awp_seq_k (fun K2 hK2 => ?_)
  refine awp_ops (by kernel_rfl) rfl (fun g1 hg1 ops1 KR1 hops1 hKR1 => ?_)
  refine aops_eval 2 hops1 ?_
  simp only [go_sem]
  refine aops_pure hops1 rfl rfl rfl (cmpCompare_calls _ _ _ _) (CoL.refl _) ?_
  refine aops_last 1 hops1 ?_
  simp only [go_sem]
  refine hKR1 _ ?_
  refine hK2 _ ?_
  refine awp_ret ?_
  refine ends_ev rfl ?_
  simp only [go_sem]
  exact Co.refl _

mutual
def cmpTy : Ty → Ty → Int
  | .mk a x _, .mk b y _ => if cmpS a b = 0 then cmpTys x y else cmpS a b
def cmpTys : List Ty → List Ty → Int
  | [], [] => 0
  | [], _ :: _ => -1
  | _ :: _, [] => 1
  | t :: x, u :: y => if cmpTy t u = 0 then cmpTys x y else cmpTy t u
end
theorem cmpTy_eq (t u : Ty) : cmpTy t u = if cmpS t.name u.name = 0 then cmpTys t.args u.args else cmpS t.name u.name := by cases t; cases u; rw [cmpTy]; rfl

theorem ref04Compare_calls : ∀ t : Ty, okTy t → ∀ (u : Ty) (g d : Nat), ACalls E 108 [encTy t, encTy u] [] g d (dI (cmpTy t u)) [] := by
  refine Ty.ind fun t ih => ?_
  intro ht u g d
  obtain ⟨hs1, hs2, hs3⟩ := (okTy_iff t).1 ht
  rw [cmpTy_eq]
  refine acalls_of_awp (fn := Tryz.f108) (N := 59) Tryz.call108 Tryz.func108 rfl rfl (by simp) ?_
  simp only [go_sem]
  refine awp_seq_k (fun K1 hK1 => ?_)
  refine awp_plain 3 (by kernel_rfl) rfl (fun g0 hg0 => ?_)
  simp only [go_sem]
  refine hK1 _ ?_
  refine awp_seq_k (fun K2 hK2 => ?_)
  refine awp_seq_k (fun K3 hK3 => ?_)
  by_cases hn : t.name = u.name
  · have hcs := cmpS_zero.2 hn
    refine awp_plain 5 (by kernel_rfl) rfl (fun g1 hg1 => ?_)
    simp only [go_sem, hn]
    refine hK3 _ ?_
    refine awp_f rfl ?_
    refine awp_skip ?_
    refine hK2 _ ?_
    refine awp_seq_k (fun K4 hK4 => ?_)
    refine awp_seq_k (fun K5 hK5 => ?_)
    refine awp_plain 1 (by kernel_rfl) rfl (fun g3 hg3 => ?_)
    simp only [go_sem]
    refine hK5 _ ?_
    refine awp_block ?_
    refine awp_loop (fun m s => ∃ k, k ≤ t.args.length ∧ k ≤ u.args.length ∧ m = t.args.length - k ∧ cmpTys (t.args.drop k) (u.args.drop k) = cmpTys t.args u.args ∧
      Le { env := [(2, .ptr ⟨g0, 2, 0⟩ 0), (3, .ptr ⟨g0, 3, 0⟩ 0), (5, dN k)], σ := [(⟨g0, 2, 0⟩, .box 25 (tyC t)), (⟨g0, 3, 0⟩, .box 25 (tyC u))] } s) t.args.length ?_ ?_
    · refine ⟨0, Nat.zero_le _, Nat.zero_le _, rfl, rfl, le_of ?_⟩
      simp only [go_sem, tyC, hn]
      trivial
    · rintro m s ⟨k, hka, hkb, rfl, hc, hle⟩
      refine awp_keep hle ?_
      clear hle
      by_cases ha : k < t.args.length
      · by_cases hb : k < u.args.length
        · rw [List.drop_eq_getElem_cons ha, List.drop_eq_getElem_cons hb] at hc
          simp only [cmpTys] at hc
          refine awp_seq_k (fun K6 hK6 => ?_)
          refine awp_seq_k (fun K7 hK7 => ?_)
          refine awp_plain 12 (by kernel_rfl) rfl (fun g4 hg4 => ?_)
          simp only [go_sem, tyC, ha, hb]
          refine hK7 _ ?_
          refine awp_t rfl ?_
          refine awp_skip ?_
          refine hK6 _ ?_
          refine awp_seq_k (fun K8 hK8 => ?_)
          refine awp_block ?_
          refine awp_seq_k (fun K9 hK9 => ?_)
          refine awp_any 11 (by kernel_rfl) (by kernel_rfl) rfl (fun g6 hg6 ops6 KR6 hops6 hKR6 => ?_)
          refine qrun_eval 10 hops6 ?_
          simp only [go_sem, getM ha, getM hb]
          refine qrun_pure hops6 rfl rfl rfl (ih _ (List.getElem_mem ha) (hs3 _ (List.getElem_mem ha)) _ _ _) (CoL.refl _) rfl ?_
          refine qrun_last 0 hops6 ?_
          simp only [go_sem]
          refine aops_last 1 hops6 ?_
          simp only [go_sem]
          refine hKR6 _ ?_
          refine hK9 _ ?_
          refine awp_seq_k (fun K10 hK10 => ?_)
          by_cases h0 : cmpTy t.args[k] u.args[k] = 0
          · rw [if_pos h0] at hc
            refine awp_plain 2 (by kernel_rfl) rfl (fun g7 hg7 => ?_)
            simp only [go_sem, h0]
            refine hK10 _ ?_
            refine awp_f rfl ?_
            refine awp_skip ?_
            refine hK8 _ ?_
            refine awp_plain 3 (by kernel_rfl) rfl (fun g5 hg5 => ?_)
            simp only [go_sem]
            try simp (disch := omega) only [wrapN]
            refine ⟨_, ?_, k + 1, ha, hb, rfl, hc, le_of ?_⟩
            · omega
            simp only [go_sem, tyC]
            omega
          · rw [if_neg h0] at hc
            refine awp_plain 2 (by kernel_rfl) rfl (fun g7 hg7 => ?_)
            simp only [go_sem, h0]
            refine hK10 _ ?_
            refine awp_t rfl ?_
            refine awp_seq_k (fun K11 hK11 => ?_)
            refine awp_plain 2 (by kernel_rfl) rfl (fun g8 hg8 => ?_)
            simp only [go_sem]
            refine hK11 _ ?_
            refine awp_ret ?_
            rw [if_pos hcs, ← hc]
            refine ends_ev rfl ?_
            simp only [go_sem]
            exact Co.refl _
        · rw [List.drop_eq_getElem_cons ha, dropN u.args k (by omega)] at hc
          simp only [cmpTys] at hc
          have h3 : ¬ t.args.length < u.args.length := by omega
          have h4 : u.args.length < t.args.length := by omega
          refine awp_seq_k (fun K12 hK12 => ?_)
          refine awp_seq_k (fun K13 hK13 => ?_)
          refine awp_plain 12 (by kernel_rfl) rfl (fun g4 hg4 => ?_)
          simp only [go_sem, tyC, ha, hb]
          refine hK13 _ ?_
          refine awp_f rfl ?_
          refine awp_exit ?_
          refine hK4 _ ?_
          refine awp_seq_k (fun K14 hK14 => ?_)
          refine awp_seq_k (fun K15 hK15 => ?_)
          refine awp_plain 7 (by kernel_rfl) rfl (fun g9 hg9 => ?_)
          simp only [go_sem, h3]
          refine hK15 _ ?_
          refine awp_f rfl ?_
          refine awp_skip ?_
          refine hK14 _ ?_
          refine awp_seq_k (fun K16 hK16 => ?_)
          refine awp_seq_k (fun K17 hK17 => ?_)
          refine awp_plain 7 (by kernel_rfl) rfl (fun g11 hg11 => ?_)
          simp only [go_sem, h4]
          refine hK17 _ ?_
          refine awp_t rfl ?_
          refine awp_seq_k (fun K18 hK18 => ?_)
          refine awp_plain 1 (by kernel_rfl) rfl (fun g12 hg12 => ?_)
          simp only [go_sem]
          refine hK18 _ ?_
          refine awp_ret ?_
          rw [if_pos hcs, ← hc]
          refine ends_ev rfl ?_
          simp only [go_sem]
          exact Co.refl _
      · have : k = t.args.length := by omega
        subst this
        rw [List.drop_eq_nil_of_le (Nat.le_refl _)] at hc
        refine awp_seq_k (fun K19 hK19 => ?_)
        refine awp_seq_k (fun K20 hK20 => ?_)
        refine awp_plain 12 (by kernel_rfl) rfl (fun g4 hg4 => ?_)
        simp only [go_sem, tyC, ha]
        refine hK20 _ ?_
        refine awp_f rfl ?_
        refine awp_exit ?_
        refine hK4 _ ?_
        refine awp_seq_k (fun K21 hK21 => ?_)
        refine awp_seq_k (fun K22 hK22 => ?_)
        by_cases hb : t.args.length < u.args.length
        · rw [List.drop_eq_getElem_cons hb] at hc
          simp only [cmpTys] at hc
          refine awp_plain 7 (by kernel_rfl) rfl (fun g9 hg9 => ?_)
          simp only [go_sem, hb]
          refine hK22 _ ?_
          refine awp_t rfl ?_
          refine awp_seq_k (fun K23 hK23 => ?_)
          refine awp_plain 1 (by kernel_rfl) rfl (fun g10 hg10 => ?_)
          simp only [go_sem]
          refine hK23 _ ?_
          refine awp_ret ?_
          rw [if_pos hcs, ← hc]
          refine ends_ev rfl ?_
          simp only [go_sem]
          exact Co.refl _
        · rw [List.drop_eq_nil_of_le (by omega)] at hc
          simp only [cmpTys] at hc
          have h4 : ¬ u.args.length < t.args.length := by omega
          refine awp_plain 7 (by kernel_rfl) rfl (fun g9 hg9 => ?_)
          simp only [go_sem, hb]
          refine hK22 _ ?_
          refine awp_f rfl ?_
          refine awp_skip ?_
          refine hK21 _ ?_
          refine awp_seq_k (fun K24 hK24 => ?_)
          refine awp_seq_k (fun K25 hK25 => ?_)
          refine awp_plain 7 (by kernel_rfl) rfl (fun g11 hg11 => ?_)
          simp only [go_sem, h4]
          refine hK25 _ ?_
          refine awp_f rfl ?_
          refine awp_skip ?_
          refine hK24 _ ?_
          refine awp_seq_k (fun K26 hK26 => ?_)
          refine awp_plain 1 (by kernel_rfl) rfl (fun g13 hg13 => ?_)
          simp only [go_sem]
          refine hK26 _ ?_
          refine awp_ret ?_
          rw [if_pos hcs, ← hc]
          refine ends_ev rfl ?_
          simp only [go_sem]
          exact Co.refl _
  · refine awp_plain 5 (by kernel_rfl) rfl (fun g1 hg1 => ?_)
    simp only [go_sem, hn]
    refine hK3 _ ?_
    refine awp_t rfl ?_
    refine awp_seq_k (fun K27 hK27 => ?_)
    refine awp_ops (by kernel_rfl) rfl (fun g2 hg2 ops2 KR2 hops2 hKR2 => ?_)
    refine aops_eval 4 hops2 ?_
    simp only [go_sem]
    refine aops_pure hops2 rfl rfl rfl (compareS_calls _ _ hs1 _ _) (CoL.refl _) ?_
    refine aops_last 1 hops2 ?_
    simp only [go_sem]
    refine hKR2 _ ?_
    refine hK27 _ ?_
    refine awp_ret ?_
    rw [if_neg (fun h => hn (cmpS_zero.1 h))]
    refine ends_ev rfl ?_
    simp only [go_sem]
    exact Co.refl _

theorem ref04Same_calls (t u : Ty) (ht : okTy t) (g d : Nat) : ACalls E 77 [encTy t, encTy u] [] g d (dB (decide (cmpTy t u = 0))) [] := by
  refine acalls_of_awp (fn := Tryz.f77) (N := 9) Tryz.call77 Tryz.func77 rfl rfl (by simp) ?_
  simp only [go_sem]
  refine awp_seq_k (fun K1 hK1 => ?_)
  refine awp_plain 3 (by kernel_rfl) rfl (fun g0 hg0 => ?_)
  simp only [go_sem]
  refine hK1 _ ?_
  refine awp_seq_k (fun K2 hK2 => ?_)
  refine awp_ops (by kernel_rfl) rfl (fun g1 hg1 ops1 KR1 hops1 hKR1 => ?_)
  refine aops_eval 2 hops1 ?_
  simp only [go_sem]
  refine aops_pure hops1 rfl rfl rfl (ref04Compare_calls _ ht _ _ _) (CoL.refl _) ?_
  refine aops_last 2 hops1 ?_
  simp only [go_sem]
  refine hKR1 _ ?_
  refine hK2 _ ?_
  refine awp_ret ?_
  refine ends_ev rfl ?_
  simp only [go_sem]
  exact Co.refl _

mutual
def eqTy : Ty → Ty → Bool
  | .mk a x p, .mk b y q => decide (a = b) && (decide (p = q) && eqTys x y)
def eqTys : List Ty → List Ty → Bool
  | [], [] => true
  | [], _ :: _ => false
  | _ :: _, [] => false
  | t :: x, u :: y => eqTy t u && eqTys x y
end
theorem eqTy_eq (t u : Ty) : eqTy t u = (decide (t.name = u.name) && (decide (t.pos = u.pos) && eqTys t.args u.args)) := by cases t; cases u; rw [eqTy]; rfl

mutual
theorem eqTy_iff : ∀ (t u : Ty), eqTy t u = true ↔ t = u
  | .mk a x p, .mk b y q => by
    simp only [eqTy, eqTys_iff x y, Bool.and_eq_true, decide_eq_true_eq, Ty.mk.injEq]
    constructor
    · rintro ⟨rfl, rfl, rfl⟩; exact ⟨rfl, rfl, rfl⟩
    · rintro ⟨rfl, rfl, rfl⟩; exact ⟨rfl, rfl, rfl⟩
theorem eqTys_iff : ∀ (x y : List Ty), eqTys x y = true ↔ x = y
  | [], [] => by simp [eqTys]
  | [], _ :: _ => by simp [eqTys]
  | _ :: _, [] => by simp [eqTys]
  | t :: x, u :: y => by simp [eqTys, eqTy_iff t u, eqTys_iff x y]
end
theorem eqTys_length {x y : List Ty} (h : x.length ≠ y.length) : eqTys x y = false := by
  cases he : eqTys x y with
  | false => rfl
  | true => exact absurd (congrArg List.length ((eqTys_iff x y).1 he)) h

theorem ref04Equal_calls : ∀ t : Ty, okTy t → ∀ (u : Ty) (g d : Nat), ACalls E 78 [encTy t, encTy u] [] g d (dB (eqTy t u)) [] := by
  refine Ty.ind fun t ih => ?_
  intro ht u g d
  obtain ⟨hs1, hs2, hs3⟩ := (okTy_iff t).1 ht
  rw [eqTy_eq]
  refine acalls_of_awp (fn := Tryz.f78) (N := 46) Tryz.call78 Tryz.func78 rfl rfl (by simp) ?_
  simp only [go_sem]
  refine awp_seq_k (fun K1 hK1 => ?_)
  refine awp_plain 3 (by kernel_rfl) rfl (fun g0 hg0 => ?_)
  simp only [go_sem]
  refine hK1 _ ?_
  refine awp_seq_k (fun K2 hK2 => ?_)
  refine awp_seq_k (fun K3 hK3 => ?_)
  by_cases hn : t.name = u.name
  · by_cases hp : t.pos = u.pos
    · by_cases hl : t.args.length = u.args.length
      · have hl' : (t.args.length : Int) = u.args.length := by omega
        refine awp_plain 21 (by kernel_rfl) rfl (fun g1 hg1 => ?_)
        simp only [go_sem, hn, hp, hl']
        refine hK3 _ ?_
        refine awp_f rfl ?_
        refine awp_skip ?_
        refine hK2 _ ?_
        refine awp_seq_k (fun K4 hK4 => ?_)
        refine awp_seq_k (fun K5 hK5 => ?_)
        refine awp_plain 1 (by kernel_rfl) rfl (fun g3 hg3 => ?_)
        simp only [go_sem]
        refine hK5 _ ?_
        refine awp_block ?_
        refine awp_loop (fun m s => ∃ k, k ≤ t.args.length ∧ m = t.args.length - k ∧ eqTys (t.args.drop k) (u.args.drop k) = eqTys t.args u.args ∧
          Le { env := [(2, .ptr ⟨g0, 2, 0⟩ 0), (3, .ptr ⟨g0, 3, 0⟩ 0), (5, dN k)], σ := [(⟨g0, 2, 0⟩, .box 25 (tyC t)), (⟨g0, 3, 0⟩, .box 25 (tyC u))] } s) t.args.length ?_ ?_
        · refine ⟨0, Nat.zero_le _, rfl, rfl, le_of ?_⟩
          simp only [go_sem, tyC, hn, hp]
          trivial
        · rintro m s ⟨k, hka, rfl, hc, hle⟩
          refine awp_keep hle ?_
          clear hle
          by_cases ha : k < t.args.length
          · have hb : k < u.args.length := by omega
            rw [List.drop_eq_getElem_cons ha, List.drop_eq_getElem_cons hb] at hc
            simp only [eqTys] at hc
            refine awp_seq_k (fun K6 hK6 => ?_)
            refine awp_seq_k (fun K7 hK7 => ?_)
            refine awp_plain 5 (by kernel_rfl) rfl (fun g4 hg4 => ?_)
            simp only [go_sem, tyC, ha]
            refine hK7 _ ?_
            refine awp_t rfl ?_
            refine awp_skip ?_
            refine hK6 _ ?_
            refine awp_seq_k (fun K8 hK8 => ?_)
            refine awp_block ?_
            refine awp_seq_k (fun K9 hK9 => ?_)
            cases he : eqTy t.args[k] u.args[k] with
            | true =>
              rw [he, Bool.true_and] at hc
              refine awp_anyq (by kernel_rfl) rfl (fun g6 hg6 ops6 KR6 hops6 hKR6 => ?_)
              refine qrun_eval 10 hops6 ?_
              simp only [go_sem, getM ha, getM hb]
              refine qrun_pure hops6 rfl rfl rfl (he ▸ ih _ (List.getElem_mem ha) (hs3 _ (List.getElem_mem ha)) _ _ _) (CoL.refl _) rfl ?_
              refine qrun_last 1 hops6 ?_
              simp only [go_sem]
              refine hKR6 _ ?_
              refine hK9 _ ?_
              refine awp_f rfl ?_
              refine awp_skip ?_
              refine hK8 _ ?_
              refine awp_plain 3 (by kernel_rfl) rfl (fun g5 hg5 => ?_)
              simp only [go_sem]
              try simp (disch := omega) only [wrapN]
              refine ⟨_, ?_, k + 1, ha, rfl, hc, le_of ?_⟩
              · omega
              simp only [go_sem, tyC]
              omega
            | false =>
              rw [he, Bool.false_and] at hc
              refine awp_anyq (by kernel_rfl) rfl (fun g6 hg6 ops6 KR6 hops6 hKR6 => ?_)
              refine qrun_eval 10 hops6 ?_
              simp only [go_sem, getM ha, getM hb]
              refine qrun_pure hops6 rfl rfl rfl (he ▸ ih _ (List.getElem_mem ha) (hs3 _ (List.getElem_mem ha)) _ _ _) (CoL.refl _) rfl ?_
              refine qrun_last 1 hops6 ?_
              simp only [go_sem]
              refine hKR6 _ ?_
              refine hK9 _ ?_
              refine awp_t rfl ?_
              refine awp_seq_k (fun K10 hK10 => ?_)
              refine awp_plain 1 (by kernel_rfl) rfl (fun g7 hg7 => ?_)
              simp only [go_sem]
              refine hK10 _ ?_
              refine awp_ret ?_
              simp only [hn, hp, ← hc, decide_true, Bool.and_false]
              refine ends_ev rfl ?_
              simp only [go_sem]
              exact Co.refl _
          · rw [List.drop_eq_nil_of_le (by omega), List.drop_eq_nil_of_le (by omega)] at hc
            simp only [eqTys] at hc
            refine awp_seq_k (fun K11 hK11 => ?_)
            refine awp_seq_k (fun K12 hK12 => ?_)
            refine awp_plain 5 (by kernel_rfl) rfl (fun g4 hg4 => ?_)
            simp only [go_sem, tyC, ha]
            refine hK12 _ ?_
            refine awp_f rfl ?_
            refine awp_exit ?_
            refine hK4 _ ?_
            refine awp_seq_k (fun K13 hK13 => ?_)
            refine awp_plain 1 (by kernel_rfl) rfl (fun g8 hg8 => ?_)
            simp only [go_sem]
            refine hK13 _ ?_
            refine awp_ret ?_
            simp only [hn, hp, ← hc, decide_true, Bool.and_true]
            refine ends_ev rfl ?_
            simp only [go_sem]
            exact Co.refl _
      · have hl' : ¬ ((t.args.length : Int) = u.args.length) := by omega
        refine awp_plain 21 (by kernel_rfl) rfl (fun g1 hg1 => ?_)
        simp only [go_sem, hn, hp, hl']
        refine hK3 _ ?_
        refine awp_t rfl ?_
        refine awp_seq_k (fun K14 hK14 => ?_)
        refine awp_plain 1 (by kernel_rfl) rfl (fun g2 hg2 => ?_)
        simp only [go_sem]
        refine hK14 _ ?_
        refine awp_ret ?_
        simp only [eqTys_length hl, Bool.and_false]
        refine ends_ev rfl ?_
        simp only [go_sem]
        exact Co.refl _
    · refine awp_plain 21 (by kernel_rfl) rfl (fun g1 hg1 => ?_)
      simp only [go_sem, hn, hp]
      refine hK3 _ ?_
      refine awp_t rfl ?_
      refine awp_seq_k (fun K15 hK15 => ?_)
      refine awp_plain 1 (by kernel_rfl) rfl (fun g2 hg2 => ?_)
      simp only [go_sem]
      refine hK15 _ ?_
      refine awp_ret ?_
      simp only [hp, decide_false, Bool.and_false, Bool.false_and]
      refine ends_ev rfl ?_
      simp only [go_sem]
      exact Co.refl _
  · refine awp_plain 21 (by kernel_rfl) rfl (fun g1 hg1 => ?_)
    simp only [go_sem, hn]
    refine hK3 _ ?_
    refine awp_t rfl ?_
    refine awp_seq_k (fun K16 hK16 => ?_)
    refine awp_plain 1 (by kernel_rfl) rfl (fun g2 hg2 => ?_)
    simp only [go_sem]
    refine hK16 _ ?_
    refine awp_ret ?_
    simp only [hn, decide_false, Bool.false_and]
    refine ends_ev rfl ?_
    simp only [go_sem]
    exact Co.refl _

end Go.Proofs.T


namespace Go.Proofs.T
open Go Go.Ab Go.RowKit

/-! ## Names of formals -/

end Go.Proofs.T


namespace Go.Proofs.T
open Go Go.Ab Go.RowKit

/-! ## Substituting -/

/- All lengths are small. -/
mutual
def smTy : Ty → Prop
  | .mk n a _ => n.size ≤ 1000000 ∧ a.length ≤ 1000000 ∧ smTys a
def smTys : List Ty → Prop
  | [] => True
  | t :: r => smTy t ∧ smTys r
end

theorem smTys_iff : ∀ l, smTys l ↔ ∀ t ∈ l, smTy t
  | [] => by simp [smTys]
  | t :: r => by simp [smTys, smTys_iff r]

theorem smTy_iff (t : Ty) : smTy t ↔ t.name.size ≤ 1000000 ∧ t.args.length ≤ 1000000 ∧ ∀ x ∈ t.args, smTy x := by
  cases t
  simp [smTy, smTys_iff]

theorem smTy.ok (t : Ty) : smTy t → okTy t := by
  revert t
  refine Ty.ind fun t ih h => ?_
  obtain ⟨h1, h2, h3⟩ := (smTy_iff t).1 h
  exact (okTy_iff t).2 ⟨by omega, by omega, fun x hx => ih x hx (h3 x hx)⟩

def isS (n : Str) (x : Str) : Bool := decide (x = n)
def look (ns : List Str) (us : List Ty) (n : Str) : Option Ty := (ns.findIdx? (isS n)).bind fun i => us[i]?

mutual
def substTy (ns : List Str) (us : List Ty) : Ty → Ty
  | .mk n xs p => match xs.isEmpty, look ns us n with
    | true, some t => .mk t.name t.args p
    | _, _ => .mk n (substTys ns us xs) p
def substTys (ns : List Str) (us : List Ty) : List Ty → List Ty
  | [] => []
  | t :: r => substTy ns us t :: substTys ns us r
end
theorem substTys_eq (ns : List Str) (us : List Ty) : ∀ l, substTys ns us l = l.map (substTy ns us)
  | [] => by simp [substTys]
  | t :: r => by simp [substTys, substTys_eq ns us r]
theorem substTy_eq (ns : List Str) (us : List Ty) (t : Ty) : substTy ns us t = match t.args.isEmpty, look ns us t.name with
    | true, some u => .mk u.name u.args t.pos
    | _, _ => .mk t.name (t.args.map (substTy ns us)) t.pos := by
  cases t
  rw [substTy]
  simp only [substTys_eq, Ty.name_mk, Ty.args_mk, Ty.pos_mk]

theorem substTy_nil : ∀ t : Ty, substTy [] [] t = t := by
  refine Ty.ind fun t ih => ?_
  rw [substTy_eq]
  have : t.args.map (substTy [] []) = t.args := by
    conv => rhs; rw [← List.map_id t.args]
    exact List.map_congr_left fun x hx => by rw [ih x hx]; rfl
  simp [look, this, Ty.eta]

def optI : Option Nat → Int
  | some k => k
  | none => -1
def optD (o : Option Nat) : D := dI (optI o)

theorem findD {α : Type} (p : α → Bool) (l : List α) (k : Nat) (h : k < l.length) : (l.drop k).findIdx? p = if p l[k] then some 0 else ((l.drop (k + 1)).findIdx? p).map (· + 1) := by
  rw [dropC l k h, List.findIdx?_cons]

theorem index_calls (l : List Str) (n : Str) (hl : l.length ≤ 9223372036854775807) (g d : Nat) : ACalls E 157 [slS l, encS n] [] g d (optD (l.findIdx? (isS n))) [] := by
  refine acalls_of_awp (fn := Tryz.f157) (N := 19) Tryz.call157 Tryz.func157 rfl rfl (by simp) ?_
  simp only [go_sem]
  refine awp_seq_k (fun K1 hK1 => ?_)
  refine awp_plain 1 (by kernel_rfl) rfl (fun g0 hg0 => ?_)
  simp only [go_sem]
  refine hK1 _ ?_
  refine awp_seq_k (fun K2 hK2 => ?_)
  refine awp_seq_k (fun K3 hK3 => ?_)
  refine awp_plain 3 (by kernel_rfl) rfl (fun g1 hg1 => ?_)
  simp only [go_sem]
  refine hK3 _ ?_
  refine awp_block ?_
  refine awp_loop (fun m s => ∃ k, k ≤ l.length ∧ m = l.length - k ∧ l.findIdx? (isS n) = ((l.drop k).findIdx? (isS n)).map (· + k) ∧
      Le { env := [(0, slS l), (1, encS n), (6, slS l), (7, dN l.length), (8, dN k)], σ := [] } s) l.length ?_ ?_
  · refine ⟨0, Nat.zero_le _, rfl, by simp, le_of ?_⟩
    simp only [go_sem]
    trivial
  · rintro m s ⟨k, hk, rfl, hf, hle⟩
    refine awp_keep hle ?_
    clear hle
    by_cases h : k < l.length
    · rw [findD _ _ _ h] at hf
      refine awp_seq_k (fun K4 hK4 => ?_)
      refine awp_plain 1 (by kernel_rfl) rfl (fun g2 hg2 => ?_)
      simp only [go_sem, h]
      refine hK4 _ ?_
      refine awp_seq_k (fun K5 hK5 => ?_)
      refine awp_t rfl ?_
      refine awp_skip ?_
      refine hK5 _ ?_
      refine awp_seq_k (fun K6 hK6 => ?_)
      refine awp_block ?_
      refine awp_seq_k (fun K7 hK7 => ?_)
      refine awp_plain 2 (by kernel_rfl) rfl (fun g3 hg3 => ?_)
      simp only [go_sem]
      refine hK7 _ ?_
      refine awp_seq_k (fun K8 hK8 => ?_)
      by_cases he : l[k] = n
      · rw [if_pos (by simp [isS, he])] at hf
        refine awp_plain 6 (by kernel_rfl) rfl (fun g4 hg4 => ?_)
        simp only [go_sem, getM h, he]
        refine hK8 _ ?_
        refine awp_t rfl ?_
        refine awp_seq_k (fun K9 hK9 => ?_)
        refine awp_plain 2 (by kernel_rfl) rfl (fun g5 hg5 => ?_)
        simp only [go_sem]
        refine hK9 _ ?_
        refine awp_ret ?_
        rw [hf]
        refine ends_ev rfl ?_
        simp only [go_sem]
        exact Co.of_eq (by simp [optD, optI])
      · rw [if_neg (by simp [isS, he])] at hf
        have he' : ¬ n = l[k] := fun h => he h.symm
        refine awp_plain 6 (by kernel_rfl) rfl (fun g4 hg4 => ?_)
        simp only [go_sem, getM h, he']
        refine hK8 _ ?_
        refine awp_f rfl ?_
        refine awp_skip ?_
        refine hK6 _ ?_
        refine awp_plain 2 (by kernel_rfl) rfl (fun g6 hg6 => ?_)
        simp only [go_sem]
        try simp (disch := omega) only [wrapN]
        refine ⟨_, ?_, k + 1, h, rfl, ?_, le_of ?_⟩
        · omega
        · rw [hf]; simp [Option.map_map, Function.comp_def, Nat.add_comm, Nat.add_left_comm]
        simp only [go_sem]
        omega
    · rw [dropN l k (by omega)] at hf
      refine awp_seq_k (fun K10 hK10 => ?_)
      refine awp_plain 1 (by kernel_rfl) rfl (fun g2 hg2 => ?_)
      simp only [go_sem, h]
      refine hK10 _ ?_
      refine awp_seq_k (fun K11 hK11 => ?_)
      refine awp_f rfl ?_
      refine awp_exit ?_
      refine hK2 _ ?_
      refine awp_seq_k (fun K12 hK12 => ?_)
      refine awp_plain 1 (by kernel_rfl) rfl (fun g7 hg7 => ?_)
      simp only [go_sem]
      refine hK12 _ ?_
      refine awp_ret ?_
      rw [hf]
      refine ends_ev rfl ?_
      simp only [go_sem]
      exact Co.of_eq (by simp [optD, optI])

theorem all_calls (f : Ty → Ty) (ns : List Str) (us l : List Ty) (hl : l.length ≤ 1000000) (h : ∀ t ∈ l, ∀ g d, ACalls E 126 [encTy t, slS ns, slTy us] [] g d (encTy (f t)) []) (g d : Nat) :
    ACalls E 158 [slTy l, slS ns, slTy us] [] g d (slTy (l.map f)) [] := by
  refine acalls_of_awp (fn := Tryz.f158) (N := 25) Tryz.call158 Tryz.func158 rfl rfl (by simp) ?_
  simp only [go_sem]
  refine awp_seq_k (fun K1 hK1 => ?_)
  refine awp_plain 1 (by kernel_rfl) rfl (fun g0 hg0 => ?_)
  simp only [go_sem]
  refine hK1 _ ?_
  refine awp_seq_k (fun K2 hK2 => ?_)
  refine awp_plain 1 (by kernel_rfl) rfl (fun g1 hg1 => ?_)
  simp only [go_sem]
  refine hK2 _ ?_
  refine awp_seq_k (fun K3 hK3 => ?_)
  refine awp_seq_k (fun K4 hK4 => ?_)
  refine awp_plain 3 (by kernel_rfl) rfl (fun g2 hg2 => ?_)
  simp only [go_sem]
  refine hK4 _ ?_
  refine awp_block ?_
  refine awp_nil 7 25 3 rfl fun gn hgn => ?_
  refine awp_loop (fun m s => ∃ k a i, k ≤ l.length ∧ m = l.length - k ∧
      Le { env := [(1, slS ns), (2, slTy us), (10, slTy l), (11, dN l.length), (12, dN k), (7, .own ⟨a, i, 0⟩ k)], σ := [(⟨a, i, 0⟩, .arr 25 3 ((l.take k).map fun t => encTy (f t)))] } s) l.length ?_ ?_
  · refine ⟨0, gn, 0, Nat.zero_le _, rfl, le_of ?_⟩
    simp only [go_sem]
    trivial
  · rintro m s ⟨k, a, i, hk, rfl, hle⟩
    refine awp_keep hle ?_
    clear hle
    by_cases hlt : k < l.length
    · refine awp_seq_k (fun K5 hK5 => ?_)
      refine awp_plain 1 (by kernel_rfl) rfl (fun g3 hg3 => ?_)
      simp only [go_sem, hlt]
      refine hK5 _ ?_
      refine awp_seq_k (fun K6 hK6 => ?_)
      refine awp_t rfl ?_
      refine awp_skip ?_
      refine hK6 _ ?_
      refine awp_seq_k (fun K7 hK7 => ?_)
      refine awp_block ?_
      refine awp_seq_k (fun K8 hK8 => ?_)
      refine awp_plain 4 (by kernel_rfl) rfl (fun g4 hg4 => ?_)
      simp only [go_sem, getM hlt]
      refine hK8 _ ?_
      have hn4_a : g4 ≠ a := fresh_g hg4 i 0 (by simp [go_sem])
      refine awp_ops (by kernel_rfl) rfl (fun g5 hg5 ops5 KR5 hops5 hKR5 => ?_)
      refine aops_eval 4 hops5 ?_
      simp only [go_sem, Ne.symm hn4_a]
      refine aops_pure hops5 rfl rfl rfl (h _ (List.getElem_mem hlt) _ _) (CoL.refl _) ?_
      refine aops_eval 1 hops5 ?_
      simp only [go_sem]
      refine aops_app hops5 rfl rfl rfl rfl rfl es23 sz25 by25 ze25 rfl (by decide) ?_
      simp only [go_sem, List.length_take_of_le (Nat.le_of_lt hlt), hn4_a]
      first | refine ⟨⟨by omega, by omega⟩, ?_⟩ | skip
      refine aops_last 1 hops5 ?_
      simp only [go_sem]
      refine hKR5 _ ?_
      refine hK7 _ ?_
      refine awp_plain 2 (by kernel_rfl) rfl (fun g6 hg6 => ?_)
      simp only [go_sem]
      try simp (disch := omega) only [wrapN]
      refine ⟨_, ?_, k + 1, g5, 22, hlt, rfl, le_of ?_⟩
      · omega
      simp only [go_sem, ← takeM _ hlt]
      omega
    · refine awp_seq_k (fun K9 hK9 => ?_)
      refine awp_plain 1 (by kernel_rfl) rfl (fun g3 hg3 => ?_)
      simp only [go_sem, hlt]
      refine hK9 _ ?_
      refine awp_seq_k (fun K10 hK10 => ?_)
      refine awp_f rfl ?_
      refine awp_exit ?_
      refine hK3 _ ?_
      refine awp_seq_k (fun K11 hK11 => ?_)
      refine awp_plain 2 (by kernel_rfl) rfl (fun g7 hg7 => ?_)
      simp only [go_sem]
      refine hK11 _ ?_
      refine awp_ret ?_
      have : k = l.length := by omega
      subst this
      refine ret_frz ⟨a, i, 0⟩ ?_
      simp only [go_sem]
      refine ends_ev rfl ?_
      simp only [go_sem]
      exact Co.of_eq (by simp [Function.comp_def])

theorem subst_step (ns : List Str) (us : List Ty) (hns : ns.length ≤ 1000000) (hc : ∀ t ∈ us, ∀ g d, ACalls E 92 [encTy t] [] g d (encTy t) []) (t : Ty) (ht : smTy t)
    (ih : ∀ x ∈ t.args, ∀ g d, ACalls E 126 [encTy x, slS ns, slTy us] [] g d (encTy (substTy ns us x)) []) (g d : Nat) :
    ACalls E 126 [encTy t, slS ns, slTy us] [] g d (encTy (substTy ns us t)) [] := by
  obtain ⟨hs1, hs2, hs3⟩ := (smTy_iff t).1 ht
  have key : (t.args.length = 0 ∧ ∃ i u, ns.findIdx? (isS t.name) = some i ∧ ∃ h : i < us.length, us[i] = u ∧ substTy ns us t = .mk u.name u.args t.pos) ∨
      ((t.args.length = 0 → ∀ i, ns.findIdx? (isS t.name) = some i → ¬ i < us.length) ∧ substTy ns us t = .mk t.name (t.args.map (substTy ns us)) t.pos) := by
    rw [substTy_eq]
    unfold look
    cases hx : t.args with
    | nil =>
      cases hf : ns.findIdx? (isS t.name) with
      | none => right; simp
      | some i =>
        by_cases hi : i < us.length
        · left; simp [hi]
        · right; simp [hi]; omega
    | cons y ys => right; simp
  refine acalls_of_awp (fn := Tryz.f126) (N := 43) Tryz.call126 Tryz.func126 rfl rfl (by simp) ?_
  simp only [go_sem]
  refine awp_seq_k (fun K1 hK1 => ?_)
  refine awp_plain 2 (by kernel_rfl) rfl (fun g0 hg0 => ?_)
  simp only [go_sem]
  refine hK1 _ ?_
  refine awp_seq_k (fun K2 hK2 => ?_)
  refine awp_seq_k (fun K3 hK3 => ?_)
  refine awp_ops (by kernel_rfl) rfl (fun g1 hg1 ops1 KR1 hops1 hKR1 => ?_)
  refine aops_eval 3 hops1 ?_
  simp only [go_sem]
  refine aops_pure hops1 rfl rfl rfl (index_calls _ _ (by omega) _ _) (CoL.refl _) ?_
  refine aops_last 1 hops1 ?_
  simp only [go_sem]
  refine hKR1 _ ?_
  refine hK3 _ ?_
  refine awp_seq_k (fun K4 hK4 => ?_)
  rcases key with ⟨k1, i, u, k2, k3, k4, k5⟩ | ⟨k1, k2⟩
  · rw [k2]
    have h0 : (0 : Int) ≤ i := by omega
    refine awp_plain 14 (by kernel_rfl) rfl (fun g2 hg2 => ?_)
    simp only [go_sem, optD, optI, k1, Int.ofNat_eq_zero, decide_true, h0, k3]
    refine hK4 _ ?_
    refine awp_t rfl ?_
    refine awp_seq_k (fun K5 hK5 => ?_)
    refine awp_ops (by kernel_rfl) rfl (fun g3 hg3 ops3 KR3 hops3 hKR3 => ?_)
    refine aops_eval 4 hops3 ?_
    simp only [go_sem, getM k3]
    refine aops_pure hops3 rfl rfl rfl (hc _ (List.getElem_mem k3) _ _) (CoL.refl _) ?_
    refine aops_last 2 hops3 ?_
    simp only [go_sem]
    refine hKR3 _ ?_
    refine hK5 _ ?_
    refine awp_seq_k (fun K6 hK6 => ?_)
    refine awp_plain 4 (by kernel_rfl) rfl (fun g4 hg4 => ?_)
    simp only [go_sem]
    refine hK6 _ ?_
    refine awp_seq_k (fun K7 hK7 => ?_)
    refine awp_plain 2 (by kernel_rfl) rfl (fun g5 hg5 => ?_)
    simp only [go_sem]
    refine hK7 _ ?_
    refine awp_ret ?_
    rw [k5, ← k4]
    refine ends_ev rfl ?_
    simp only [go_sem]
    exact Co.refl _
  · by_cases h0 : t.args.length = 0
    · cases hf : ns.findIdx? (isS t.name) with
      | none =>
        refine awp_plain 14 (by kernel_rfl) rfl (fun g2 hg2 => ?_)
        simp only [go_sem, optD, optI, h0, Int.ofNat_eq_zero]
        refine hK4 _ ?_
        refine awp_f rfl ?_
        refine awp_skip ?_
        refine hK2 _ ?_
        refine awp_seq_k (fun K8 hK8 => ?_)
        refine awp_ops (by kernel_rfl) rfl (fun g6 hg6 ops6 KR6 hops6 hKR6 => ?_)
        refine aops_eval 4 hops6 ?_
        simp only [go_sem]
        refine aops_pure hops6 rfl rfl rfl (all_calls _ ns us _ hs2 ih _ _) (CoL.refl _) ?_
        refine aops_last 2 hops6 ?_
        simp only [go_sem]
        refine hKR6 _ ?_
        refine hK8 _ ?_
        refine awp_seq_k (fun K9 hK9 => ?_)
        refine awp_plain 2 (by kernel_rfl) rfl (fun g7 hg7 => ?_)
        simp only [go_sem]
        refine hK9 _ ?_
        refine awp_ret ?_
        rw [k2]
        refine ends_ev rfl ?_
        simp only [go_sem]
        exact Co.refl _
      | some i =>
        have h1 : (0 : Int) ≤ i := by omega
        have h2 : ¬ i < us.length := k1 h0 i hf
        refine awp_plain 14 (by kernel_rfl) rfl (fun g2 hg2 => ?_)
        simp only [go_sem, optD, optI, h0, h1, h2, Int.ofNat_eq_zero]
        refine hK4 _ ?_
        refine awp_f rfl ?_
        refine awp_skip ?_
        refine hK2 _ ?_
        refine awp_seq_k (fun K10 hK10 => ?_)
        refine awp_ops (by kernel_rfl) rfl (fun g6 hg6 ops6 KR6 hops6 hKR6 => ?_)
        refine aops_eval 4 hops6 ?_
        simp only [go_sem]
        refine aops_pure hops6 rfl rfl rfl (all_calls _ ns us _ hs2 ih _ _) (CoL.refl _) ?_
        refine aops_last 2 hops6 ?_
        simp only [go_sem]
        refine hKR6 _ ?_
        refine hK10 _ ?_
        refine awp_seq_k (fun K11 hK11 => ?_)
        refine awp_plain 2 (by kernel_rfl) rfl (fun g7 hg7 => ?_)
        simp only [go_sem]
        refine hK11 _ ?_
        refine awp_ret ?_
        rw [k2]
        refine ends_ev rfl ?_
        simp only [go_sem]
        exact Co.refl _
    · refine awp_plain 14 (by kernel_rfl) rfl (fun g2 hg2 => ?_)
      simp only [go_sem, h0, Int.ofNat_eq_zero]
      refine hK4 _ ?_
      refine awp_f rfl ?_
      refine awp_skip ?_
      refine hK2 _ ?_
      refine awp_seq_k (fun K12 hK12 => ?_)
      refine awp_ops (by kernel_rfl) rfl (fun g6 hg6 ops6 KR6 hops6 hKR6 => ?_)
      refine aops_eval 4 hops6 ?_
      simp only [go_sem]
      refine aops_pure hops6 rfl rfl rfl (all_calls _ ns us _ hs2 ih _ _) (CoL.refl _) ?_
      refine aops_last 2 hops6 ?_
      simp only [go_sem]
      refine hKR6 _ ?_
      refine hK12 _ ?_
      refine awp_seq_k (fun K13 hK13 => ?_)
      refine awp_plain 2 (by kernel_rfl) rfl (fun g7 hg7 => ?_)
      simp only [go_sem]
      refine hK13 _ ?_
      refine awp_ret ?_
      rw [k2]
      refine ends_ev rfl ?_
      simp only [go_sem]
      exact Co.refl _

theorem subst_nil : ∀ (t : Ty), smTy t → ∀ g d, ACalls E 126 [encTy t, slS [], slTy []] [] g d (encTy t) [] := by
  refine Ty.ind fun t ih ht g d => ?_
  have := subst_step [] [] (by simp) (fun t ht => by cases ht) t ht (fun x hx g d => by rw [substTy_nil]; exact ih x hx (((smTy_iff t).1 ht).2.2 x hx) g d) g d
  rwa [substTy_nil] at this

theorem clone_calls (t : Ty) (ht : smTy t) (g d : Nat) : ACalls E 92 [encTy t] [] g d (encTy t) [] := by
  refine acalls_of_awp (fn := Tryz.f92) (N := 5) Tryz.call92 Tryz.func92 rfl rfl (by simp) ?_
  simp only [go_sem]
  refine awp_seq_k (fun K1 hK1 => ?_)
  refine awp_plain 2 (by kernel_rfl) rfl (fun g0 hg0 => ?_)
  simp only [go_sem]
  refine hK1 _ ?_
  refine awp_seq_k (fun K2 hK2 => ?_)
  refine awp_ops (by kernel_rfl) rfl (fun g1 hg1 ops1 KR1 hops1 hKR1 => ?_)
  refine aops_eval 1 hops1 ?_
  simp only [go_sem]
  refine aops_pure hops1 rfl rfl rfl (subst_nil t ht _ _) (.cons (.refl _) (.cons (.nil _) (.cons (.nil _) .nil))) ?_
  refine aops_last 1 hops1 ?_
  simp only [go_sem]
  refine hKR1 _ ?_
  refine hK2 _ ?_
  refine awp_ret ?_
  refine ends_ev rfl ?_
  simp only [go_sem]
  exact Co.refl _

end Go.Proofs.T


namespace Go.Proofs.T
open Go Go.Ab Go.RowKit

end Go.Proofs.T


namespace Go.Proofs.T
open Go Go.Ab Go.RowKit

/-! ## Substituting in signatures -/

def smFm (f : Formal) : Prop := f.name.size ≤ 1000000 ∧ smTy f.bound
def smPa (f : Param) : Prop := f.name.size ≤ 1000000 ∧ smTy f.type
def smSi (s : Sig) : Prop := s.name.size ≤ 1000000 ∧ (s.formals.length ≤ 1000000 ∧ ∀ f ∈ s.formals, smFm f) ∧ (s.params.length ≤ 1000000 ∧ ∀ f ∈ s.params, smPa f) ∧ smTy s.result

def mapFm (f : Ty → Ty) (x : Formal) : Formal := ⟨x.name, f x.bound, x.pos⟩
def mapPa (f : Ty → Ty) (x : Param) : Param := ⟨x.name, f x.type, x.pos⟩
def mapSi (f : Ty → Ty) (s : Sig) : Sig := ⟨s.name, s.formals.map (mapFm f), s.params.map (mapPa f), f s.result, s.pos⟩

/-- A signature whose lists are new. -/
def ownSi (g d : Nat) (s : Sig) : D := .agg [.val (.string s.name), .own ⟨g, d, 1⟩ s.formals.length, .own ⟨g, d, 2⟩ s.params.length, .val (.string s.result.name), .sl false (s.result.args.map encTy), .val (.int .i64 s.result.pos), .val (.int .i64 s.pos)]
def newSi (g d : Nat) (s : Sig) : Sto := [(⟨g, d, 1⟩, .arr 82 5 (s.formals.map encFm)), (⟨g, d, 2⟩, .arr 84 5 (s.params.map encPa))]
def zSi : List D := [.val (.string ByteArray.empty), .val (.slice none 0 0), .val (.slice none 0 0), .val (.string ByteArray.empty), .val (.slice none 0 0), dI 0, dI 0]

end Go.Proofs.T


namespace Go.Proofs.T
end Go.Proofs.T


namespace Go.Proofs.T
open Go Go.Ab Go.RowKit

/-! ## Decimal numerals, local names -/

def decS (u : Nat) : Str := ⟨(Lib.decDigits u).toArray⟩
def localS (u : Nat) : Str := ⟨#[36]⟩ ++ decS u

end Go.Proofs.T


namespace Go.Proofs.T
open Go Go.Ab Go.RowKit

/-! ## Canonical signatures -/

def locTy (i : Nat) : Ty := ⟨localS i, [], 0⟩
def locTys (n : Nat) : List Ty := (List.range n).map locTy
def toLoc (i : Nat) (f : Formal) : Formal := ⟨localS i, f.bound, f.pos⟩
def noName (p : Param) : Param := ⟨⟨#[]⟩, p.type, p.pos⟩
def ownF (s : Sig) : Ty → Ty := substTy (s.formals.map (·.name)) (locTys s.formals.length)
def canonSi (s : Sig) : Sig := ⟨s.name, (s.formals.map (mapFm (ownF s))).mapIdx toLoc, (s.params.map (mapPa (ownF s))).map noName, ownF s s.result, s.pos⟩

def rawLoc (i : Nat) : D := .agg [.val (.string (localS i)), .val (.slice none 0 0), dI 0]
/-- Formals renamed up to here. -/
def upTo (k i : Nat) (f : Formal) : D := encFm (if i < k then toLoc i f else f)

def upP (k i : Nat) (f : Param) : D := encPa (if i < k then noName f else f)
end Go.Proofs.T


namespace Go.Proofs.T
open Go Go.Ab Go.RowKit

/-! ## Signatures that are alike -/

def same (t u : Ty) : Bool := decide (cmpTy t u = 0)

/-- Two lists, element by element. -/
def allB {α : Type} (p : α → α → Bool) : List α → List α → Bool
  | [], [] => true
  | a :: x, b :: y => p a b && allB p x y
  | _, _ => false
theorem allB_length {α : Type} {p : α → α → Bool} : ∀ {x y : List α}, x.length ≠ y.length → allB p x y = false
  | [], [], h => absurd rfl h
  | [], _ :: _, _ => rfl
  | _ :: _, [], _ => rfl
  | a :: x, b :: y, h => by simp only [allB, allB_length (x := x) (y := y) (fun e => h (by simp [e])), Bool.and_false]

def sameFm (a b : Formal) : Bool := decide (a.name = b.name) && same a.bound b.bound
def samePa (a b : Param) : Bool := decide (a.name = b.name) && same a.type b.type
def sameSi (s t : Sig) : Bool := decide (s.name = t.name) && (allB sameFm s.formals t.formals && (allB samePa s.params t.params && same s.result t.result))


end Go.Proofs.T


namespace Go.Proofs.T
open Go Go.Ab Go.RowKit

def refFm (q : Bool) (a b : Formal) : Bool := (decide (a.name = b.name) && same a.bound b.bound) && (!q || (decide (a.pos = b.pos) && eqTy a.bound b.bound))
def refPa (q : Bool) (a b : Param) : Bool := (decide (a.name = b.name) && same a.type b.type) && (!q || (decide (a.pos = b.pos) && eqTy a.type b.type))
def refSi (q : Bool) (s t : Sig) : Bool := (decide (s.name = t.name) && (allB (refFm q) s.formals t.formals && (allB (refPa q) s.params t.params && same s.result t.result))) && (!q || (decide (s.pos = t.pos) && eqTy s.result t.result))


theorem refFormals_calls (q : Bool) (l r : List Formal) (hl : l.length ≤ 9223372036854775807) (hl2 : ∀ a ∈ l, okFm a) (g d : Nat) : ACalls E 75 [slFm l, slFm r, dB q] [] g d (dB (allB (refFm q) l r)) [] := by
  refine acalls_of_awp (fn := Tryz.f75) (N := 72) Tryz.call75 Tryz.func75 rfl rfl (by simp) ?_
  simp only [go_sem]
  refine awp_seq_k (fun K1 hK1 => ?_)
  refine awp_plain 1 (by kernel_rfl) rfl (fun g0 hg0 => ?_)
  simp only [go_sem]
  refine hK1 _ ?_
  refine awp_seq_k (fun K2 hK2 => ?_)
  refine awp_seq_k (fun K3 hK3 => ?_)
  by_cases hlen : l.length = r.length
  · have hlen' : (l.length : Int) = r.length := by omega
    refine awp_plain 5 (by kernel_rfl) rfl (fun g1 hg1 => ?_)
    simp only [go_sem, hlen']
    refine hK3 _ ?_
    refine awp_f rfl ?_
    refine awp_skip ?_
    refine hK2 _ ?_
    refine awp_seq_k (fun K4 hK4 => ?_)
    refine awp_seq_k (fun K5 hK5 => ?_)
    refine awp_plain 1 (by kernel_rfl) rfl (fun g3 hg3 => ?_)
    simp only [go_sem]
    refine hK5 _ ?_
    refine awp_block ?_
    refine awp_loop (fun m st => ∃ k, k ≤ l.length ∧ m = l.length - k ∧ allB (refFm q) (l.drop k) (r.drop k) = allB (refFm q) l r ∧
        Le { env := [(0, slFm l), (1, slFm r), (2, dB q), (7, dN k)], σ := [] } st) l.length ?_ ?_
    · refine ⟨0, Nat.zero_le _, rfl, rfl, le_of ?_⟩
      simp only [go_sem]
      trivial
    · rintro m st ⟨k, hk, rfl, hc, hle⟩
      refine awp_keep hle ?_
      clear hle
      by_cases hlt : k < l.length
      · have hlt2 : k < r.length := by omega
        rw [dropC _ _ hlt, dropC _ _ hlt2] at hc
        simp only [allB] at hc
        have g1 := getM (f := encFm) hlt
        have g2 := getM (f := encFm) hlt2
        refine awp_seq_k (fun K6 hK6 => ?_)
        refine awp_seq_k (fun K7 hK7 => ?_)
        refine awp_plain 4 (by kernel_rfl) rfl (fun g4 hg4 => ?_)
        simp only [go_sem, hlt]
        refine hK7 _ ?_
        refine awp_t rfl ?_
        refine awp_skip ?_
        refine hK6 _ ?_
        refine awp_seq_k (fun K8 hK8 => ?_)
        refine awp_block ?_
        refine awp_seq_k (fun K9 hK9 => ?_)
        refine awp_seq_k (fun K10 hK10 => ?_)
        by_cases hn : l[k].name = r[k].name
        · refine awp_anyq (by kernel_rfl) rfl (fun g6 hg6 ops6 KR6 hops6 hKR6 => ?_)
          refine qrun_eval 22 hops6 ?_
          simp only [go_sem, hn, decide_true, g1, g2]
          refine qrun_pure hops6 rfl rfl rfl (ref04Same_calls _ _ (hl2 _ (List.getElem_mem hlt)).2 _ _) (CoL.refl _) rfl ?_
          cases hs : same l[k].bound r[k].bound with
          | false =>
            refine qrun_last 2 hops6 ?_
            simp only [go_sem, show decide (cmpTy l[k].bound r[k].bound = 0) = false from hs]
            refine hKR6 _ ?_
            refine hK10 _ ?_
            refine awp_t rfl ?_
            refine awp_seq_k (fun K11 hK11 => ?_)
            refine awp_plain 1 (by kernel_rfl) rfl (fun g7 hg7 => ?_)
            simp only [go_sem]
            refine hK11 _ ?_
            refine awp_ret ?_
            rw [show refFm q l[k] r[k] = false by simp [refFm, hs]] at hc
            rw [Bool.false_and] at hc
            rw [← hc]
            refine ends_ev rfl ?_
            simp only [go_sem]
            exact Co.refl _
          | true =>
            refine qrun_last 2 hops6 ?_
            simp only [go_sem, show decide (cmpTy l[k].bound r[k].bound = 0) = true from hs]
            refine hKR6 _ ?_
            refine hK10 _ ?_
            refine awp_f rfl ?_
            refine awp_skip ?_
            refine hK9 _ ?_
            refine awp_seq_k (fun K12 hK12 => ?_)
            cases q with
            | false =>
              refine awp_anyq (by kernel_rfl) rfl (fun g8 hg8 ops8 KR8 hops8 hKR8 => ?_)
              refine qrun_last 28 hops8 ?_
              simp only [go_sem]
              refine hKR8 _ ?_
              refine hK12 _ ?_
              refine awp_f rfl ?_
              refine awp_skip ?_
              refine hK8 _ ?_
              refine awp_plain 3 (by kernel_rfl) rfl (fun g5 hg5 => ?_)
              simp only [go_sem]
              try simp (disch := omega) only [wrapN]
              rw [show refFm false l[k] r[k] = true by simp [refFm, hs, hn]] at hc
              rw [Bool.true_and] at hc
              refine ⟨_, ?_, k + 1, hlt, rfl, hc, le_of ?_⟩
              · omega
              simp only [go_sem]
              omega
            | true =>
              by_cases hp : l[k].pos = r[k].pos
              · refine awp_anyq (by kernel_rfl) rfl (fun g8 hg8 ops8 KR8 hops8 hKR8 => ?_)
                refine qrun_eval 24 hops8 ?_
                simp only [go_sem, hp, decide_true, g1, g2]
                refine qrun_pure hops8 rfl rfl rfl (ref04Equal_calls _ (hl2 _ (List.getElem_mem hlt)).2 _ _ _) (CoL.refl _) rfl ?_
                cases he : eqTy l[k].bound r[k].bound with
                | true =>
                  refine qrun_last 3 hops8 ?_
                  simp only [go_sem]
                  refine hKR8 _ ?_
                  refine hK12 _ ?_
                  refine awp_f rfl ?_
                  refine awp_skip ?_
                  refine hK8 _ ?_
                  refine awp_plain 3 (by kernel_rfl) rfl (fun g5 hg5 => ?_)
                  simp only [go_sem]
                  try simp (disch := omega) only [wrapN]
                  rw [show refFm true l[k] r[k] = true by simp [refFm, hs, hn, hp, he]] at hc
                  rw [Bool.true_and] at hc
                  refine ⟨_, ?_, k + 1, hlt, rfl, hc, le_of ?_⟩
                  · omega
                  simp only [go_sem]
                  omega
                | false =>
                  refine qrun_last 3 hops8 ?_
                  simp only [go_sem]
                  refine hKR8 _ ?_
                  refine hK12 _ ?_
                  refine awp_t rfl ?_
                  refine awp_seq_k (fun K13 hK13 => ?_)
                  refine awp_plain 1 (by kernel_rfl) rfl (fun g9 hg9 => ?_)
                  simp only [go_sem]
                  refine hK13 _ ?_
                  refine awp_ret ?_
                  rw [show refFm true l[k] r[k] = false by simp [refFm, hs, hn, hp, he]] at hc
                  rw [Bool.false_and] at hc
                  rw [← hc]
                  refine ends_ev rfl ?_
                  simp only [go_sem]
                  exact Co.refl _
              · refine awp_anyq (by kernel_rfl) rfl (fun g8 hg8 ops8 KR8 hops8 hKR8 => ?_)
                refine qrun_last 28 hops8 ?_
                simp only [go_sem, hp, g1, g2]
                refine hKR8 _ ?_
                refine hK12 _ ?_
                refine awp_t rfl ?_
                refine awp_seq_k (fun K14 hK14 => ?_)
                refine awp_plain 1 (by kernel_rfl) rfl (fun g9 hg9 => ?_)
                simp only [go_sem]
                refine hK14 _ ?_
                refine awp_ret ?_
                rw [show refFm true l[k] r[k] = false by simp [refFm, hs, hn, hp]] at hc
                rw [Bool.false_and] at hc
                rw [← hc]
                refine ends_ev rfl ?_
                simp only [go_sem]
                exact Co.refl _
        · refine awp_anyq (by kernel_rfl) rfl (fun g6 hg6 ops6 KR6 hops6 hKR6 => ?_)
          refine qrun_last 25 hops6 ?_
          simp only [go_sem, hn, g1, g2]
          refine hKR6 _ ?_
          refine hK10 _ ?_
          refine awp_t rfl ?_
          refine awp_seq_k (fun K15 hK15 => ?_)
          refine awp_plain 1 (by kernel_rfl) rfl (fun g7 hg7 => ?_)
          simp only [go_sem]
          refine hK15 _ ?_
          refine awp_ret ?_
          rw [show refFm q l[k] r[k] = false by simp [refFm, hn]] at hc
          rw [Bool.false_and] at hc
          rw [← hc]
          refine ends_ev rfl ?_
          simp only [go_sem]
          exact Co.refl _
      · rw [dropN _ _ (by omega), dropN _ _ (by omega)] at hc
        simp only [allB] at hc
        refine awp_seq_k (fun K16 hK16 => ?_)
        refine awp_seq_k (fun K17 hK17 => ?_)
        refine awp_plain 4 (by kernel_rfl) rfl (fun g4 hg4 => ?_)
        simp only [go_sem, hlt]
        refine hK17 _ ?_
        refine awp_f rfl ?_
        refine awp_exit ?_
        refine hK4 _ ?_
        refine awp_seq_k (fun K18 hK18 => ?_)
        refine awp_plain 1 (by kernel_rfl) rfl (fun g10 hg10 => ?_)
        simp only [go_sem]
        refine hK18 _ ?_
        refine awp_ret ?_
        rw [← hc]
        refine ends_ev rfl ?_
        simp only [go_sem]
        exact Co.refl _
  · have hlen' : ¬ (l.length : Int) = r.length := by omega
    refine awp_plain 5 (by kernel_rfl) rfl (fun g1 hg1 => ?_)
    simp only [go_sem, hlen']
    refine hK3 _ ?_
    refine awp_t rfl ?_
    refine awp_seq_k (fun K19 hK19 => ?_)
    refine awp_plain 1 (by kernel_rfl) rfl (fun g2 hg2 => ?_)
    simp only [go_sem]
    refine hK19 _ ?_
    refine awp_ret ?_
    rw [allB_length hlen]
    refine ends_ev rfl ?_
    simp only [go_sem]
    exact Co.refl _

theorem refParams_calls (q : Bool) (l r : List Param) (hl : l.length ≤ 9223372036854775807) (hl2 : ∀ a ∈ l, okPa a) (g d : Nat) : ACalls E 76 [slPa l, slPa r, dB q] [] g d (dB (allB (refPa q) l r)) [] := by
  refine acalls_of_awp (fn := Tryz.f76) (N := 72) Tryz.call76 Tryz.func76 rfl rfl (by simp) ?_
  simp only [go_sem]
  refine awp_seq_k (fun K1 hK1 => ?_)
  refine awp_plain 1 (by kernel_rfl) rfl (fun g0 hg0 => ?_)
  simp only [go_sem]
  refine hK1 _ ?_
  refine awp_seq_k (fun K2 hK2 => ?_)
  refine awp_seq_k (fun K3 hK3 => ?_)
  by_cases hlen : l.length = r.length
  · have hlen' : (l.length : Int) = r.length := by omega
    refine awp_plain 5 (by kernel_rfl) rfl (fun g1 hg1 => ?_)
    simp only [go_sem, hlen']
    refine hK3 _ ?_
    refine awp_f rfl ?_
    refine awp_skip ?_
    refine hK2 _ ?_
    refine awp_seq_k (fun K4 hK4 => ?_)
    refine awp_seq_k (fun K5 hK5 => ?_)
    refine awp_plain 1 (by kernel_rfl) rfl (fun g3 hg3 => ?_)
    simp only [go_sem]
    refine hK5 _ ?_
    refine awp_block ?_
    refine awp_loop (fun m st => ∃ k, k ≤ l.length ∧ m = l.length - k ∧ allB (refPa q) (l.drop k) (r.drop k) = allB (refPa q) l r ∧
        Le { env := [(0, slPa l), (1, slPa r), (2, dB q), (7, dN k)], σ := [] } st) l.length ?_ ?_
    · refine ⟨0, Nat.zero_le _, rfl, rfl, le_of ?_⟩
      simp only [go_sem]
      trivial
    · rintro m st ⟨k, hk, rfl, hc, hle⟩
      refine awp_keep hle ?_
      clear hle
      by_cases hlt : k < l.length
      · have hlt2 : k < r.length := by omega
        rw [dropC _ _ hlt, dropC _ _ hlt2] at hc
        simp only [allB] at hc
        have g1 := getM (f := encPa) hlt
        have g2 := getM (f := encPa) hlt2
        refine awp_seq_k (fun K6 hK6 => ?_)
        refine awp_seq_k (fun K7 hK7 => ?_)
        refine awp_plain 4 (by kernel_rfl) rfl (fun g4 hg4 => ?_)
        simp only [go_sem, hlt]
        refine hK7 _ ?_
        refine awp_t rfl ?_
        refine awp_skip ?_
        refine hK6 _ ?_
        refine awp_seq_k (fun K8 hK8 => ?_)
        refine awp_block ?_
        refine awp_seq_k (fun K9 hK9 => ?_)
        refine awp_seq_k (fun K10 hK10 => ?_)
        by_cases hn : l[k].name = r[k].name
        · refine awp_anyq (by kernel_rfl) rfl (fun g6 hg6 ops6 KR6 hops6 hKR6 => ?_)
          refine qrun_eval 22 hops6 ?_
          simp only [go_sem, hn, decide_true, g1, g2]
          refine qrun_pure hops6 rfl rfl rfl (ref04Same_calls _ _ (hl2 _ (List.getElem_mem hlt)).2 _ _) (CoL.refl _) rfl ?_
          cases hs : same l[k].type r[k].type with
          | false =>
            refine qrun_last 2 hops6 ?_
            simp only [go_sem, show decide (cmpTy l[k].type r[k].type = 0) = false from hs]
            refine hKR6 _ ?_
            refine hK10 _ ?_
            refine awp_t rfl ?_
            refine awp_seq_k (fun K11 hK11 => ?_)
            refine awp_plain 1 (by kernel_rfl) rfl (fun g7 hg7 => ?_)
            simp only [go_sem]
            refine hK11 _ ?_
            refine awp_ret ?_
            rw [show refPa q l[k] r[k] = false by simp [refPa, hs]] at hc
            rw [Bool.false_and] at hc
            rw [← hc]
            refine ends_ev rfl ?_
            simp only [go_sem]
            exact Co.refl _
          | true =>
            refine qrun_last 2 hops6 ?_
            simp only [go_sem, show decide (cmpTy l[k].type r[k].type = 0) = true from hs]
            refine hKR6 _ ?_
            refine hK10 _ ?_
            refine awp_f rfl ?_
            refine awp_skip ?_
            refine hK9 _ ?_
            refine awp_seq_k (fun K12 hK12 => ?_)
            cases q with
            | false =>
              refine awp_anyq (by kernel_rfl) rfl (fun g8 hg8 ops8 KR8 hops8 hKR8 => ?_)
              refine qrun_last 28 hops8 ?_
              simp only [go_sem]
              refine hKR8 _ ?_
              refine hK12 _ ?_
              refine awp_f rfl ?_
              refine awp_skip ?_
              refine hK8 _ ?_
              refine awp_plain 3 (by kernel_rfl) rfl (fun g5 hg5 => ?_)
              simp only [go_sem]
              try simp (disch := omega) only [wrapN]
              rw [show refPa false l[k] r[k] = true by simp [refPa, hs, hn]] at hc
              rw [Bool.true_and] at hc
              refine ⟨_, ?_, k + 1, hlt, rfl, hc, le_of ?_⟩
              · omega
              simp only [go_sem]
              omega
            | true =>
              by_cases hp : l[k].pos = r[k].pos
              · refine awp_anyq (by kernel_rfl) rfl (fun g8 hg8 ops8 KR8 hops8 hKR8 => ?_)
                refine qrun_eval 24 hops8 ?_
                simp only [go_sem, hp, decide_true, g1, g2]
                refine qrun_pure hops8 rfl rfl rfl (ref04Equal_calls _ (hl2 _ (List.getElem_mem hlt)).2 _ _ _) (CoL.refl _) rfl ?_
                cases he : eqTy l[k].type r[k].type with
                | true =>
                  refine qrun_last 3 hops8 ?_
                  simp only [go_sem]
                  refine hKR8 _ ?_
                  refine hK12 _ ?_
                  refine awp_f rfl ?_
                  refine awp_skip ?_
                  refine hK8 _ ?_
                  refine awp_plain 3 (by kernel_rfl) rfl (fun g5 hg5 => ?_)
                  simp only [go_sem]
                  try simp (disch := omega) only [wrapN]
                  rw [show refPa true l[k] r[k] = true by simp [refPa, hs, hn, hp, he]] at hc
                  rw [Bool.true_and] at hc
                  refine ⟨_, ?_, k + 1, hlt, rfl, hc, le_of ?_⟩
                  · omega
                  simp only [go_sem]
                  omega
                | false =>
                  refine qrun_last 3 hops8 ?_
                  simp only [go_sem]
                  refine hKR8 _ ?_
                  refine hK12 _ ?_
                  refine awp_t rfl ?_
                  refine awp_seq_k (fun K13 hK13 => ?_)
                  refine awp_plain 1 (by kernel_rfl) rfl (fun g9 hg9 => ?_)
                  simp only [go_sem]
                  refine hK13 _ ?_
                  refine awp_ret ?_
                  rw [show refPa true l[k] r[k] = false by simp [refPa, hs, hn, hp, he]] at hc
                  rw [Bool.false_and] at hc
                  rw [← hc]
                  refine ends_ev rfl ?_
                  simp only [go_sem]
                  exact Co.refl _
              · refine awp_anyq (by kernel_rfl) rfl (fun g8 hg8 ops8 KR8 hops8 hKR8 => ?_)
                refine qrun_last 28 hops8 ?_
                simp only [go_sem, hp, g1, g2]
                refine hKR8 _ ?_
                refine hK12 _ ?_
                refine awp_t rfl ?_
                refine awp_seq_k (fun K14 hK14 => ?_)
                refine awp_plain 1 (by kernel_rfl) rfl (fun g9 hg9 => ?_)
                simp only [go_sem]
                refine hK14 _ ?_
                refine awp_ret ?_
                rw [show refPa true l[k] r[k] = false by simp [refPa, hs, hn, hp]] at hc
                rw [Bool.false_and] at hc
                rw [← hc]
                refine ends_ev rfl ?_
                simp only [go_sem]
                exact Co.refl _
        · refine awp_anyq (by kernel_rfl) rfl (fun g6 hg6 ops6 KR6 hops6 hKR6 => ?_)
          refine qrun_last 25 hops6 ?_
          simp only [go_sem, hn, g1, g2]
          refine hKR6 _ ?_
          refine hK10 _ ?_
          refine awp_t rfl ?_
          refine awp_seq_k (fun K15 hK15 => ?_)
          refine awp_plain 1 (by kernel_rfl) rfl (fun g7 hg7 => ?_)
          simp only [go_sem]
          refine hK15 _ ?_
          refine awp_ret ?_
          rw [show refPa q l[k] r[k] = false by simp [refPa, hn]] at hc
          rw [Bool.false_and] at hc
          rw [← hc]
          refine ends_ev rfl ?_
          simp only [go_sem]
          exact Co.refl _
      · rw [dropN _ _ (by omega), dropN _ _ (by omega)] at hc
        simp only [allB] at hc
        refine awp_seq_k (fun K16 hK16 => ?_)
        refine awp_seq_k (fun K17 hK17 => ?_)
        refine awp_plain 4 (by kernel_rfl) rfl (fun g4 hg4 => ?_)
        simp only [go_sem, hlt]
        refine hK17 _ ?_
        refine awp_f rfl ?_
        refine awp_exit ?_
        refine hK4 _ ?_
        refine awp_seq_k (fun K18 hK18 => ?_)
        refine awp_plain 1 (by kernel_rfl) rfl (fun g10 hg10 => ?_)
        simp only [go_sem]
        refine hK18 _ ?_
        refine awp_ret ?_
        rw [← hc]
        refine ends_ev rfl ?_
        simp only [go_sem]
        exact Co.refl _
  · have hlen' : ¬ (l.length : Int) = r.length := by omega
    refine awp_plain 5 (by kernel_rfl) rfl (fun g1 hg1 => ?_)
    simp only [go_sem, hlen']
    refine hK3 _ ?_
    refine awp_t rfl ?_
    refine awp_seq_k (fun K19 hK19 => ?_)
    refine awp_plain 1 (by kernel_rfl) rfl (fun g2 hg2 => ?_)
    simp only [go_sem]
    refine hK19 _ ?_
    refine awp_ret ?_
    rw [allB_length hlen]
    refine ends_ev rfl ?_
    simp only [go_sem]
    exact Co.refl _

end Go.Proofs.T


namespace Go.Proofs.T
open Go Go.Ab Go.RowKit

theorem smSi.ok {s : Sig} (h : smSi s) : okSi s := by
  obtain ⟨h1, ⟨h2, h3⟩, ⟨h4, h5⟩, h6⟩ := h
  exact ⟨by omega, ⟨by omega, fun f hf => ⟨by have := (h3 f hf).1; omega, smTy.ok _ (h3 f hf).2⟩⟩, ⟨by omega, fun f hf => ⟨by have := (h5 f hf).1; omega, smTy.ok _ (h5 f hf).2⟩⟩, smTy.ok _ h6⟩


theorem refSig_calls (q : Bool) (s t : Sig) (hs : okSi s) (g d : Nat) : ACalls E 46 [encSi s, encSi t, dB q] [] g d (dB (refSi q s t)) [] := by
  obtain ⟨h1, ⟨h2, h3⟩, ⟨h4, h5⟩, h6⟩ := hs
  refine acalls_of_awp (fn := Tryz.f46) (N := 54) Tryz.call46 Tryz.func46 rfl rfl (by simp) ?_
  simp only [go_sem]
  refine awp_seq_k (fun K1 hK1 => ?_)
  refine awp_plain 3 (by kernel_rfl) rfl (fun g0 hg0 => ?_)
  simp only [go_sem]
  refine hK1 _ ?_
  refine awp_seq_k (fun K2 hK2 => ?_)
  refine awp_seq_k (fun K3 hK3 => ?_)
  by_cases hn : s.name = t.name
  · refine awp_ops (by kernel_rfl) rfl (fun g1 hg1 ops1 KR1 hops1 hKR1 => ?_)
    refine aops_eval 11 hops1 ?_
    simp only [go_sem, hn, decide_true]
    refine aops_pure hops1 rfl rfl rfl (refFormals_calls q _ _ h2 h3 _ _) (CoL.refl _) ?_
    cases hf : allB (refFm q) s.formals t.formals with
    | true =>
      refine aops_eval 8 hops1 ?_
      simp only [go_sem]
      refine aops_pure hops1 rfl rfl rfl (refParams_calls q _ _ h4 h5 _ _) (CoL.refl _) ?_
      cases hp : allB (refPa q) s.params t.params with
      | true =>
        refine aops_eval 7 hops1 ?_
        simp only [go_sem]
        refine aops_pure hops1 rfl rfl rfl (ref04Same_calls _ _ h6 _ _) (CoL.refl _) ?_
        cases hs : same s.result t.result with
        | true =>
          refine aops_last 2 hops1 ?_
          simp only [go_sem, show decide (cmpTy s.result t.result = 0) = true from hs]
          refine hKR1 _ ?_
          refine hK3 _ ?_
          refine awp_f rfl ?_
          refine awp_skip ?_
          refine hK2 _ ?_
          refine awp_seq_k (fun K4 hK4 => ?_)
          cases q with
          | false =>
            refine awp_plain 17 (by kernel_rfl) rfl (fun g3 hg3 => ?_)
            simp only [go_sem]
            refine hK4 _ ?_
            refine awp_ret ?_
            rw [show refSi false s t = true by simp [refSi, hn, hf, hp, hs]]
            refine ends_ev rfl ?_
            simp only [go_sem]
            exact Co.refl _
          | true =>
            by_cases hpo : s.pos = t.pos
            · refine awp_ops (by kernel_rfl) rfl (fun g3 hg3 ops3 KR3 hops3 hKR3 => ?_)
              refine aops_eval 13 hops3 ?_
              simp only [go_sem, hpo, decide_true]
              refine aops_pure hops3 rfl rfl rfl (ref04Equal_calls _ h6 _ _ _) (CoL.refl _) ?_
              refine aops_last 3 hops3 ?_
              simp only [go_sem]
              refine hKR3 _ ?_
              refine hK4 _ ?_
              refine awp_ret ?_
              rw [show refSi true s t = eqTy s.result t.result by simp [refSi, hn, hf, hp, hs, hpo]]
              refine ends_ev rfl ?_
              simp only [go_sem]
              exact Co.refl _
            · refine awp_plain 17 (by kernel_rfl) rfl (fun g3 hg3 => ?_)
              simp only [go_sem, hpo]
              refine hK4 _ ?_
              refine awp_ret ?_
              rw [show refSi true s t = false by simp [refSi, hpo]]
              refine ends_ev rfl ?_
              simp only [go_sem]
              exact Co.refl _
        | false =>
          refine aops_last 2 hops1 ?_
          simp only [go_sem, show decide (cmpTy s.result t.result = 0) = false from hs]
          refine hKR1 _ ?_
          refine hK3 _ ?_
          refine awp_t rfl ?_
          refine awp_seq_k (fun K5 hK5 => ?_)
          refine awp_plain 1 (by kernel_rfl) rfl (fun g2 hg2 => ?_)
          simp only [go_sem]
          refine hK5 _ ?_
          refine awp_ret ?_
          rw [show refSi q s t = false by simp [refSi, hs]]
          refine ends_ev rfl ?_
          simp only [go_sem]
          exact Co.refl _
      | false =>
        refine aops_last 10 hops1 ?_
        simp only [go_sem]
        refine hKR1 _ ?_
        refine hK3 _ ?_
        refine awp_t rfl ?_
        refine awp_seq_k (fun K6 hK6 => ?_)
        refine awp_plain 1 (by kernel_rfl) rfl (fun g2 hg2 => ?_)
        simp only [go_sem]
        refine hK6 _ ?_
        refine awp_ret ?_
        rw [show refSi q s t = false by simp [refSi, hp]]
        refine ends_ev rfl ?_
        simp only [go_sem]
        exact Co.refl _
    | false =>
      refine aops_last 19 hops1 ?_
      simp only [go_sem]
      refine hKR1 _ ?_
      refine hK3 _ ?_
      refine awp_t rfl ?_
      refine awp_seq_k (fun K7 hK7 => ?_)
      refine awp_plain 1 (by kernel_rfl) rfl (fun g2 hg2 => ?_)
      simp only [go_sem]
      refine hK7 _ ?_
      refine awp_ret ?_
      rw [show refSi q s t = false by simp [refSi, hf]]
      refine ends_ev rfl ?_
      simp only [go_sem]
      exact Co.refl _
  · refine awp_plain 31 (by kernel_rfl) rfl (fun g1 hg1 => ?_)
    simp only [go_sem, hn]
    refine hK3 _ ?_
    refine awp_t rfl ?_
    refine awp_seq_k (fun K8 hK8 => ?_)
    refine awp_plain 1 (by kernel_rfl) rfl (fun g2 hg2 => ?_)
    simp only [go_sem]
    refine hK8 _ ?_
    refine awp_ret ?_
    rw [show refSi q s t = false by simp [refSi, hn]]
    refine ends_ev rfl ?_
    simp only [go_sem]
    exact Co.refl _

def alike (s t : Sig) : Bool := sameSi (canonSi s) (canonSi t)

def applySi (s : Sig) (us : List Ty) : Sig := mapSi (substTy (s.formals.map (·.name)) us) s
def zeroTy : Ty := .mk ByteArray.empty [] 0
def zeroSi : Sig := ⟨ByteArray.empty, [], [], zeroTy, 0⟩
theorem coZeroSi : Co (.agg zSi) (encSi zeroSi) := .agg (.cons (.refl _) (.cons (.nil _) (.cons (.nil _) (.cons (.refl _) (.cons (.nil _) (.cons (.refl _) (.cons (.refl _) .nil)))))))
end Go.Proofs.T


namespace Go.Proofs.T
open Go Go.Ab Go.RowKit

/-! ## Bounds -/

/-- The bound of the first formal of this name. -/
def boundOf (l : List Formal) (t : Ty) : Option Ty := if t.args.length = 0 then (l.findIdx? fun f => isS t.name f.name).bind fun i => l[i]?.map (·.bound) else none

end Go.Proofs.T


namespace Go.Proofs
open Go.Shelf
def Tryz.layGrowTy_ren : Go.Shelf.Ren := ⟨fun | 4 => 125 | n => n, fun | 22 => 23 | 25 => 25 | 3 => 3 | 4 => 4 | 9 => 9 | 20 => 20 | 0 => 0 | n => n, fun | n => n⟩
theorem Tryz.layGrowTy : Go.Proofs.Lays8.n4 Tryz.prog Tryz.layGrowTy_ren := {
  mixed := by kernel_rfl
  f4 := ⟨Tryz.f125.name, by decide, Tryz.func125.trans (congrArg some (by kernel_rfl))⟩
  t0 := Tryz.underlying0
  a0 := Tryz.isAgg0
  z0 := Tryz.sizeOf0
  v0 := Tryz.zeroValue0
  t3 := Tryz.underlying3
  a3 := Tryz.isAgg3
  z3 := Tryz.sizeOf3
  v3 := Tryz.zeroValue3
  t4 := Tryz.underlying4
  a4 := Tryz.isAgg4
  z4 := Tryz.sizeOf4
  v4 := Tryz.zeroValue4
  t9 := Tryz.underlying9
  a9 := Tryz.isAgg9
  z9 := Tryz.sizeOf9
  v9 := Tryz.zeroValue9
  t20 := Tryz.underlying20
  a20 := Tryz.isAgg20
  z20 := Tryz.sizeOf20
  v20 := Tryz.zeroValue20
  t22 := Tryz.underlying23
  a22 := Tryz.isAgg23
  z22 := Tryz.sizeOf23
  v22 := Tryz.zeroValue23 }
def Tryz.laySortNode_ren : Go.Shelf.Ren := ⟨fun | 6 => 83 | 15 => 120 | 14 => 119 | 28 => 153 | 29 => 154 | 20 => 145 | 21 => 146 | 22 => 147 | 23 => 148 | 24 => 149 | 25 => 150 | 26 => 151 | 27 => 152 | 46 => 165 | 47 => 166 | 48 => 167 | 49 => 168 | 50 => 169 | 57 => 175 | n => n, fun | 22 => 78 | 24 => 120 | 25 => 124 | 3 => 3 | 39 => 161 | 0 => 0 | 53 => 193 | 55 => 90 | 4 => 4 | 46 => 187 | 45 => 186 | 50 => 138 | 5 => 5 | 9 => 9 | 66 => 205 | 70 => 209 | 76 => 214 | 77 => 215 | n => n, fun | n => n⟩
theorem Tryz.laySortNode : Go.Proofs.SlLaysF0.n6 Tryz.prog Tryz.laySortNode_ren := {
  mixed := by kernel_rfl
  f6 := ⟨Tryz.f83.name, by decide, Tryz.func83.trans (congrArg some (by kernel_rfl))⟩
  f14 := ⟨Tryz.f119.name, by decide, Tryz.func119.trans (congrArg some (by kernel_rfl))⟩
  f15 := Tryz.func120.trans (congrArg some (by kernel_rfl))
  f20 := ⟨Tryz.f145.name, by decide, Tryz.func145.trans (congrArg some (by kernel_rfl))⟩
  f21 := ⟨Tryz.f146.name, by decide, Tryz.func146.trans (congrArg some (by kernel_rfl))⟩
  f22 := ⟨Tryz.f147.name, by decide, Tryz.func147.trans (congrArg some (by kernel_rfl))⟩
  f23 := ⟨Tryz.f148.name, by decide, Tryz.func148.trans (congrArg some (by kernel_rfl))⟩
  f24 := ⟨Tryz.f149.name, by decide, Tryz.func149.trans (congrArg some (by kernel_rfl))⟩
  f25 := ⟨Tryz.f150.name, by decide, Tryz.func150.trans (congrArg some (by kernel_rfl))⟩
  f26 := ⟨Tryz.f151.name, by decide, Tryz.func151.trans (congrArg some (by kernel_rfl))⟩
  f27 := ⟨Tryz.f152.name, by decide, Tryz.func152.trans (congrArg some (by kernel_rfl))⟩
  f28 := Tryz.func153.trans (congrArg some (by kernel_rfl))
  f29 := Tryz.func154.trans (congrArg some (by kernel_rfl))
  f46 := ⟨Tryz.f165.name, by decide, Tryz.func165.trans (congrArg some (by kernel_rfl))⟩
  f47 := Tryz.func166.trans (congrArg some (by kernel_rfl))
  f48 := Tryz.func167.trans (congrArg some (by kernel_rfl))
  f49 := ⟨Tryz.f168.name, by decide, Tryz.func168.trans (congrArg some (by kernel_rfl))⟩
  f50 := ⟨Tryz.f169.name, by decide, Tryz.func169.trans (congrArg some (by kernel_rfl))⟩
  f57 := ⟨Tryz.f175.name, by decide, Tryz.func175.trans (congrArg some (by kernel_rfl))⟩
  t0 := Tryz.underlying0
  a0 := Tryz.isAgg0
  z0 := Tryz.sizeOf0
  v0 := Tryz.zeroValue0
  t3 := Tryz.underlying3
  a3 := Tryz.isAgg3
  z3 := Tryz.sizeOf3
  v3 := Tryz.zeroValue3
  t4 := Tryz.underlying4
  a4 := Tryz.isAgg4
  z4 := Tryz.sizeOf4
  v4 := Tryz.zeroValue4
  t5 := Tryz.underlying5
  a5 := Tryz.isAgg5
  z5 := Tryz.sizeOf5
  v5 := Tryz.zeroValue5
  t9 := Tryz.underlying9
  a9 := Tryz.isAgg9
  z9 := Tryz.sizeOf9
  v9 := Tryz.zeroValue9
  t22 := Tryz.underlying78
  a22 := Tryz.isAgg78
  z22 := Tryz.sizeOf78
  v22 := Tryz.zeroValue78
  t25 := Tryz.underlying124
  a25 := Tryz.isAgg124
  z25 := Tryz.sizeOf124
  v25 := Tryz.zeroValue124
  t39 := Tryz.underlying161
  a39 := Tryz.isAgg161
  z39 := Tryz.sizeOf161
  v39 := Tryz.zeroValue161
  t45 := Tryz.underlying186
  a45 := Tryz.isAgg186
  z45 := Tryz.sizeOf186
  v45 := Tryz.zeroValue186
  t46 := Tryz.underlying187
  a46 := Tryz.isAgg187
  z46 := Tryz.sizeOf187
  v46 := Tryz.zeroValue187
  t50 := Tryz.underlying138
  a50 := Tryz.isAgg138
  z50 := Tryz.sizeOf138
  v50 := Tryz.zeroValue138
  t53 := Tryz.underlying193
  a53 := Tryz.isAgg193
  z53 := Tryz.sizeOf193
  v53 := Tryz.zeroValue193
  t55 := Tryz.underlying90
  a55 := Tryz.isAgg90
  z55 := Tryz.sizeOf90
  v55 := Tryz.zeroValue90
  t66 := Tryz.underlying205
  a66 := Tryz.isAgg205
  z66 := Tryz.sizeOf205
  v66 := Tryz.zeroValue205
  t70 := Tryz.underlying209
  a70 := Tryz.isAgg209
  z70 := Tryz.sizeOf209
  v70 := Tryz.zeroValue209
  t76 := Tryz.underlying214
  a76 := Tryz.isAgg214
  z76 := Tryz.sizeOf214
  v76 := Tryz.zeroValue214
  t77 := Tryz.underlying215
  a77 := Tryz.isAgg215
  z77 := Tryz.sizeOf215
  v77 := Tryz.zeroValue215 }
end Go.Proofs

namespace Go.Proofs.T
open Go Go.Ab Go.RowKit

/-! ## Joining -/

def flatF (ls : List (List Formal)) (k : Nat) : List Formal := (ls.take k).flatten
end Go.Proofs.T

