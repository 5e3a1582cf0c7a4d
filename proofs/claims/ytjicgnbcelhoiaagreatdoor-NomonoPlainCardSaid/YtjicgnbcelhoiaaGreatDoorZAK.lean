/- A part of the proof, under no conditions of its own: ZAK. -/
import Derived.Test.YtjicgnbcelhoiaaGreatDoorZAJ
import Derived.Test.YtjicgnbcelhoiaaGreatDoorZAI
import Derived.Shelf.Strconv.Itoa3
import Derived.Shelf.Spec.SlicesGrow
import Derived.Ground.NamesProg
import Derived.Ground.Names7Prog
import Derived.Shelf.SlSortCmp.NoneTotal
import Derived.Ground.SlsfProg
import Derived.Shelf.SlMaps.Clone
import Derived.Ground.SlmcProg
import Derived.Test.YtjicgnbcelhoiaaGreatDoorProg
import Derived.Lib.ItoaLen
namespace Go.Proofs.T
open Go Go.Ab Go.RowKit
theorem isNaN_calls (a : Str) (g d : Nat) : ACalls E 131 [encS a] [] g d (dB false) [] := by
 refine acalls_of_awp (fn := Tryz.f131) (N := 6) Tryz.call131 Tryz.func131 rfl rfl (by simp) ?_
 simp only [go_sem]
 refine awp_seq_k (fun K1 hK1 => ?_)
 refine awp_plain 1 (by kernel_rfl) rfl (fun g0 hg0 => ?_)
 simp only [go_sem]
 refine hK1 _ ?_
 refine awp_seq_k (fun K2 hK2 => ?_)
 refine awp_plain 4 (by kernel_rfl) rfl (fun g1 hg1 => ?_)
 simp only [go_sem, decide_true]
 refine hK2 _ ?_
 refine awp_ret ?_
 refine ends_ev rfl ?_
 simp only [go_sem]
 exact Co.refl _
theorem cmpCompare_calls (a b : Str) (g d : Nat) : ACalls E 100 [encS a, encS b] [] g d (dI (cmpS a b)) [] := by
 refine acalls_of_awp (fn := Tryz.f100) (N := 20) Tryz.call100 Tryz.func100 rfl rfl (by simp) ?_
 simp only [go_sem]
 refine awp_seq_k (fun K1 hK1 => ?_)
 refine awp_plain 1 (by kernel_rfl) rfl (fun g0 hg0 => ?_)
 simp only [go_sem]
 refine hK1 _ ?_
 refine awp_seq_k (fun K2 hK2 => ?_)
 refine awp_ops (by kernel_rfl) rfl (fun g1 hg1 ops1 KR1 hops1 hKR1 => ?_)
 refine aops_eval 1 hops1 ?_
 simp only [go_sem]
 refine aops_pure hops1 rfl rfl rfl (isNaN_calls _ _ _) (CoL.refl _) ?_
 refine aops_last 1 hops1 ?_
 simp only [go_sem]
 refine hKR1 _ ?_
 refine hK2 _ ?_
 refine awp_seq_k (fun K3 hK3 => ?_)
 refine awp_ops (by kernel_rfl) rfl (fun g2 hg2 ops2 KR2 hops2 hKR2 => ?_)
 refine aops_eval 1 hops2 ?_
 simp only [go_sem]
 refine aops_pure hops2 rfl rfl rfl (isNaN_calls _ _ _) (CoL.refl _) ?_
 refine aops_last 1 hops2 ?_
 simp only [go_sem]
 refine hKR2 _ ?_
 refine hK3 _ ?_
 refine awp_seq_k (fun K4 hK4 => ?_)
 refine awp_seq_k (fun K5 hK5 => ?_)
 refine awp_plain 1 (by kernel_rfl) rfl (fun g3 hg3 => ?_)
 simp only [go_sem]
 refine hK5 _ ?_
 refine awp_f rfl ?_
 refine awp_skip ?_
 refine hK4 _ ?_
 refine awp_seq_k (fun K6 hK6 => ?_)
 refine awp_seq_k (fun K7 hK7 => ?_)
 refine awp_plain 1 (by kernel_rfl) rfl (fun g7 hg7 => ?_)
 simp only [go_sem]
 refine hK7 _ ?_
 refine awp_f rfl ?_
 refine awp_skip ?_
 refine hK6 _ ?_
 refine awp_seq_k (fun K8 hK8 => ?_)
 refine awp_seq_k (fun K9 hK9 => ?_)
 by_cases h : cmpS a b = -1
 ·refine awp_plain 3 (by kernel_rfl) rfl (fun g9 hg9 => ?_)
  simp only [go_sem, cmpS_less, h]
  refine hK9 _ ?_
  refine awp_t rfl ?_
  refine awp_seq_k (fun K10 hK10 => ?_)
  refine awp_plain 1 (by kernel_rfl) rfl (fun g10 hg10 => ?_)
  simp only [go_sem]
  refine hK10 _ ?_
  refine awp_ret ?_
  rw [h]
  refine ends_ev rfl ?_
  simp only [go_sem]
  exact Co.refl _
 ·refine awp_plain 3 (by kernel_rfl) rfl (fun g9 hg9 => ?_)
  simp only [go_sem, cmpS_less, h]
  refine hK9 _ ?_
  refine awp_f rfl ?_
  refine awp_skip ?_
  refine hK8 _ ?_
  refine awp_seq_k (fun K11 hK11 => ?_)
  refine awp_seq_k (fun K12 hK12 => ?_)
  by_cases h2 : a = b
  ·have h3 : cmpS a b = 0 := cmpS_zero.2 h2
   subst h2
   refine awp_plain 3 (by kernel_rfl) rfl (fun g11 hg11 => ?_)
   simp only [go_sem, cmpS_less, h]
   refine hK12 _ ?_
   refine awp_f rfl ?_
   refine awp_skip ?_
   refine hK11 _ ?_
   refine awp_seq_k (fun K13 hK13 => ?_)
   refine awp_plain 1 (by kernel_rfl) rfl (fun g13 hg13 => ?_)
   simp only [go_sem]
   refine hK13 _ ?_
   refine awp_ret ?_
   rw [h3]
   refine ends_ev rfl ?_
   simp only [go_sem]
   exact Co.refl _
  ·have h3 : cmpS a b = 1 := by
    rcases cmpL_range a.data.toList b.data.toList with h4 | h4 | h4
    ·exact absurd h4 h
    ·exact absurd (cmpS_zero.1 h4) h2
    ·exact h4
   refine awp_plain 3 (by kernel_rfl) rfl (fun g11 hg11 => ?_)
   simp only [go_sem, cmpS_less, h, h2]
   refine hK12 _ ?_
   refine awp_t rfl ?_
   refine awp_seq_k (fun K14 hK14 => ?_)
   refine awp_plain 1 (by kernel_rfl) rfl (fun g12 hg12 => ?_)
   simp only [go_sem]
   refine hK14 _ ?_
   refine awp_ret ?_
   rw [h3]
   refine ends_ev rfl ?_
   simp only [go_sem]
   exact Co.refl _
theorem nameCompare_calls (a b : Str) (g d : Nat) : ACalls E 60 [encS a, encS b] [] g d (dI (cmpS a b)) [] := by
 refine acalls_of_awp (fn := Tryz.f60) (N := 8) Tryz.call60 Tryz.func60 rfl rfl (by simp) ?_
 simp only [go_sem]
 refine awp_seq_k (fun K1 hK1 => ?_)
 refine awp_plain 1 (by kernel_rfl) rfl (fun g0 hg0 => ?_)
 simp only [go_sem]
 refine hK1 _ ?_
 refine awp_seq_k (fun K2 hK2 => ?_)
 refine awp_ops (by kernel_rfl) rfl (fun g1 hg1 ops1 KR1 hops1 hKR1 => ?_)
 refine aops_eval 2 hops1 ?_
 simp only [go_sem]
 refine aops_pure hops1 rfl rfl rfl (cmpCompare_calls _ _ _ _) (CoL.refl _) ?_
 refine aops_last 1 hops1 ?_
 simp only [go_sem]
 refine hKR1 _ ?_
 refine hK2 _ ?_
 refine awp_ret ?_
 refine ends_ev rfl ?_
 simp only [go_sem]
 exact Co.refl _
mutual
def cmpTy : Ty → Ty → Int
 | .mk a x _, .mk b y _ => if cmpS a b = 0 then cmpTys x y else cmpS a b
def cmpTys : List Ty → List Ty → Int
 | [], [] => 0
 | [], _ :: _ => -1
 | _ :: _, [] => 1
 | t :: x, u :: y => if cmpTy t u = 0 then cmpTys x y else cmpTy t u
end
theorem cmpTy_eq (t u : Ty) : cmpTy t u = if cmpS t.name u.name = 0 then cmpTys t.args u.args else cmpS t.name u.name := by cases t; cases u; rw [cmpTy]; rfl
theorem ref04Compare_calls : ∀ t : Ty, okTy t → ∀ (u : Ty) (g d : Nat), ACalls E 133 [encTy t, encTy u] [] g d (dI (cmpTy t u)) [] := by
 refine Ty.ind fun t ih => ?_
 intro ht u g d
 obtain ⟨hs1, hs2, hs3⟩ := (okTy_iff t).1 ht
 rw [cmpTy_eq]
 refine acalls_of_awp (fn := Tryz.f133) (N := 59) Tryz.call133 Tryz.func133 rfl rfl (by simp) ?_
 simp only [go_sem]
 refine awp_seq_k (fun K1 hK1 => ?_)
 refine awp_plain 3 (by kernel_rfl) rfl (fun g0 hg0 => ?_)
 simp only [go_sem]
 refine hK1 _ ?_
 refine awp_seq_k (fun K2 hK2 => ?_)
 refine awp_seq_k (fun K3 hK3 => ?_)
 by_cases hn : t.name = u.name
 ·have hcs := cmpS_zero.2 hn
  refine awp_plain 5 (by kernel_rfl) rfl (fun g1 hg1 => ?_)
  simp only [go_sem, hn]
  refine hK3 _ ?_
  refine awp_f rfl ?_
  refine awp_skip ?_
  refine hK2 _ ?_
  refine awp_seq_k (fun K4 hK4 => ?_)
  refine awp_seq_k (fun K5 hK5 => ?_)
  refine awp_plain 1 (by kernel_rfl) rfl (fun g3 hg3 => ?_)
  simp only [go_sem]
  refine hK5 _ ?_
  refine awp_block ?_
  refine awp_loop (fun m s => ∃ k, k ≤ t.args.length ∧ k ≤ u.args.length ∧ m = t.args.length - k ∧ cmpTys (t.args.drop k) (u.args.drop k) = cmpTys t.args u.args ∧
   Le { env := [(2, .ptr ⟨g0, 2, 0⟩ 0), (3, .ptr ⟨g0, 3, 0⟩ 0), (5, dN k)], σ := [(⟨g0, 2, 0⟩, .box 25 (tyC t)), (⟨g0, 3, 0⟩, .box 25 (tyC u))] } s) t.args.length ?_ ?_
  ·refine ⟨0, Nat.zero_le _, Nat.zero_le _, rfl, rfl, le_of ?_⟩
   simp only [go_sem, tyC, hn]
   trivial
  ·rintro m s ⟨k, hka, hkb, rfl, hc, hle⟩
   refine awp_keep hle ?_
   clear hle
   by_cases ha : k < t.args.length
   ·by_cases hb : k < u.args.length
    ·rw [List.drop_eq_getElem_cons ha, List.drop_eq_getElem_cons hb] at hc
     simp only [cmpTys] at hc
     refine awp_seq_k (fun K6 hK6 => ?_)
     refine awp_seq_k (fun K7 hK7 => ?_)
     refine awp_plain 12 (by kernel_rfl) rfl (fun g4 hg4 => ?_)
     simp only [go_sem, tyC, ha, hb]
     refine hK7 _ ?_
     refine awp_t rfl ?_
     refine awp_skip ?_
     refine hK6 _ ?_
     refine awp_seq_k (fun K8 hK8 => ?_)
     refine awp_block ?_
     refine awp_seq_k (fun K9 hK9 => ?_)
     refine awp_any 11 (by kernel_rfl) (by kernel_rfl) rfl (fun g6 hg6 ops6 KR6 hops6 hKR6 => ?_)
     refine qrun_eval 10 hops6 ?_
     simp only [go_sem, getM ha, getM hb]
     refine qrun_pure hops6 rfl rfl rfl (ih _ (List.getElem_mem ha) (hs3 _ (List.getElem_mem ha)) _ _ _) (CoL.refl _) rfl ?_
     refine qrun_last 0 hops6 ?_
     simp only [go_sem]
     refine aops_last 1 hops6 ?_
     simp only [go_sem]
     refine hKR6 _ ?_
     refine hK9 _ ?_
     refine awp_seq_k (fun K10 hK10 => ?_)
     by_cases h0 : cmpTy t.args[k] u.args[k] = 0
     ·rw [if_pos h0] at hc
      refine awp_plain 2 (by kernel_rfl) rfl (fun g7 hg7 => ?_)
      simp only [go_sem, h0]
      refine hK10 _ ?_
      refine awp_f rfl ?_
      refine awp_skip ?_
      refine hK8 _ ?_
      refine awp_plain 3 (by kernel_rfl) rfl (fun g5 hg5 => ?_)
      simp only [go_sem]
      try simp (disch := omega) only [wrapN]
      refine ⟨_, ?_, k + 1, ha, hb, rfl, hc, le_of ?_⟩
      ·omega
      simp only [go_sem, tyC]
      omega
     ·rw [if_neg h0] at hc
      refine awp_plain 2 (by kernel_rfl) rfl (fun g7 hg7 => ?_)
      simp only [go_sem, h0]
      refine hK10 _ ?_
      refine awp_t rfl ?_
      refine awp_seq_k (fun K11 hK11 => ?_)
      refine awp_plain 2 (by kernel_rfl) rfl (fun g8 hg8 => ?_)
      simp only [go_sem]
      refine hK11 _ ?_
      refine awp_ret ?_
      rw [if_pos hcs, ← hc]
      refine ends_ev rfl ?_
      simp only [go_sem]
      exact Co.refl _
    ·rw [List.drop_eq_getElem_cons ha, dropN u.args k (by omega)] at hc
     simp only [cmpTys] at hc
     have h3 : ¬ t.args.length < u.args.length := by omega
     have h4 : u.args.length < t.args.length := by omega
     refine awp_seq_k (fun K12 hK12 => ?_)
     refine awp_seq_k (fun K13 hK13 => ?_)
     refine awp_plain 12 (by kernel_rfl) rfl (fun g4 hg4 => ?_)
     simp only [go_sem, tyC, ha, hb]
     refine hK13 _ ?_
     refine awp_f rfl ?_
     refine awp_exit ?_
     refine hK4 _ ?_
     refine awp_seq_k (fun K14 hK14 => ?_)
     refine awp_seq_k (fun K15 hK15 => ?_)
     refine awp_plain 7 (by kernel_rfl) rfl (fun g9 hg9 => ?_)
     simp only [go_sem, h3]
     refine hK15 _ ?_
     refine awp_f rfl ?_
     refine awp_skip ?_
     refine hK14 _ ?_
     refine awp_seq_k (fun K16 hK16 => ?_)
     refine awp_seq_k (fun K17 hK17 => ?_)
     refine awp_plain 7 (by kernel_rfl) rfl (fun g11 hg11 => ?_)
     simp only [go_sem, h4]
     refine hK17 _ ?_
     refine awp_t rfl ?_
     refine awp_seq_k (fun K18 hK18 => ?_)
     refine awp_plain 1 (by kernel_rfl) rfl (fun g12 hg12 => ?_)
     simp only [go_sem]
     refine hK18 _ ?_
     refine awp_ret ?_
     rw [if_pos hcs, ← hc]
     refine ends_ev rfl ?_
     simp only [go_sem]
     exact Co.refl _
   ·have : k = t.args.length := by omega
    subst this
    rw [List.drop_eq_nil_of_le (Nat.le_refl _)] at hc
    refine awp_seq_k (fun K19 hK19 => ?_)
    refine awp_seq_k (fun K20 hK20 => ?_)
    refine awp_plain 12 (by kernel_rfl) rfl (fun g4 hg4 => ?_)
    simp only [go_sem, tyC, ha]
    refine hK20 _ ?_
    refine awp_f rfl ?_
    refine awp_exit ?_
    refine hK4 _ ?_
    refine awp_seq_k (fun K21 hK21 => ?_)
    refine awp_seq_k (fun K22 hK22 => ?_)
    by_cases hb : t.args.length < u.args.length
    ·rw [List.drop_eq_getElem_cons hb] at hc
     simp only [cmpTys] at hc
     refine awp_plain 7 (by kernel_rfl) rfl (fun g9 hg9 => ?_)
     simp only [go_sem, hb]
     refine hK22 _ ?_
     refine awp_t rfl ?_
     refine awp_seq_k (fun K23 hK23 => ?_)
     refine awp_plain 1 (by kernel_rfl) rfl (fun g10 hg10 => ?_)
     simp only [go_sem]
     refine hK23 _ ?_
     refine awp_ret ?_
     rw [if_pos hcs, ← hc]
     refine ends_ev rfl ?_
     simp only [go_sem]
     exact Co.refl _
    ·rw [List.drop_eq_nil_of_le (by omega)] at hc
     simp only [cmpTys] at hc
     have h4 : ¬ u.args.length < t.args.length := by omega
     refine awp_plain 7 (by kernel_rfl) rfl (fun g9 hg9 => ?_)
     simp only [go_sem, hb]
     refine hK22 _ ?_
     refine awp_f rfl ?_
     refine awp_skip ?_
     refine hK21 _ ?_
     refine awp_seq_k (fun K24 hK24 => ?_)
     refine awp_seq_k (fun K25 hK25 => ?_)
     refine awp_plain 7 (by kernel_rfl) rfl (fun g11 hg11 => ?_)
     simp only [go_sem, h4]
     refine hK25 _ ?_
     refine awp_f rfl ?_
     refine awp_skip ?_
     refine hK24 _ ?_
     refine awp_seq_k (fun K26 hK26 => ?_)
     refine awp_plain 1 (by kernel_rfl) rfl (fun g13 hg13 => ?_)
     simp only [go_sem]
     refine hK26 _ ?_
     refine awp_ret ?_
     rw [if_pos hcs, ← hc]
     refine ends_ev rfl ?_
     simp only [go_sem]
     exact Co.refl _
 ·refine awp_plain 5 (by kernel_rfl) rfl (fun g1 hg1 => ?_)
  simp only [go_sem, hn]
  refine hK3 _ ?_
  refine awp_t rfl ?_
  refine awp_seq_k (fun K27 hK27 => ?_)
  refine awp_ops (by kernel_rfl) rfl (fun g2 hg2 ops2 KR2 hops2 hKR2 => ?_)
  refine aops_eval 4 hops2 ?_
  simp only [go_sem]
  refine aops_pure hops2 rfl rfl rfl (compareS_calls _ _ hs1 _ _) (CoL.refl _) ?_
  refine aops_last 1 hops2 ?_
  simp only [go_sem]
  refine hKR2 _ ?_
  refine hK27 _ ?_
  refine awp_ret ?_
  rw [if_neg (fun h => hn (cmpS_zero.1 h))]
  refine ends_ev rfl ?_
  simp only [go_sem]
  exact Co.refl _
theorem ref04Same_calls (t u : Ty) (ht : okTy t) (g d : Nat) : ACalls E 110 [encTy t, encTy u] [] g d (dB (decide (cmpTy t u = 0))) [] := by
 refine acalls_of_awp (fn := Tryz.f110) (N := 9) Tryz.call110 Tryz.func110 rfl rfl (by simp) ?_
 simp only [go_sem]
 refine awp_seq_k (fun K1 hK1 => ?_)
 refine awp_plain 3 (by kernel_rfl) rfl (fun g0 hg0 => ?_)
 simp only [go_sem]
 refine hK1 _ ?_
 refine awp_seq_k (fun K2 hK2 => ?_)
 refine awp_ops (by kernel_rfl) rfl (fun g1 hg1 ops1 KR1 hops1 hKR1 => ?_)
 refine aops_eval 2 hops1 ?_
 simp only [go_sem]
 refine aops_pure hops1 rfl rfl rfl (ref04Compare_calls _ ht _ _ _) (CoL.refl _) ?_
 refine aops_last 2 hops1 ?_
 simp only [go_sem]
 refine hKR1 _ ?_
 refine hK2 _ ?_
 refine awp_ret ?_
 refine ends_ev rfl ?_
 simp only [go_sem]
 exact Co.refl _
mutual
def eqTy : Ty → Ty → Bool
 | .mk a x p, .mk b y q => decide (a = b) && (decide (p = q) && eqTys x y)
def eqTys : List Ty → List Ty → Bool
 | [], [] => true
 | [], _ :: _ => false
 | _ :: _, [] => false
 | t :: x, u :: y => eqTy t u && eqTys x y
end
theorem eqTy_eq (t u : Ty) : eqTy t u = (decide (t.name = u.name) && (decide (t.pos = u.pos) && eqTys t.args u.args)) := by cases t; cases u; rw [eqTy]; rfl
mutual
theorem eqTy_iff : ∀ (t u : Ty), eqTy t u = true ↔ t = u
 | .mk a x p, .mk b y q => by
  simp only [eqTy, eqTys_iff x y, Bool.and_eq_true, decide_eq_true_eq, Ty.mk.injEq]
  constructor
  ·rintro ⟨rfl, rfl, rfl⟩; exact ⟨rfl, rfl, rfl⟩
  ·rintro ⟨rfl, rfl, rfl⟩; exact ⟨rfl, rfl, rfl⟩
theorem eqTys_iff : ∀ (x y : List Ty), eqTys x y = true ↔ x = y
 | [], [] => by simp [eqTys]
 | [], _ :: _ => by simp [eqTys]
 | _ :: _, [] => by simp [eqTys]
 | t :: x, u :: y => by simp [eqTys, eqTy_iff t u, eqTys_iff x y]
end
theorem eqTys_length {x y : List Ty} (h : x.length ≠ y.length) : eqTys x y = false := by
 cases he : eqTys x y with
 | false => rfl
 | true => exact absurd (congrArg List.length ((eqTys_iff x y).1 he)) h
theorem ref04Equal_calls : ∀ t : Ty, okTy t → ∀ (u : Ty) (g d : Nat), ACalls E 111 [encTy t, encTy u] [] g d (dB (eqTy t u)) [] := by
 refine Ty.ind fun t ih => ?_
 intro ht u g d
 obtain ⟨hs1, hs2, hs3⟩ := (okTy_iff t).1 ht
 rw [eqTy_eq]
 refine acalls_of_awp (fn := Tryz.f111) (N := 46) Tryz.call111 Tryz.func111 rfl rfl (by simp) ?_
 simp only [go_sem]
 refine awp_seq_k (fun K1 hK1 => ?_)
 refine awp_plain 3 (by kernel_rfl) rfl (fun g0 hg0 => ?_)
 simp only [go_sem]
 refine hK1 _ ?_
 refine awp_seq_k (fun K2 hK2 => ?_)
 refine awp_seq_k (fun K3 hK3 => ?_)
 by_cases hn : t.name = u.name
 ·by_cases hp : t.pos = u.pos
  ·by_cases hl : t.args.length = u.args.length
   ·have hl' : (t.args.length : Int) = u.args.length := by omega
    refine awp_plain 21 (by kernel_rfl) rfl (fun g1 hg1 => ?_)
    simp only [go_sem, hn, hp, hl']
    refine hK3 _ ?_
    refine awp_f rfl ?_
    refine awp_skip ?_
    refine hK2 _ ?_
    refine awp_seq_k (fun K4 hK4 => ?_)
    refine awp_seq_k (fun K5 hK5 => ?_)
    refine awp_plain 1 (by kernel_rfl) rfl (fun g3 hg3 => ?_)
    simp only [go_sem]
    refine hK5 _ ?_
    refine awp_block ?_
    refine awp_loop (fun m s => ∃ k, k ≤ t.args.length ∧ m = t.args.length - k ∧ eqTys (t.args.drop k) (u.args.drop k) = eqTys t.args u.args ∧
     Le { env := [(2, .ptr ⟨g0, 2, 0⟩ 0), (3, .ptr ⟨g0, 3, 0⟩ 0), (5, dN k)], σ := [(⟨g0, 2, 0⟩, .box 25 (tyC t)), (⟨g0, 3, 0⟩, .box 25 (tyC u))] } s) t.args.length ?_ ?_
    ·refine ⟨0, Nat.zero_le _, rfl, rfl, le_of ?_⟩
     simp only [go_sem, tyC, hn, hp]
     trivial
    ·rintro m s ⟨k, hka, rfl, hc, hle⟩
     refine awp_keep hle ?_
     clear hle
     by_cases ha : k < t.args.length
     ·have hb : k < u.args.length := by omega
      rw [List.drop_eq_getElem_cons ha, List.drop_eq_getElem_cons hb] at hc
      simp only [eqTys] at hc
      refine awp_seq_k (fun K6 hK6 => ?_)
      refine awp_seq_k (fun K7 hK7 => ?_)
      refine awp_plain 5 (by kernel_rfl) rfl (fun g4 hg4 => ?_)
      simp only [go_sem, tyC, ha]
      refine hK7 _ ?_
      refine awp_t rfl ?_
      refine awp_skip ?_
      refine hK6 _ ?_
      refine awp_seq_k (fun K8 hK8 => ?_)
      refine awp_block ?_
      refine awp_seq_k (fun K9 hK9 => ?_)
      cases he : eqTy t.args[k] u.args[k] with
      | true =>
       rw [he, Bool.true_and] at hc
       refine awp_anyq (by kernel_rfl) rfl (fun g6 hg6 ops6 KR6 hops6 hKR6 => ?_)
       refine qrun_eval 10 hops6 ?_
       simp only [go_sem, getM ha, getM hb]
       refine qrun_pure hops6 rfl rfl rfl (he ▸ ih _ (List.getElem_mem ha) (hs3 _ (List.getElem_mem ha)) _ _ _) (CoL.refl _) rfl ?_
       refine qrun_last 1 hops6 ?_
       simp only [go_sem]
       refine hKR6 _ ?_
       refine hK9 _ ?_
       refine awp_f rfl ?_
       refine awp_skip ?_
       refine hK8 _ ?_
       refine awp_plain 3 (by kernel_rfl) rfl (fun g5 hg5 => ?_)
       simp only [go_sem]
       try simp (disch := omega) only [wrapN]
       refine ⟨_, ?_, k + 1, ha, rfl, hc, le_of ?_⟩
       ·omega
       simp only [go_sem, tyC]
       omega
      | false =>
       rw [he, Bool.false_and] at hc
       refine awp_anyq (by kernel_rfl) rfl (fun g6 hg6 ops6 KR6 hops6 hKR6 => ?_)
       refine qrun_eval 10 hops6 ?_
       simp only [go_sem, getM ha, getM hb]
       refine qrun_pure hops6 rfl rfl rfl (he ▸ ih _ (List.getElem_mem ha) (hs3 _ (List.getElem_mem ha)) _ _ _) (CoL.refl _) rfl ?_
       refine qrun_last 1 hops6 ?_
       simp only [go_sem]
       refine hKR6 _ ?_
       refine hK9 _ ?_
       refine awp_t rfl ?_
       refine awp_seq_k (fun K10 hK10 => ?_)
       refine awp_plain 1 (by kernel_rfl) rfl (fun g7 hg7 => ?_)
       simp only [go_sem]
       refine hK10 _ ?_
       refine awp_ret ?_
       simp only [hn, hp, ← hc, decide_true, Bool.and_false]
       refine ends_ev rfl ?_
       simp only [go_sem]
       exact Co.refl _
     ·rw [List.drop_eq_nil_of_le (by omega), List.drop_eq_nil_of_le (by omega)] at hc
      simp only [eqTys] at hc
      refine awp_seq_k (fun K11 hK11 => ?_)
      refine awp_seq_k (fun K12 hK12 => ?_)
      refine awp_plain 5 (by kernel_rfl) rfl (fun g4 hg4 => ?_)
      simp only [go_sem, tyC, ha]
      refine hK12 _ ?_
      refine awp_f rfl ?_
      refine awp_exit ?_
      refine hK4 _ ?_
      refine awp_seq_k (fun K13 hK13 => ?_)
      refine awp_plain 1 (by kernel_rfl) rfl (fun g8 hg8 => ?_)
      simp only [go_sem]
      refine hK13 _ ?_
      refine awp_ret ?_
      simp only [hn, hp, ← hc, decide_true, Bool.and_true]
      refine ends_ev rfl ?_
      simp only [go_sem]
      exact Co.refl _
   ·have hl' : ¬ ((t.args.length : Int) = u.args.length) := by omega
    refine awp_plain 21 (by kernel_rfl) rfl (fun g1 hg1 => ?_)
    simp only [go_sem, hn, hp, hl']
    refine hK3 _ ?_
    refine awp_t rfl ?_
    refine awp_seq_k (fun K14 hK14 => ?_)
    refine awp_plain 1 (by kernel_rfl) rfl (fun g2 hg2 => ?_)
    simp only [go_sem]
    refine hK14 _ ?_
    refine awp_ret ?_
    simp only [eqTys_length hl, Bool.and_false]
    refine ends_ev rfl ?_
    simp only [go_sem]
    exact Co.refl _
  ·refine awp_plain 21 (by kernel_rfl) rfl (fun g1 hg1 => ?_)
   simp only [go_sem, hn, hp]
   refine hK3 _ ?_
   refine awp_t rfl ?_
   refine awp_seq_k (fun K15 hK15 => ?_)
   refine awp_plain 1 (by kernel_rfl) rfl (fun g2 hg2 => ?_)
   simp only [go_sem]
   refine hK15 _ ?_
   refine awp_ret ?_
   simp only [hp, decide_false, Bool.and_false, Bool.false_and]
   refine ends_ev rfl ?_
   simp only [go_sem]
   exact Co.refl _
 ·refine awp_plain 21 (by kernel_rfl) rfl (fun g1 hg1 => ?_)
  simp only [go_sem, hn]
  refine hK3 _ ?_
  refine awp_t rfl ?_
  refine awp_seq_k (fun K16 hK16 => ?_)
  refine awp_plain 1 (by kernel_rfl) rfl (fun g2 hg2 => ?_)
  simp only [go_sem]
  refine hK16 _ ?_
  refine awp_ret ?_
  simp only [hn, decide_false, Bool.false_and]
  refine ends_ev rfl ?_
  simp only [go_sem]
  exact Co.refl _
end Go.Proofs.T
namespace Go.Proofs.T
open Go Go.Ab Go.RowKit
theorem refNames_calls (l : List Formal) (hl : l.length ≤ 1000000) (g d : Nat) : ACalls E 62 [slFm l] [] g d (slS (l.map (·.name))) [] := by
 refine acalls_of_awp (fn := Tryz.f62) (N := 20) Tryz.call62 Tryz.func62 rfl rfl (by simp) ?_
 simp only [go_sem]
 refine awp_seq_k (fun K1 hK1 => ?_)
 refine awp_plain 1 (by kernel_rfl) rfl (fun g0 hg0 => ?_)
 simp only [go_sem]
 refine hK1 _ ?_
 refine awp_seq_k (fun K2 hK2 => ?_)
 refine awp_plain 1 (by kernel_rfl) rfl (fun g1 hg1 => ?_)
 simp only [go_sem]
 refine hK2 _ ?_
 refine awp_seq_k (fun K3 hK3 => ?_)
 refine awp_seq_k (fun K4 hK4 => ?_)
 refine awp_plain 1 (by kernel_rfl) rfl (fun g2 hg2 => ?_)
 simp only [go_sem]
 refine hK4 _ ?_
 refine awp_block ?_
 refine awp_nil 3 9 1 rfl fun gn hgn => ?_
 refine awp_loop (fun m s => ∃ k a i, k ≤ l.length ∧ m = l.length - k ∧
   Le { env := [(0, slFm l), (4, dN k), (3, .own ⟨a, i, 0⟩ k)], σ := [(⟨a, i, 0⟩, .arr 9 1 ((l.take k).map fun f => encS f.name))] } s) l.length ?_ ?_
 ·refine ⟨0, gn, 0, Nat.zero_le _, rfl, le_of ?_⟩
  simp only [go_sem]
  trivial
 ·rintro m s ⟨k, a, i, hk, rfl, hle⟩
  refine awp_keep hle ?_
  clear hle
  by_cases h : k < l.length
  ·refine awp_seq_k (fun K5 hK5 => ?_)
   refine awp_seq_k (fun K6 hK6 => ?_)
   refine awp_plain 4 (by kernel_rfl) rfl (fun g3 hg3 => ?_)
   simp only [go_sem, h]
   refine hK6 _ ?_
   refine awp_t rfl ?_
   refine awp_skip ?_
   refine hK5 _ ?_
   refine awp_seq_k (fun K7 hK7 => ?_)
   refine awp_block ?_
   refine awp_ops (by kernel_rfl) rfl (fun g5 hg5 ops5 KR5 hops5 hKR5 => ?_)
   refine aops_eval 7 hops5 ?_
   simp only [go_sem, getM h]
   refine aops_app hops5 rfl rfl rfl rfl rfl es67 sz9 by9 ze9 rfl (by decide) ?_
   simp only [go_sem, List.length_take_of_le (Nat.le_of_lt h)]
   first | refine ⟨⟨by omega, by omega⟩, ?_⟩ | skip
   refine aops_last 1 hops5 ?_
   simp only [go_sem]
   refine hKR5 _ ?_
   refine hK7 _ ?_
   refine awp_plain 3 (by kernel_rfl) rfl (fun g4 hg4 => ?_)
   simp only [go_sem]
   try simp (disch := omega) only [wrapN]
   refine ⟨_, ?_, k + 1, g5, 18, h, rfl, le_of ?_⟩
   ·omega
   simp only [go_sem, ← takeM _ h]
   omega
  ·refine awp_seq_k (fun K8 hK8 => ?_)
   refine awp_seq_k (fun K9 hK9 => ?_)
   refine awp_plain 4 (by kernel_rfl) rfl (fun g3 hg3 => ?_)
   simp only [go_sem, h]
   refine hK9 _ ?_
   refine awp_f rfl ?_
   refine awp_exit ?_
   refine hK3 _ ?_
   refine awp_seq_k (fun K10 hK10 => ?_)
   refine awp_plain 2 (by kernel_rfl) rfl (fun g6 hg6 => ?_)
   simp only [go_sem]
   refine hK10 _ ?_
   refine awp_ret ?_
   have : k = l.length := by omega
   subst this
   refine ret_frz ⟨a, i, 0⟩ ?_
   simp only [go_sem]
   refine ends_ev rfl ?_
   simp only [go_sem]
   exact Co.of_eq (by simp [Function.comp_def, encS])
end Go.Proofs.T
namespace Go.Proofs.T
open Go Go.Ab Go.RowKit
/- All lengths are small. -/
mutual
def smTy : Ty → Prop
 | .mk n a _ => n.size ≤ 1000000 ∧ a.length ≤ 1000000 ∧ smTys a
def smTys : List Ty → Prop
 | [] => True
 | t :: r => smTy t ∧ smTys r
end
theorem smTys_iff : ∀ l, smTys l ↔ ∀ t ∈ l, smTy t
 | [] => by simp [smTys]
 | t :: r => by simp [smTys, smTys_iff r]
theorem smTy_iff (t : Ty) : smTy t ↔ t.name.size ≤ 1000000 ∧ t.args.length ≤ 1000000 ∧ ∀ x ∈ t.args, smTy x := by
 cases t
 simp [smTy, smTys_iff]
theorem smTy.ok (t : Ty) : smTy t → okTy t := by
 revert t
 refine Ty.ind fun t ih h => ?_
 obtain ⟨h1, h2, h3⟩ := (smTy_iff t).1 h
 exact (okTy_iff t).2 ⟨by omega, by omega, fun x hx => ih x hx (h3 x hx)⟩
def isS (n : Str) (x : Str) : Bool := decide (x = n)
def look (ns : List Str) (us : List Ty) (n : Str) : Option Ty := (ns.findIdx? (isS n)).bind fun i => us[i]?
mutual
def substTy (ns : List Str) (us : List Ty) : Ty → Ty
 | .mk n xs p => match xs.isEmpty, look ns us n with
  | true, some t => .mk t.name t.args p
  | _, _ => .mk n (substTys ns us xs) p
def substTys (ns : List Str) (us : List Ty) : List Ty → List Ty
 | [] => []
 | t :: r => substTy ns us t :: substTys ns us r
end
def optI : Option Nat → Int
 | some k => k
 | none => -1
def optD (o : Option Nat) : D := dI (optI o)
end Go.Proofs.T
namespace Go.Proofs.T
open Go Go.Ab Go.RowKit
theorem cmpL_anti : ∀ x y : List UInt8, cmpL x y = - cmpL y x
 | [], [] => by simp [cmpL]
 | [], _ :: _ => by simp [cmpL]
 | _ :: _, [] => by simp [cmpL]
 | a :: x, b :: y => by
  simp only [cmpL]
  by_cases h1 : a < b
  ·have : ¬ b < a := fun h => absurd (UInt8.lt_trans h1 h) (UInt8.lt_irrefl _)
   simp [h1, this]
  ·by_cases h2 : b < a
   ·simp [h1, h2]
   ·simp [h1, h2, cmpL_anti x y]
theorem cmpL_trans : ∀ x y z : List UInt8, cmpL x y < 0 → cmpL y z < 0 → cmpL x z < 0
 | [], [], _, h, _ => by simp [cmpL] at h
 | [], _ :: _, [], _, h => by simp [cmpL] at h
 | [], _ :: _, _ :: _, _, _ => by simp [cmpL]
 | _ :: _, [], _, h, _ => by simp [cmpL] at h
 | _ :: _, _ :: _, [], _, h => by simp [cmpL] at h
 | a :: x, b :: y, c :: z, h1, h2 => by
  simp only [cmpL] at h1 h2 ⊢
  by_cases hab : a < b
  ·by_cases hbc : b < c
   ·have := UInt8.lt_trans hab hbc
    simp [this]
   ·by_cases hcb : c < b
    ·simp [hbc, hcb] at h2
    ·have hbc' : b = c := UInt8.le_antisymm (UInt8.not_lt.1 hcb) (UInt8.not_lt.1 hbc)
     subst hbc'
     simp [hab]
  ·by_cases hba : b < a
   ·simp [hab, hba] at h1
   ·have hab' : a = b := UInt8.le_antisymm (UInt8.not_lt.1 hba) (UInt8.not_lt.1 hab)
    subst hab'
    by_cases hbc : a < c
    ·simp [hbc]
    ·by_cases hcb : c < a
     ·simp [hbc, hcb] at h2
     ·simp only [hbc, hcb, UInt8.lt_irrefl, if_false] at h1 h2 ⊢
      exact cmpL_trans x y z h1 h2
theorem cmpS_anti (a b : Str) : cmpS a b = - cmpS b a := cmpL_anti _ _
theorem cmpS_trans {a b c : Str} (h1 : cmpS a b < 0) (h2 : cmpS b c < 0) : cmpS a c < 0 := cmpL_trans _ _ _ h1 h2
theorem subT_of {l σ : Sto} (h : leS l σ) : ∀ n o, Ab.get l n = some o → Ab.get σ n = some o := fun n o hn => leS_spec h (n, o) (mem_of_get hn)
structure Good {β : Type} (cf : β → β → Int) : Prop where
 anti : ∀ x y, cf x y < 0 ↔ 0 < cf y x
 trans : ∀ x y z, cf x y ≤ 0 → cf y z ≤ 0 → cf x z ≤ 0
theorem Good.zero {β : Type} {cf : β → β → Int} (h : Good cf) (x : β) : cf x x = 0 := by
 have := h.anti x x
 omega
theorem Good.swo {β : Type} {cf : β → β → Int} (h : Good cf) : Sort.SWO (Go.Proofs.ltOf cf) where
 irrefl x := by
  have := h.zero x
  simp [Go.Proofs.ltOf, this]
 trans x y z h1 h2 := by
  simp only [Go.Proofs.ltOf, decide_eq_true_eq] at *
  have h3 := h.trans x y z (by omega) (by omega)
  rcases Int.lt_or_eq_of_le h3 with h4 | h4
  ·exact h4
  ·have h5 := h.anti z x
   have h6 := h.anti x z
   have h7 := h.trans z x y (by omega) (by omega)
   have h8 := h.anti y z
   omega
 ntrans x y z h1 h2 := by
  simp only [Go.Proofs.ltOf, decide_eq_false_iff_not] at *
  have e1 := h.anti x y
  have e2 := h.anti y x
  have e3 := h.anti y z
  have e4 := h.anti z y
  have h3 := h.trans z y x (by omega) (by omega)
  have e5 := h.anti x z
  omega
theorem Good.lex {β : Type} {c1 c2 : β → β → Int} (h1 : Good c1) (h2 : Good c2) : Good fun x y => if c1 x y = 0 then c2 x y else c1 x y where
 anti x y := by
  have a1 := h1.anti x y
  have a2 := h1.anti y x
  have a3 := h2.anti x y
  by_cases e : c1 x y = 0
  ·have e' : c1 y x = 0 := by omega
   simp only [e, e', if_true]
   exact a3
  ·have e' : c1 y x ≠ 0 := by omega
   simp only [e, e', if_false]
   exact a1
 trans x y z k1 k2 := by
  have a1 := h1.anti x y
  have a2 := h1.anti y x
  have a3 := h1.anti y z
  have a4 := h1.anti z y
  have a5 := h1.anti x z
  have a6 := h1.anti z x
  have l1 : c1 x y ≤ 0 := by split at k1 <;> omega
  have l2 : c1 y z ≤ 0 := by split at k2 <;> omega
  have t1 := h1.trans x y z l1 l2
  by_cases e : c1 x z = 0
  ·rw [if_pos e]
   have t2 := h1.trans y z x l2 (by omega)
   have t3 := h1.trans z x y (by omega) l1
   rw [if_pos (by omega)] at k1
   rw [if_pos (by omega)] at k2
   exact h2.trans x y z k1 k2
  ·rw [if_neg e]
   exact t1
theorem Good.pull {α β : Type} {cf : β → β → Int} (h : Good cf) (f : α → β) : Good fun x y => cf (f x) (f y) := ⟨fun _ _ => h.anti _ _, fun _ _ _ => h.trans _ _ _⟩
def cmpI (a b : Int) : Int := if a < b then -1 else if b < a then 1 else 0
theorem cmpI_zero {a b : Int} : cmpI a b = 0 ↔ a = b := by
 unfold cmpI
 split
 ·constructor <;> omega
 ·split <;> constructor <;> omega
theorem goodI : Good cmpI := by
 refine ⟨fun x y => ?_, fun x y z => ?_⟩
 ·unfold cmpI
  split <;> split <;> (try split) <;> (try split) <;> constructor <;> omega
 ·have key : ∀ a b : Int, cmpI a b ≤ 0 ↔ a ≤ b := fun a b => by
   unfold cmpI
   split
   ·constructor <;> omega
   ·split <;> constructor <;> omega
  rw [key, key, key]
  omega
theorem goodS : Good cmpS := by
 refine ⟨fun x y => ?_, fun x y z h1 h2 => ?_⟩
 ·have := cmpS_anti x y
  constructor <;> omega
 ·rcases Int.lt_or_eq_of_le h1 with k1 | k1
  ·rcases Int.lt_or_eq_of_le h2 with k2 | k2
   ·have := cmpS_trans k1 k2
    omega
   ·rw [cmpS_zero.1 k2] at k1
    omega
  ·rw [cmpS_zero.1 k1]
   exact h2
def ordB (b : Bool) : Int := if b then 1 else 0
theorem ordB_inj {a b : Bool} (h : ordB a = ordB b) : a = b := by cases a <;> cases b <;> simp [ordB] at h <;> rfl
structure Nd where
 method : Bool
 name : Str
 idx : Int
instance : Inhabited Nd := ⟨⟨false, ⟨#[]⟩, 0⟩⟩
theorem Nd.eq_iff {a b : Nd} : a = b ↔ a.method = b.method ∧ a.name = b.name ∧ a.idx = b.idx := by
 cases a
 cases b
 simp
def ndC (n : Nd) : List D := [dB n.method, encS n.name, dI n.idx]
def encNd (n : Nd) : D := .agg (ndC n)
theorem encNd_cells (n : Nd) : (encNd n).cells = ndC n := rfl
def slNd (l : List Nd) : D := .sl false (l.map encNd)
attribute [go_sem] encNd_cells encNd ndC slNd
theorem okRowsNd (l : List Nd) : okRows 3 (l.map encNd) := okRows_map 3 _ l fun _ => ⟨rfl, rfl⟩
def or3 (a b c : Int) : Int := if a = 0 then (if b = 0 then c else b) else a
def cfNd (x y : Nd) : Int := or3 (cmpI (ordB x.method) (ordB y.method)) (cmpS x.name y.name) (cmpI x.idx y.idx)
theorem goodNd : Good cfNd :=
 (goodI.pull fun x : Nd => ordB x.method).lex ((goodS.pull fun x : Nd => x.name).lex (goodI.pull fun x : Nd => x.idx))
theorem cfNd_zero {x y : Nd} : cfNd x y = 0 ↔ x = y := by
 constructor
 ·intro h
  unfold cfNd or3 at h
  split at h
  ·rename_i h1
   split at h
   ·rename_i h2
    exact Nd.eq_iff.2 ⟨ordB_inj (cmpI_zero.1 h1), cmpS_zero.1 h2, cmpI_zero.1 h⟩
   ·contradiction
  ·contradiction
 ·rintro rfl
  exact goodNd.zero _
def ltNd : Nd → Nd → Bool := Go.Proofs.ltOf cfNd
theorem nd_uniq {l l2 : List Nd} (hp : l2.Perm l) (ho : l2.Pairwise fun a b => Go.Proofs.ltOf cfNd b a = false) : l2 = srt ltNd l := by
 refine srt_uniq goodNd.swo (fun a _ b _ h1 h2 => ?_) hp ho
 simp only [Go.Proofs.ltOf, decide_eq_false_iff_not] at h1 h2
 have k1 := goodNd.anti a b
 have k2 := goodNd.anti b a
 exact cfNd_zero.1 (by omega)
end Go.Proofs.T
namespace Go.Proofs
open Go.Shelf
def Tryz.layMClone_ren : Go.Shelf.Ren := ⟨fun | 5 => 124 | 7 => 139 | n => n, fun | 23 => 151 | 25 => 9 | 3 => 37 | 4 => 4 | 20 => 20 | n => n, fun | n => n⟩
theorem Tryz.layMClone : Go.Proofs.SlLaysW.n5 Tryz.prog Tryz.layMClone_ren := {
 mixed := by kernel_rfl
 f5 := ⟨Tryz.f124.name, by decide, Tryz.func124.trans (congrArg some (by kernel_rfl))⟩
 f7 := Tryz.func139.trans (congrArg some (by kernel_rfl))
 t4 := Tryz.underlying4
 a4 := Tryz.isAgg4
 z4 := Tryz.sizeOf4
 v4 := Tryz.zeroValue4
 t20 := Tryz.underlying20
 a20 := Tryz.isAgg20
 z20 := Tryz.sizeOf20
 v20 := Tryz.zeroValue20
 t23 := Tryz.underlying151
 a23 := Tryz.isAgg151
 z23 := Tryz.sizeOf151
 v23 := Tryz.zeroValue151 }
def Tryz.laySortNode_ren : Go.Shelf.Ren := ⟨fun | 6 => 53 | 15 => 87 | 14 => 86 | 28 => 122 | 29 => 123 | 20 => 114 | 21 => 115 | 22 => 116 | 23 => 117 | 24 => 118 | 25 => 119 | 26 => 120 | 27 => 121 | 46 => 134 | 47 => 135 | 48 => 136 | 49 => 137 | 50 => 138 | 57 => 145 | n => n, fun | 22 => 35 | 24 => 37 | 25 => 80 | 3 => 3 | 39 => 149 | 0 => 0 | 53 => 200 | 55 => 202 | 4 => 4 | 46 => 194 | 45 => 193 | 50 => 59 | 5 => 5 | 9 => 9 | 66 => 211 | 70 => 215 | 76 => 222 | 77 => 223 | n => n, fun | n => n⟩
theorem Tryz.laySortNode : Go.Proofs.SlLaysF0.n6 Tryz.prog Tryz.laySortNode_ren := {
 mixed := by kernel_rfl
 f6 := ⟨Tryz.f53.name, by decide, Tryz.func53.trans (congrArg some (by kernel_rfl))⟩
 f14 := ⟨Tryz.f86.name, by decide, Tryz.func86.trans (congrArg some (by kernel_rfl))⟩
 f15 := Tryz.func87.trans (congrArg some (by kernel_rfl))
 f20 := ⟨Tryz.f114.name, by decide, Tryz.func114.trans (congrArg some (by kernel_rfl))⟩
 f21 := ⟨Tryz.f115.name, by decide, Tryz.func115.trans (congrArg some (by kernel_rfl))⟩
 f22 := ⟨Tryz.f116.name, by decide, Tryz.func116.trans (congrArg some (by kernel_rfl))⟩
 f23 := ⟨Tryz.f117.name, by decide, Tryz.func117.trans (congrArg some (by kernel_rfl))⟩
 f24 := ⟨Tryz.f118.name, by decide, Tryz.func118.trans (congrArg some (by kernel_rfl))⟩
 f25 := ⟨Tryz.f119.name, by decide, Tryz.func119.trans (congrArg some (by kernel_rfl))⟩
 f26 := ⟨Tryz.f120.name, by decide, Tryz.func120.trans (congrArg some (by kernel_rfl))⟩
 f27 := ⟨Tryz.f121.name, by decide, Tryz.func121.trans (congrArg some (by kernel_rfl))⟩
 f28 := Tryz.func122.trans (congrArg some (by kernel_rfl))
 f29 := Tryz.func123.trans (congrArg some (by kernel_rfl))
 f46 := ⟨Tryz.f134.name, by decide, Tryz.func134.trans (congrArg some (by kernel_rfl))⟩
 f47 := Tryz.func135.trans (congrArg some (by kernel_rfl))
 f48 := Tryz.func136.trans (congrArg some (by kernel_rfl))
 f49 := ⟨Tryz.f137.name, by decide, Tryz.func137.trans (congrArg some (by kernel_rfl))⟩
 f50 := ⟨Tryz.f138.name, by decide, Tryz.func138.trans (congrArg some (by kernel_rfl))⟩
 f57 := ⟨Tryz.f145.name, by decide, Tryz.func145.trans (congrArg some (by kernel_rfl))⟩
 t0 := Tryz.underlying0
 a0 := Tryz.isAgg0
 z0 := Tryz.sizeOf0
 v0 := Tryz.zeroValue0
 t3 := Tryz.underlying3
 a3 := Tryz.isAgg3
 z3 := Tryz.sizeOf3
 v3 := Tryz.zeroValue3
 t4 := Tryz.underlying4
 a4 := Tryz.isAgg4
 z4 := Tryz.sizeOf4
 v4 := Tryz.zeroValue4
 t5 := Tryz.underlying5
 a5 := Tryz.isAgg5
 z5 := Tryz.sizeOf5
 v5 := Tryz.zeroValue5
 t9 := Tryz.underlying9
 a9 := Tryz.isAgg9
 z9 := Tryz.sizeOf9
 v9 := Tryz.zeroValue9
 t22 := Tryz.underlying35
 a22 := Tryz.isAgg35
 z22 := Tryz.sizeOf35
 v22 := Tryz.zeroValue35
 t25 := Tryz.underlying80
 a25 := Tryz.isAgg80
 z25 := Tryz.sizeOf80
 v25 := Tryz.zeroValue80
 t39 := Tryz.underlying149
 a39 := Tryz.isAgg149
 z39 := Tryz.sizeOf149
 v39 := Tryz.zeroValue149
 t45 := Tryz.underlying193
 a45 := Tryz.isAgg193
 z45 := Tryz.sizeOf193
 v45 := Tryz.zeroValue193
 t46 := Tryz.underlying194
 a46 := Tryz.isAgg194
 z46 := Tryz.sizeOf194
 v46 := Tryz.zeroValue194
 t50 := Tryz.underlying59
 a50 := Tryz.isAgg59
 z50 := Tryz.sizeOf59
 v50 := Tryz.zeroValue59
 t53 := Tryz.underlying200
 a53 := Tryz.isAgg200
 z53 := Tryz.sizeOf200
 v53 := Tryz.zeroValue200
 t55 := Tryz.underlying202
 a55 := Tryz.isAgg202
 z55 := Tryz.sizeOf202
 v55 := Tryz.zeroValue202
 t66 := Tryz.underlying211
 a66 := Tryz.isAgg211
 z66 := Tryz.sizeOf211
 v66 := Tryz.zeroValue211
 t70 := Tryz.underlying215
 a70 := Tryz.isAgg215
 z70 := Tryz.sizeOf215
 v70 := Tryz.zeroValue215
 t76 := Tryz.underlying222
 a76 := Tryz.isAgg222
 z76 := Tryz.sizeOf222
 v76 := Tryz.zeroValue222
 t77 := Tryz.underlying223
 a77 := Tryz.isAgg223
 z77 := Tryz.sizeOf223
 v77 := Tryz.zeroValue223 }
def Tryz.laySortEdge_ren : Go.Shelf.Ren := ⟨fun | 6 => 129 | 15 => 87 | 14 => 143 | 28 => 122 | 29 => 123 | 20 => 147 | 21 => 148 | 22 => 149 | 23 => 150 | 24 => 151 | 25 => 152 | 26 => 153 | 27 => 154 | 46 => 155 | 47 => 135 | 48 => 136 | 49 => 156 | 50 => 157 | 57 => 158 | n => n, fun | 22 => 47 | 24 => 78 | 25 => 165 | 3 => 3 | 39 => 149 | 0 => 0 | 53 => 200 | 55 => 202 | 4 => 4 | 46 => 194 | 45 => 193 | 50 => 59 | 5 => 5 | 9 => 9 | 66 => 211 | 70 => 215 | 76 => 222 | 77 => 223 | n => n, fun | n => n⟩
theorem Tryz.laySortEdge : Go.Proofs.SlLaysF0.n6 Tryz.prog Tryz.laySortEdge_ren := {
 mixed := by kernel_rfl
 f6 := ⟨Tryz.f129.name, by decide, Tryz.func129.trans (congrArg some (by kernel_rfl))⟩
 f14 := ⟨Tryz.f143.name, by decide, Tryz.func143.trans (congrArg some (by kernel_rfl))⟩
 f15 := Tryz.func87.trans (congrArg some (by kernel_rfl))
 f20 := ⟨Tryz.f147.name, by decide, Tryz.func147.trans (congrArg some (by kernel_rfl))⟩
 f21 := ⟨Tryz.f148.name, by decide, Tryz.func148.trans (congrArg some (by kernel_rfl))⟩
 f22 := ⟨Tryz.f149.name, by decide, Tryz.func149.trans (congrArg some (by kernel_rfl))⟩
 f23 := ⟨Tryz.f150.name, by decide, Tryz.func150.trans (congrArg some (by kernel_rfl))⟩
 f24 := ⟨Tryz.f151.name, by decide, Tryz.func151.trans (congrArg some (by kernel_rfl))⟩
 f25 := ⟨Tryz.f152.name, by decide, Tryz.func152.trans (congrArg some (by kernel_rfl))⟩
 f26 := ⟨Tryz.f153.name, by decide, Tryz.func153.trans (congrArg some (by kernel_rfl))⟩
 f27 := ⟨Tryz.f154.name, by decide, Tryz.func154.trans (congrArg some (by kernel_rfl))⟩
 f28 := Tryz.func122.trans (congrArg some (by kernel_rfl))
 f29 := Tryz.func123.trans (congrArg some (by kernel_rfl))
 f46 := ⟨Tryz.f155.name, by decide, Tryz.func155.trans (congrArg some (by kernel_rfl))⟩
 f47 := Tryz.func135.trans (congrArg some (by kernel_rfl))
 f48 := Tryz.func136.trans (congrArg some (by kernel_rfl))
 f49 := ⟨Tryz.f156.name, by decide, Tryz.func156.trans (congrArg some (by kernel_rfl))⟩
 f50 := ⟨Tryz.f157.name, by decide, Tryz.func157.trans (congrArg some (by kernel_rfl))⟩
 f57 := ⟨Tryz.f158.name, by decide, Tryz.func158.trans (congrArg some (by kernel_rfl))⟩
 t0 := Tryz.underlying0
 a0 := Tryz.isAgg0
 z0 := Tryz.sizeOf0
 v0 := Tryz.zeroValue0
 t3 := Tryz.underlying3
 a3 := Tryz.isAgg3
 z3 := Tryz.sizeOf3
 v3 := Tryz.zeroValue3
 t4 := Tryz.underlying4
 a4 := Tryz.isAgg4
 z4 := Tryz.sizeOf4
 v4 := Tryz.zeroValue4
 t5 := Tryz.underlying5
 a5 := Tryz.isAgg5
 z5 := Tryz.sizeOf5
 v5 := Tryz.zeroValue5
 t9 := Tryz.underlying9
 a9 := Tryz.isAgg9
 z9 := Tryz.sizeOf9
 v9 := Tryz.zeroValue9
 t22 := Tryz.underlying47
 a22 := Tryz.isAgg47
 z22 := Tryz.sizeOf47
 v22 := Tryz.zeroValue47
 t25 := Tryz.underlying165
 a25 := Tryz.isAgg165
 z25 := Tryz.sizeOf165
 v25 := Tryz.zeroValue165
 t39 := Tryz.underlying149
 a39 := Tryz.isAgg149
 z39 := Tryz.sizeOf149
 v39 := Tryz.zeroValue149
 t45 := Tryz.underlying193
 a45 := Tryz.isAgg193
 z45 := Tryz.sizeOf193
 v45 := Tryz.zeroValue193
 t46 := Tryz.underlying194
 a46 := Tryz.isAgg194
 z46 := Tryz.sizeOf194
 v46 := Tryz.zeroValue194
 t50 := Tryz.underlying59
 a50 := Tryz.isAgg59
 z50 := Tryz.sizeOf59
 v50 := Tryz.zeroValue59
 t53 := Tryz.underlying200
 a53 := Tryz.isAgg200
 z53 := Tryz.sizeOf200
 v53 := Tryz.zeroValue200
 t55 := Tryz.underlying202
 a55 := Tryz.isAgg202
 z55 := Tryz.sizeOf202
 v55 := Tryz.zeroValue202
 t66 := Tryz.underlying211
 a66 := Tryz.isAgg211
 z66 := Tryz.sizeOf211
 v66 := Tryz.zeroValue211
 t70 := Tryz.underlying215
 a70 := Tryz.isAgg215
 z70 := Tryz.sizeOf215
 v70 := Tryz.zeroValue215
 t76 := Tryz.underlying222
 a76 := Tryz.isAgg222
 z76 := Tryz.sizeOf222
 v76 := Tryz.zeroValue222
 t77 := Tryz.underlying223
 a77 := Tryz.isAgg223
 z77 := Tryz.sizeOf223
 v77 := Tryz.zeroValue223 }
end Go.Proofs
namespace Go.Proofs.T
open Go Go.Ab Go.RowKit
theorem order_calls (b : Bool) (g d : Nat) : ACalls E 59 [dB b] [] g d (dI (ordB b)) [] := by
 refine acalls_of_awp (fn := Tryz.f59) (N := 4) Tryz.call59 Tryz.func59 rfl rfl (by simp) ?_
 simp only [go_sem]
 refine awp_seq_k (fun K1 hK1 => ?_)
 refine awp_plain 1 (by kernel_rfl) rfl (fun g0 hg0 => ?_)
 simp only [go_sem]
 refine hK1 _ ?_
 refine awp_seq_k (fun K2 hK2 => ?_)
 refine awp_seq_k (fun K3 hK3 => ?_)
 refine awp_plain 1 (by kernel_rfl) rfl (fun g1 hg1 => ?_)
 simp only [go_sem]
 refine hK3 _ ?_
 cases b with
 | true =>
  refine awp_t rfl ?_
  refine awp_seq_k (fun K4 hK4 => ?_)
  refine awp_plain 1 (by kernel_rfl) rfl (fun g2 hg2 => ?_)
  simp only [go_sem]
  refine hK4 _ ?_
  refine awp_ret ?_
  refine ends_ev rfl ?_
  simp only [go_sem]
  exact Co.refl _
 | false =>
  refine awp_f rfl ?_
  refine awp_skip ?_
  refine hK2 _ ?_
  refine awp_seq_k (fun K5 hK5 => ?_)
  refine awp_plain 1 (by kernel_rfl) rfl (fun g3 hg3 => ?_)
  simp only [go_sem]
  refine hK5 _ ?_
  refine awp_ret ?_
  refine ends_ev rfl ?_
  simp only [go_sem]
  exact Co.refl _
theorem isNaNI_calls (a : Int) (g d : Nat) : ACalls E 99 [dI a] [] g d (dB false) [] := by
 refine acalls_of_awp (fn := Tryz.f99) (N := 6) Tryz.call99 Tryz.func99 rfl rfl (by simp) ?_
 simp only [go_sem]
 refine awp_seq_k (fun K1 hK1 => ?_)
 refine awp_plain 1 (by kernel_rfl) rfl (fun g0 hg0 => ?_)
 simp only [go_sem]
 refine hK1 _ ?_
 refine awp_seq_k (fun K2 hK2 => ?_)
 refine awp_plain 4 (by kernel_rfl) rfl (fun g1 hg1 => ?_)
 simp only [go_sem, decide_true, Bool.not_true]
 refine hK2 _ ?_
 refine awp_ret ?_
 refine ends_ev rfl ?_
 simp only [go_sem]
 exact Co.refl _
theorem cmpInt_calls (a b : Int) (g d : Nat) : ACalls E 58 [dI a, dI b] [] g d (dI (cmpI a b)) [] := by
 refine acalls_of_awp (fn := Tryz.f58) (N := 20) Tryz.call58 Tryz.func58 rfl rfl (by simp) ?_
 simp only [go_sem]
 refine awp_seq_k (fun K1 hK1 => ?_)
 refine awp_plain 1 (by kernel_rfl) rfl (fun g0 hg0 => ?_)
 simp only [go_sem]
 refine hK1 _ ?_
 refine awp_seq_k (fun K2 hK2 => ?_)
 refine awp_ops (by kernel_rfl) rfl (fun g1 hg1 ops1 KR1 hops1 hKR1 => ?_)
 refine aops_eval 1 hops1 ?_
 simp only [go_sem]
 refine aops_pure hops1 rfl rfl rfl (isNaNI_calls _ _ _) (CoL.refl _) ?_
 refine aops_last 1 hops1 ?_
 simp only [go_sem]
 refine hKR1 _ ?_
 refine hK2 _ ?_
 refine awp_seq_k (fun K3 hK3 => ?_)
 refine awp_ops (by kernel_rfl) rfl (fun g2 hg2 ops2 KR2 hops2 hKR2 => ?_)
 refine aops_eval 1 hops2 ?_
 simp only [go_sem]
 refine aops_pure hops2 rfl rfl rfl (isNaNI_calls _ _ _) (CoL.refl _) ?_
 refine aops_last 1 hops2 ?_
 simp only [go_sem]
 refine hKR2 _ ?_
 refine hK3 _ ?_
 refine awp_seq_k (fun K4 hK4 => ?_)
 refine awp_seq_k (fun K5 hK5 => ?_)
 refine awp_plain 1 (by kernel_rfl) rfl (fun g3 hg3 => ?_)
 simp only [go_sem]
 refine hK5 _ ?_
 refine awp_f rfl ?_
 refine awp_skip ?_
 refine hK4 _ ?_
 refine awp_seq_k (fun K6 hK6 => ?_)
 refine awp_seq_k (fun K7 hK7 => ?_)
 refine awp_plain 1 (by kernel_rfl) rfl (fun g7 hg7 => ?_)
 simp only [go_sem]
 refine hK7 _ ?_
 refine awp_f rfl ?_
 refine awp_skip ?_
 refine hK6 _ ?_
 refine awp_seq_k (fun K8 hK8 => ?_)
 refine awp_seq_k (fun K9 hK9 => ?_)
 by_cases h : a < b
 ·refine awp_plain 3 (by kernel_rfl) rfl (fun g9 hg9 => ?_)
  simp only [go_sem, h, decide_true]
  refine hK9 _ ?_
  refine awp_t rfl ?_
  refine awp_seq_k (fun K10 hK10 => ?_)
  refine awp_plain 1 (by kernel_rfl) rfl (fun g10 hg10 => ?_)
  simp only [go_sem]
  refine hK10 _ ?_
  refine awp_ret ?_
  refine ends_ev rfl ?_
  simp only [go_sem]
  exact Co.of_eq (by simp [cmpI, h])
 ·refine awp_plain 3 (by kernel_rfl) rfl (fun g9 hg9 => ?_)
  simp only [go_sem, h, decide_false]
  refine hK9 _ ?_
  refine awp_f rfl ?_
  refine awp_skip ?_
  refine hK8 _ ?_
  refine awp_seq_k (fun K11 hK11 => ?_)
  refine awp_seq_k (fun K12 hK12 => ?_)
  by_cases h2 : b < a
  ·refine awp_plain 3 (by kernel_rfl) rfl (fun g11 hg11 => ?_)
   simp only [go_sem, h2, decide_true]
   refine hK12 _ ?_
   refine awp_t rfl ?_
   refine awp_seq_k (fun K13 hK13 => ?_)
   refine awp_plain 1 (by kernel_rfl) rfl (fun g12 hg12 => ?_)
   simp only [go_sem]
   refine hK13 _ ?_
   refine awp_ret ?_
   refine ends_ev rfl ?_
   simp only [go_sem]
   exact Co.of_eq (by simp [cmpI, h, h2])
  ·refine awp_plain 3 (by kernel_rfl) rfl (fun g11 hg11 => ?_)
   simp only [go_sem, h2, decide_false]
   refine hK12 _ ?_
   refine awp_f rfl ?_
   refine awp_skip ?_
   refine hK11 _ ?_
   refine awp_seq_k (fun K14 hK14 => ?_)
   refine awp_plain 1 (by kernel_rfl) rfl (fun g13 hg13 => ?_)
   simp only [go_sem]
   refine hK14 _ ?_
   refine awp_ret ?_
   refine ends_ev rfl ?_
   simp only [go_sem]
   exact Co.of_eq (by simp [cmpI, h, h2])
theorem or3_calls (x : Bool) (a b c : Int) (g d : Nat) : ACalls E 57 [.sl x [dI a, dI b, dI c]] [] g d (dI (or3 a b c)) [] := by
 refine acalls_of_awp (fn := Tryz.f57) (N := 18) Tryz.call57 Tryz.func57 rfl rfl (by simp) ?_
 simp only [go_sem]
 refine awp_seq_k (fun K1 hK1 => ?_)
 refine awp_plain 1 (by kernel_rfl) rfl (fun g0 hg0 => ?_)
 simp only [go_sem]
 refine hK1 _ ?_
 refine awp_seq_k (fun K2 hK2 => ?_)
 refine awp_plain 1 (by kernel_rfl) rfl (fun g1 hg1 => ?_)
 simp only [go_sem]
 refine hK2 _ ?_
 refine awp_seq_k (fun K3 hK3 => ?_)
 refine awp_seq_k (fun K4 hK4 => ?_)
 refine awp_plain 3 (by kernel_rfl) rfl (fun g2 hg2 => ?_)
 simp only [go_sem]
 refine hK4 _ ?_
 refine awp_block ?_
 refine awp_loop (fun m s => ∃ k, k ≤ 3 ∧ m = 3 - k ∧ (0 < k → a = 0) ∧ (1 < k → b = 0) ∧ (2 < k → c = 0) ∧
   Le { env := [(6, .sl x [dI a, dI b, dI c]), (7, dI 3), (8, dN k), (3, dI 0)], σ := [] } s) 3 ?_ ?_
 ·refine ⟨0, by omega, rfl, by omega, by omega, by omega, le_of ?_⟩
  simp only [go_sem]
  trivial
 ·rintro m s ⟨k, hk, rfl, h1, h2, h3, hle⟩
  refine awp_keep hle ?_
  clear hle
  match k, hk, h1, h2, h3 with
  | 0, hk, h1, h2, h3 =>
   refine awp_seq_k (fun K5 hK5 => ?_)
   refine awp_plain 1 (by kernel_rfl) rfl (fun g3 hg3 => ?_)
   simp only [go_sem]
   refine hK5 _ ?_
   refine awp_seq_k (fun K6 hK6 => ?_)
   refine awp_t rfl ?_
   refine awp_skip ?_
   refine hK6 _ ?_
   refine awp_seq_k (fun K7 hK7 => ?_)
   refine awp_block ?_
   refine awp_seq_k (fun K8 hK8 => ?_)
   refine awp_plain 3 (by kernel_rfl) rfl (fun g4 hg4 => ?_)
   simp only [go_sem]
   refine hK8 _ ?_
   refine awp_seq_k (fun K9 hK9 => ?_)
   by_cases ha : a = 0
   ·subst ha
    refine awp_plain 3 (by kernel_rfl) rfl (fun g5 hg5 => ?_)
    simp only [go_sem, decide_true]
    refine hK9 _ ?_
    refine awp_f rfl ?_
    refine awp_skip ?_
    refine hK7 _ ?_
    refine awp_plain 2 (by kernel_rfl) rfl (fun g7 hg7 => ?_)
    simp only [go_sem]
    try simp (disch := omega) only [wrapN]
    refine ⟨_, ?_, 1, by omega, rfl, by simp, by omega, by omega, le_of ?_⟩
    ·omega
    simp only [go_sem]
    omega
   ·refine awp_plain 3 (by kernel_rfl) rfl (fun g5 hg5 => ?_)
    simp only [go_sem, ha]
    refine hK9 _ ?_
    refine awp_t rfl ?_
    refine awp_seq_k (fun K10 hK10 => ?_)
    refine awp_plain 2 (by kernel_rfl) rfl (fun g6 hg6 => ?_)
    simp only [go_sem]
    refine hK10 _ ?_
    refine awp_ret ?_
    refine ends_ev rfl ?_
    simp only [go_sem]
    exact Co.of_eq (by simp [or3, ha])
  | 1, hk, h1, h2, h3 =>
   have ha := h1 (by omega)
   subst ha
   refine awp_seq_k (fun K11 hK11 => ?_)
   refine awp_plain 1 (by kernel_rfl) rfl (fun g3 hg3 => ?_)
   simp only [go_sem]
   refine hK11 _ ?_
   refine awp_seq_k (fun K12 hK12 => ?_)
   refine awp_t rfl ?_
   refine awp_skip ?_
   refine hK12 _ ?_
   refine awp_seq_k (fun K13 hK13 => ?_)
   refine awp_block ?_
   refine awp_seq_k (fun K14 hK14 => ?_)
   refine awp_plain 3 (by kernel_rfl) rfl (fun g4 hg4 => ?_)
   simp only [go_sem]
   refine hK14 _ ?_
   refine awp_seq_k (fun K15 hK15 => ?_)
   by_cases hb : b = 0
   ·subst hb
    refine awp_plain 3 (by kernel_rfl) rfl (fun g5 hg5 => ?_)
    simp only [go_sem, decide_true]
    refine hK15 _ ?_
    refine awp_f rfl ?_
    refine awp_skip ?_
    refine hK13 _ ?_
    refine awp_plain 2 (by kernel_rfl) rfl (fun g7 hg7 => ?_)
    simp only [go_sem]
    try simp (disch := omega) only [wrapN]
    refine ⟨_, ?_, 2, by omega, rfl, by simp, by simp, by omega, le_of ?_⟩
    ·omega
    simp only [go_sem]
    omega
   ·refine awp_plain 3 (by kernel_rfl) rfl (fun g5 hg5 => ?_)
    simp only [go_sem, hb]
    refine hK15 _ ?_
    refine awp_t rfl ?_
    refine awp_seq_k (fun K16 hK16 => ?_)
    refine awp_plain 2 (by kernel_rfl) rfl (fun g6 hg6 => ?_)
    simp only [go_sem]
    refine hK16 _ ?_
    refine awp_ret ?_
    refine ends_ev rfl ?_
    simp only [go_sem]
    exact Co.of_eq (by simp [or3, hb])
  | 2, hk, h1, h2, h3 =>
   have ha := h1 (by omega)
   have hb := h2 (by omega)
   subst ha hb
   refine awp_seq_k (fun K17 hK17 => ?_)
   refine awp_plain 1 (by kernel_rfl) rfl (fun g3 hg3 => ?_)
   simp only [go_sem]
   refine hK17 _ ?_
   refine awp_seq_k (fun K18 hK18 => ?_)
   refine awp_t rfl ?_
   refine awp_skip ?_
   refine hK18 _ ?_
   refine awp_seq_k (fun K19 hK19 => ?_)
   refine awp_block ?_
   refine awp_seq_k (fun K20 hK20 => ?_)
   refine awp_plain 3 (by kernel_rfl) rfl (fun g4 hg4 => ?_)
   simp only [go_sem]
   refine hK20 _ ?_
   refine awp_seq_k (fun K21 hK21 => ?_)
   by_cases hc : c = 0
   ·subst hc
    refine awp_plain 3 (by kernel_rfl) rfl (fun g5 hg5 => ?_)
    simp only [go_sem, decide_true]
    refine hK21 _ ?_
    refine awp_f rfl ?_
    refine awp_skip ?_
    refine hK19 _ ?_
    refine awp_plain 2 (by kernel_rfl) rfl (fun g7 hg7 => ?_)
    simp only [go_sem]
    try simp (disch := omega) only [wrapN]
    refine ⟨_, ?_, 3, by omega, rfl, by simp, by simp, by simp, le_of ?_⟩
    ·omega
    simp only [go_sem]
    omega
   ·refine awp_plain 3 (by kernel_rfl) rfl (fun g5 hg5 => ?_)
    simp only [go_sem, hc]
    refine hK21 _ ?_
    refine awp_t rfl ?_
    refine awp_seq_k (fun K22 hK22 => ?_)
    refine awp_plain 2 (by kernel_rfl) rfl (fun g6 hg6 => ?_)
    simp only [go_sem]
    refine hK22 _ ?_
    refine awp_ret ?_
    refine ends_ev rfl ?_
    simp only [go_sem]
    exact Co.of_eq (by simp [or3])
  | 3, hk, h1, h2, h3 =>
   have ha := h1 (by omega)
   have hb := h2 (by omega)
   have hc := h3 (by omega)
   subst ha hb hc
   refine awp_seq_k (fun K23 hK23 => ?_)
   refine awp_plain 1 (by kernel_rfl) rfl (fun g3 hg3 => ?_)
   simp only [go_sem]
   refine hK23 _ ?_
   refine awp_seq_k (fun K24 hK24 => ?_)
   refine awp_f rfl ?_
   refine awp_exit ?_
   refine hK3 _ ?_
   refine awp_seq_k (fun K25 hK25 => ?_)
   refine awp_plain 2 (by kernel_rfl) rfl (fun g8 hg8 => ?_)
   simp only [go_sem]
   refine hK25 _ ?_
   refine awp_ret ?_
   refine ends_ev rfl ?_
   simp only [go_sem]
   exact Co.of_eq (by simp [or3])
theorem ndCompare_calls (x y : Nd) (g d : Nat) : ACalls E 32 [encNd x, encNd y] [] g d (dI (cfNd x y)) [] := by
 refine acalls_of_awp (fn := Tryz.f32) (N := 24) Tryz.call32 Tryz.func32 rfl rfl (by simp) ?_
 simp only [go_sem]
 refine awp_seq_k (fun K1 hK1 => ?_)
 refine awp_plain 3 (by kernel_rfl) rfl (fun g0 hg0 => ?_)
 simp only [go_sem]
 refine hK1 _ ?_
 refine awp_seq_k (fun K2 hK2 => ?_)
 refine awp_any 19 (by kernel_rfl) (by kernel_rfl) rfl (fun g1 hg1 ops1 KR1 hops1 hKR1 => ?_)
 refine qrun_eval 2 hops1 ?_
 simp only [go_sem]
 refine qrun_pure hops1 rfl rfl rfl (order_calls _ _ _) (CoL.refl _) rfl ?_
 refine qrun_eval 2 hops1 ?_
 simp only [go_sem]
 refine qrun_pure hops1 rfl rfl rfl (order_calls _ _ _) (CoL.refl _) rfl ?_
 refine qrun_pure hops1 rfl rfl rfl (cmpInt_calls _ _ _ _) (CoL.refl _) rfl ?_
 refine qrun_eval 4 hops1 ?_
 simp only [go_sem]
 refine qrun_pure hops1 rfl rfl rfl (nameCompare_calls _ _ _ _) (CoL.refl _) rfl ?_
 refine qrun_eval 4 hops1 ?_
 simp only [go_sem]
 refine qrun_pure hops1 rfl rfl rfl (cmpInt_calls _ _ _ _) (CoL.refl _) rfl ?_
 refine qrun_eval 1 hops1 ?_
 simp only [go_sem]
 refine qrun_pure hops1 rfl rfl rfl (or3_calls _ _ _ _ _ _) (CoL.refl _) rfl ?_
 refine qrun_last 0 hops1 ?_
 simp only [go_sem]
 refine aops_last 1 hops1 ?_
 simp only [go_sem]
 refine hKR1 _ ?_
 refine hK2 _ ?_
 refine awp_ret ?_
 refine ends_ev rfl ?_
 simp only [go_sem]
 exact Co.refl _
theorem ndCmp_at : CmpAt Tryz.prog E.A 32 Nd 3 (okV encNd) cfNd := cmpAt_of (E := E) (fun _ => rfl) fun x y g d => ndCompare_calls x y g d
theorem sortNd_calls (l : List Nd) (hl : l.length ≤ 1000000) (n : Nm) (g d : Nat) :
  ACalls E 53 [.own n l.length, .func (.func 32) [] []] [(n, .arr 37 3 (l.map encNd))] g d (.tup []) [(n, .arr 37 3 ((srt ltNd l).map encNd))] :=
 acalls_sort (E := E) (k := 3) (ok := okV encNd) (encB := encNd) Tryz.laySortNode (by kernel_rfl) (by kernel_rfl) Tryz.call53 ag37 sz37 (by decide) (fun _ => ⟨rfl, rfl⟩)
  (fun G w vs b h => by
   have h' : Vs G w vs ([.bool b.method, .string b.name, .int .i64 b.idx].map .val) := h
   rw [Vs.toVals h']
   rfl)
  goodNd.swo E_keep ndCmp_at Tryz.call32 (by omega) (fun l2 hp ho => nd_uniq hp ho) n g d
end Go.Proofs.T
namespace Go.Proofs.T
open Go Go.Ab Go.RowKit
open Classical in
noncomputable def cpU (L : List Nd) : Nat → List Nd
 | 0 => []
 | m + 1 => if 0 < m ∧ L[m]? = L[m - 1]? then cpU L m else cpU L m ++ (L[m]?).toList
theorem ndEq {X Y : Nd} (h : X ≠ Y) : ¬ (X.method = Y.method ∧ X.name = Y.name ∧ X.idx = Y.idx) := fun e => h (Nd.eq_iff.2 e)
theorem subLen (n j : Nat) : ((n : Int) - (j : Int)).toNat = n - j := by omega
end Go.Proofs.T
namespace Go.Proofs.T
open Go Go.Ab Go.RowKit
end Go.Proofs.T
namespace Go.Proofs.T
open Go Go.Ab Go.RowKit
def smFm (f : Formal) : Prop := f.name.size ≤ 1000000 ∧ smTy f.bound
def smPa (f : Param) : Prop := f.name.size ≤ 1000000 ∧ smTy f.type
def smSi (s : Sig) : Prop := s.name.size ≤ 1000000 ∧ (s.formals.length ≤ 1000000 ∧ ∀ f ∈ s.formals, smFm f) ∧ (s.params.length ≤ 1000000 ∧ ∀ f ∈ s.params, smPa f) ∧ smTy s.result
def mapFm (f : Ty → Ty) (x : Formal) : Formal := ⟨x.name, f x.bound, x.pos⟩
def mapPa (f : Ty → Ty) (x : Param) : Param := ⟨x.name, f x.type, x.pos⟩
def mapSi (f : Ty → Ty) (s : Sig) : Sig := ⟨s.name, s.formals.map (mapFm f), s.params.map (mapPa f), f s.result, s.pos⟩
def ownSi (g d : Nat) (s : Sig) : D := .agg [.val (.string s.name), .own ⟨g, d, 1⟩ s.formals.length, .own ⟨g, d, 2⟩ s.params.length, .val (.string s.result.name), .sl false (s.result.args.map encTy), .val (.int .i64 s.result.pos), .val (.int .i64 s.pos)]
def newSi (g d : Nat) (s : Sig) : Sto := [(⟨g, d, 1⟩, .arr 63 5 (s.formals.map encFm)), (⟨g, d, 2⟩, .arr 118 5 (s.params.map encPa))]
def zSi : List D := [.val (.string ByteArray.empty), .val (.slice none 0 0), .val (.slice none 0 0), .val (.string ByteArray.empty), .val (.slice none 0 0), dI 0, dI 0]
end Go.Proofs.T
namespace Go.Proofs
end Go.Proofs
namespace Go.Proofs.T
open Go Go.Ab Go.RowKit
def decS (u : Nat) : Str := ⟨(Lib.decDigits u).toArray⟩
def localS (u : Nat) : Str := ⟨#[36]⟩ ++ decS u
end Go.Proofs.T
namespace Go.Proofs.T
open Go Go.Ab Go.RowKit
def locTy (i : Nat) : Ty := ⟨localS i, [], 0⟩
def locTys (n : Nat) : List Ty := (List.range n).map locTy
def toLoc (i : Nat) (f : Formal) : Formal := ⟨localS i, f.bound, f.pos⟩
def noName (p : Param) : Param := ⟨⟨#[]⟩, p.type, p.pos⟩
def ownF (s : Sig) : Ty → Ty := substTy (s.formals.map (·.name)) (locTys s.formals.length)
def canonSi (s : Sig) : Sig := ⟨s.name, (s.formals.map (mapFm (ownF s))).mapIdx toLoc, (s.params.map (mapPa (ownF s))).map noName, ownF s s.result, s.pos⟩
def rawLoc (i : Nat) : D := .agg [.val (.string (localS i)), .val (.slice none 0 0), dI 0]
def upTo (k i : Nat) (f : Formal) : D := encFm (if i < k then toLoc i f else f)
def upP (k i : Nat) (f : Param) : D := encPa (if i < k then noName f else f)
end Go.Proofs.T
namespace Go.Proofs.T
open Go Go.Ab Go.RowKit
def same (t u : Ty) : Bool := decide (cmpTy t u = 0)
def allB {α : Type} (p : α → α → Bool) : List α → List α → Bool
 | [], [] => true
 | a :: x, b :: y => p a b && allB p x y
 | _, _ => false
theorem allB_length {α : Type} {p : α → α → Bool} : ∀ {x y : List α}, x.length ≠ y.length → allB p x y = false
 | [], [], h => absurd rfl h
 | [], _ :: _, _ => rfl
 | _ :: _, [], _ => rfl
 | a :: x, b :: y, h => by simp only [allB, allB_length (x := x) (y := y) (fun e => h (by simp [e])), Bool.and_false]
def sameFm (a b : Formal) : Bool := decide (a.name = b.name) && same a.bound b.bound
def samePa (a b : Param) : Bool := decide (a.name = b.name) && same a.type b.type
def sameSi (s t : Sig) : Bool := decide (s.name = t.name) && (allB sameFm s.formals t.formals && (allB samePa s.params t.params && same s.result t.result))
end Go.Proofs.T
