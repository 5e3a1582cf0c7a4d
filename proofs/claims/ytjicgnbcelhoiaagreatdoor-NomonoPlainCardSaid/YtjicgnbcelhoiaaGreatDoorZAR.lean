/- A part of the proof, under no conditions of its own: ZAR. -/
import Derived.Test.YtjicgnbcelhoiaaGreatDoorZAQ
import Derived.Test.YtjicgnbcelhoiaaGreatDoorZAJ
namespace Go.Proofs.T
open Go Go.Ab Go.RowKit
theorem flatLe {α β : Type} (f : α → List β) (l : List α) (k : Nat) : ((l.take k).flatMap f).length ≤ (l.flatMap f).length := by
 have := congrArg (fun l => (l.flatMap f).length) (List.take_append_drop k l)
 simp only [List.flatMap_append, List.length_append] at this
 omega
noncomputable def prE (p : Prg) : List Ed := p.decls.flatMap deE
set_option maxRecDepth 100000 in
theorem edges_calls (p : Prg) (hp : smPr p) (hE : (prE p).length ≤ 1000000) (g d : Nat) : ACalls E 31 [encPr p] [] g d (slEd (setE (prE p))) [] := by
 obtain ⟨⟨k1, k2⟩, k3⟩ := hp
 refine acalls_of_awp (fn := Tryz.f31) (N := 20) Tryz.call31 Tryz.func31 rfl rfl (by simp) ?_
 simp only [go_sem]
 refine awp_seq_k (fun K1 hK1 => ?_)
 refine awp_plain 2 (by kernel_rfl) rfl (fun g0 hg0 => ?_)
 simp only [go_sem]
 refine hK1 _ ?_
 refine awp_seq_k (fun K2 hK2 => ?_)
 refine awp_plain 2 (by kernel_rfl) rfl (fun g1 hg1 => ?_)
 simp only [go_sem]
 refine hK2 _ ?_
 refine awp_seq_k (fun K3 hK3 => ?_)
 refine awp_seq_k (fun K4 hK4 => ?_)
 refine awp_plain 4 (by kernel_rfl) rfl (fun g2 hg2 => ?_)
 simp only [go_sem]
 refine hK4 _ ?_
 refine awp_block ?_
 refine awp_loop (fun m st => ∃ k, k ≤ p.decls.length ∧ m = p.decls.length - k ∧ Le { env := [(3, .mref ⟨g1, 6, 0⟩), (8, slDe p.decls), (9, dN p.decls.length), (10, dN k)], σ := [(⟨g1, 6, 0⟩, .map ksE (edE (((p.decls.take k).flatMap deE).foldl addE [])))] } st) p.decls.length ?_ ?_
 ·refine ⟨0, Nat.zero_le _, rfl, le_of ?_⟩
  simp only [go_sem, List.take_zero, List.flatMap_nil, List.foldl_nil]
  all_goals first | done | exact rfl | exact ⟨rfl, rfl⟩ | trivial | omega
 ·rintro m st ⟨k, hk, rfl, hle⟩
  refine awp_keep hle ?_
  clear hle
  refine awp_seq_k (fun K5 hK5 => ?_)
  by_cases hlt : k < p.decls.length
  ·have hfl : ((p.decls.take (k + 1)).flatMap deE).foldl addE [] = (deE p.decls[k]).foldl addE (((p.decls.take k).flatMap deE).foldl addE []) := by
    rw [flatTake _ hlt, List.foldl_append]
   have hgm := getM (f := encDe) hlt
   have hd := k2 _ (List.getElem_mem hlt)
   generalize p.decls[k] = X at *
   generalize ((p.decls.take k).flatMap deE).foldl addE [] = R2 at *
   refine awp_plain 1 (by kernel_rfl) rfl (fun g3 hg3 => ?_)
   simp only [go_sem, hlt]
   refine hK5 _ ?_
   refine awp_seq_k (fun K6 hK6 => ?_)
   refine awp_t rfl ?_
   refine awp_skip ?_
   refine hK6 _ ?_
   refine awp_seq_k (fun K7 hK7 => ?_)
   refine awp_block ?_
   refine awp_seq_k (fun K8 hK8 => ?_)
   refine awp_plain 4 (by kernel_rfl) rfl (fun g4 hg4 => ?_)
   simp only [go_sem, hgm]
   refine hK8 _ ?_
   have hn4_g1 : g4 ≠ g1 := fresh_g hg4 6 0 (by simp [go_sem])
   refine awp_ops (by kernel_rfl) rfl (fun g5 hg5 ops5 KR5 hops5 hKR5 => ?_)
   refine aops_eval 2 hops5 ?_
   simp only [go_sem, Ne.symm hn4_g1]
   refine aops_call hops5 rfl rfl rfl (gDecl_calls g1 6 X hd R2 _ _) (CoL.refl _) (by simp [go_sem, hn4_g1]) ?_
   refine aops_last 0 hops5 ?_
   simp only [go_sem, hn4_g1]
   refine hKR5 _ ?_
   refine hK7 _ ?_
   refine awp_plain 2 (by kernel_rfl) rfl (fun g6 hg6 => ?_)
   simp only [go_sem]
   try simp (disch := omega) only [wrapN]
   refine ⟨_, ?_, k + 1, hlt, rfl, le_of ?_⟩
   ·omega
   simp only [go_sem, hfl, hn4_g1]
   all_goals first | done | exact rfl | exact ⟨rfl, rfl⟩ | trivial | omega
  ·have : k = p.decls.length := by omega
   subst this
   refine awp_plain 1 (by kernel_rfl) rfl (fun g3 hg3 => ?_)
   simp only [go_sem, hlt]
   refine hK5 _ ?_
   refine awp_seq_k (fun K9 hK9 => ?_)
   refine awp_f rfl ?_
   refine awp_exit ?_
   refine hK3 _ ?_
   refine awp_seq_k (fun K10 hK10 => ?_)
   have hR := srt_addAll (prE p)
   have hl := addAll_len (prE p) []
   rw [show p.decls.flatMap deE = prE p from rfl]
   generalize (prE p).foldl addE [] = R at *
   refine awp_fmap ⟨g1, 6, 0⟩ ?_
   simp only [go_sem]
   refine awp_ops (by kernel_rfl) rfl (fun g7 hg7 ops7 KR7 hops7 hKR7 => ?_)
   refine aops_eval 1 hops7 ?_
   simp only [go_sem]
   refine aops_pure hops7 rfl rfl rfl (sorted_calls R (by simp at hl; omega) _ _) (CoL.refl _) ?_
   refine aops_last 1 hops7 ?_
   simp only [go_sem]
   refine hKR7 _ ?_
   refine hK10 _ ?_
   refine awp_ret ?_
   refine ends_ev rfl ?_
   simp only [go_sem]
   exact Co.of_eq (by rw [hR])
set_option maxRecDepth 100000 in
theorem flowDecl_calls (p : Prg) (hp : smPr p) (i : Int) (hE : (prE p).length ≤ 1000000) (g r : Nat) :
  ACalls E 46 [encPr p, dI i] [] g r (slEd (setE (if h : 0 ≤ i ∧ i < p.decls.length then deE (p.decls[i.toNat]'(by omega)) else []))) [] := by
 obtain ⟨⟨k1, k2⟩, k3⟩ := hp
 by_cases h : 0 ≤ i ∧ i < p.decls.length
 ·rw [dif_pos h]
  obtain ⟨h0, hlt⟩ := h
  obtain ⟨n, rfl⟩ := Int.eq_ofNat_of_zero_le h0
  have hn : n < p.decls.length := by omega
  have hgm := getM (f := encDe) hn
  have hd := k2 _ (List.getElem_mem hn)
  have hle : (deE p.decls[n]).length ≤ 1000000 := by
   refine Nat.le_trans ?_ hE
   have := flatLe deE p.decls (n + 1)
   rw [flatTake _ hn, List.length_append] at this
   unfold prE
   omega
  have hR := srt_addAll (deE p.decls[n])
  have hl := addAll_len (deE p.decls[n]) []
  simp only [Int.toNat_natCast]
  generalize p.decls[n] = X at *
  refine acalls_of_awp (fn := Tryz.f46) (N := 25) Tryz.call46 Tryz.func46 rfl rfl (by simp) ?_
  simp only [go_sem]
  refine awp_seq_k (fun K1 hK1 => ?_)
  refine awp_plain 2 (by kernel_rfl) rfl (fun g0 hg0 => ?_)
  simp only [go_sem]
  refine hK1 _ ?_
  refine awp_seq_k (fun K2 hK2 => ?_)
  refine awp_plain 2 (by kernel_rfl) rfl (fun g1 hg1 => ?_)
  simp only [go_sem]
  refine hK2 _ ?_
  refine awp_seq_k (fun K3 hK3 => ?_)
  refine awp_seq_k (fun K4 hK4 => ?_)
  refine awp_plain 9 (by kernel_rfl) rfl (fun g2 hg2 => ?_)
  simp only [go_sem, h0, hlt, decide_true]
  refine hK4 _ ?_
  refine awp_t rfl ?_
  refine awp_ops (by kernel_rfl) rfl (fun g3 hg3 ops3 KR3 hops3 hKR3 => ?_)
  refine aops_eval 6 hops3 ?_
  simp only [go_sem, hgm]
  refine aops_call hops3 rfl rfl rfl (gDecl_calls g1 6 X hd [] _ _) (CoL.refl _) (by simp [go_sem, edE]) ?_
  refine aops_last 0 hops3 ?_
  simp only [go_sem]
  refine hKR3 _ ?_
  refine hK3 _ ?_
  refine awp_seq_k (fun K5 hK5 => ?_)
  generalize (deE X).foldl addE [] = R at *
  refine awp_fmap ⟨g1, 6, 0⟩ ?_
  simp only [go_sem]
  refine awp_ops (by kernel_rfl) rfl (fun g4 hg4 ops4 KR4 hops4 hKR4 => ?_)
  refine aops_eval 1 hops4 ?_
  simp only [go_sem]
  refine aops_pure hops4 rfl rfl rfl (sorted_calls R (by simp at hl; omega) _ _) (CoL.refl _) ?_
  refine aops_last 1 hops4 ?_
  simp only [go_sem]
  refine hKR4 _ ?_
  refine hK5 _ ?_
  refine awp_ret ?_
  refine ends_ev rfl ?_
  simp only [go_sem]
  exact Co.of_eq (by rw [hR])
 ·rw [dif_neg h]
  have hR : srt ltEd [] = setE [] := srt_addAll []
  by_cases h0 : 0 ≤ i
  ·have h1 : ¬ i < p.decls.length := fun h1 => h ⟨h0, h1⟩
   refine acalls_of_awp (fn := Tryz.f46) (N := 25) Tryz.call46 Tryz.func46 rfl rfl (by simp) ?_
   simp only [go_sem]
   refine awp_seq_k (fun K1 hK1 => ?_)
   refine awp_plain 2 (by kernel_rfl) rfl (fun g0 hg0 => ?_)
   simp only [go_sem]
   refine hK1 _ ?_
   refine awp_seq_k (fun K2 hK2 => ?_)
   refine awp_plain 2 (by kernel_rfl) rfl (fun g1 hg1 => ?_)
   simp only [go_sem]
   refine hK2 _ ?_
   refine awp_seq_k (fun K3 hK3 => ?_)
   refine awp_seq_k (fun K4 hK4 => ?_)
   refine awp_plain 9 (by kernel_rfl) rfl (fun g2 hg2 => ?_)
   simp only [go_sem, h0, h1, decide_true, decide_false]
   refine hK4 _ ?_
   refine awp_f rfl ?_
   refine awp_skip ?_
   refine hK3 _ ?_
   refine awp_seq_k (fun K5 hK5 => ?_)
   refine awp_fmap ⟨g1, 6, 0⟩ ?_
   simp only [go_sem]
   refine awp_ops (by kernel_rfl) rfl (fun g4 hg4 ops4 KR4 hops4 hKR4 => ?_)
   refine aops_eval 1 hops4 ?_
   simp only [go_sem]
   refine aops_pure hops4 rfl rfl rfl (sorted_calls [] (by simp) _ _) (.cons (Co.of_eq rfl) .nil) ?_
   refine aops_last 1 hops4 ?_
   simp only [go_sem]
   refine hKR4 _ ?_
   refine hK5 _ ?_
   refine awp_ret ?_
   refine ends_ev rfl ?_
   simp only [go_sem]
   exact Co.of_eq (by rw [hR])
  ·refine acalls_of_awp (fn := Tryz.f46) (N := 25) Tryz.call46 Tryz.func46 rfl rfl (by simp) ?_
   simp only [go_sem]
   refine awp_seq_k (fun K1 hK1 => ?_)
   refine awp_plain 2 (by kernel_rfl) rfl (fun g0 hg0 => ?_)
   simp only [go_sem]
   refine hK1 _ ?_
   refine awp_seq_k (fun K2 hK2 => ?_)
   refine awp_plain 2 (by kernel_rfl) rfl (fun g1 hg1 => ?_)
   simp only [go_sem]
   refine hK2 _ ?_
   refine awp_seq_k (fun K3 hK3 => ?_)
   refine awp_seq_k (fun K4 hK4 => ?_)
   refine awp_plain 9 (by kernel_rfl) rfl (fun g2 hg2 => ?_)
   simp only [go_sem, h0, decide_false]
   refine hK4 _ ?_
   refine awp_f rfl ?_
   refine awp_skip ?_
   refine hK3 _ ?_
   refine awp_seq_k (fun K5 hK5 => ?_)
   refine awp_fmap ⟨g1, 6, 0⟩ ?_
   simp only [go_sem]
   refine awp_ops (by kernel_rfl) rfl (fun g4 hg4 ops4 KR4 hops4 hKR4 => ?_)
   refine aops_eval 1 hops4 ?_
   simp only [go_sem]
   refine aops_pure hops4 rfl rfl rfl (sorted_calls [] (by simp) _ _) (.cons (Co.of_eq rfl) .nil) ?_
   refine aops_last 1 hops4 ?_
   simp only [go_sem]
   refine hKR4 _ ?_
   refine hK5 _ ?_
   refine awp_ret ?_
   refine ends_ev rfl ?_
   simp only [go_sem]
   exact Co.of_eq (by rw [hR])
end Go.Proofs.T
namespace Go.Proofs.T
open Go Go.Ab Go.RowKit
def okNd (x : Nd) : Prop := x.name.size ≤ 9223372036854775807
def okEd (x : Ed) : Prop := okNd x.frm ∧ okNd x.to
theorem refNd_calls (x y : Nd) (hx : okNd x) (g d : Nat) : ACalls E 12 [encNd x, encNd y] [] g d (dI (cfNd x y)) [] := by
 refine acalls_of_awp (fn := Tryz.f12) (N := 32) Tryz.call12 Tryz.func12 rfl rfl (by simp) ?_
 simp only [go_sem]
 refine awp_seq_k (fun K1 hK1 => ?_)
 refine awp_plain 3 (by kernel_rfl) rfl (fun g0 hg0 => ?_)
 simp only [go_sem]
 refine hK1 _ ?_
 refine awp_seq_k (fun K2 hK2 => ?_)
 refine awp_seq_k (fun K3 hK3 => ?_)
 obtain ⟨xm, xn, xi⟩ := x
 obtain ⟨ym, yn, yi⟩ := y
 by_cases hm : xm = ym
 ·subst hm
  have e1 : cmpI (ordB xm) (ordB xm) = 0 := cmpI_zero.2 rfl
  refine awp_plain 5 (by kernel_rfl) rfl (fun g1 hg1 => ?_)
  simp only [go_sem, decide_true, Bool.not_true]
  refine hK3 _ ?_
  refine awp_f rfl ?_
  refine awp_skip ?_
  refine hK2 _ ?_
  refine awp_seq_k (fun K4 hK4 => ?_)
  refine awp_seq_k (fun K5 hK5 => ?_)
  by_cases hn : xn = yn
  ·subst hn
   have e2 : cmpS xn xn = 0 := cmpS_zero.2 rfl
   refine awp_plain 5 (by kernel_rfl) rfl (fun g5 hg5 => ?_)
   simp only [go_sem, decide_true, Bool.not_true]
   refine hK5 _ ?_
   refine awp_f rfl ?_
   refine awp_skip ?_
   refine hK4 _ ?_
   refine awp_seq_k (fun K6 hK6 => ?_)
   refine awp_seq_k (fun K7 hK7 => ?_)
   by_cases h1 : xi < yi
   ·refine awp_plain 5 (by kernel_rfl) rfl (fun g7 hg7 => ?_)
    simp only [go_sem, h1, decide_true]
    refine hK7 _ ?_
    refine awp_t rfl ?_
    refine awp_seq_k (fun K8 hK8 => ?_)
    refine awp_plain 1 (by kernel_rfl) rfl (fun g8 hg8 => ?_)
    simp only [go_sem]
    refine hK8 _ ?_
    refine awp_ret ?_
    refine ends_ev rfl ?_
    simp only [go_sem]
    exact Co.of_eq (by simp [cfNd, or3, e2, cmpI, h1])
   ·refine awp_plain 5 (by kernel_rfl) rfl (fun g7 hg7 => ?_)
    simp only [go_sem, h1, decide_false]
    refine hK7 _ ?_
    refine awp_f rfl ?_
    refine awp_skip ?_
    refine hK6 _ ?_
    refine awp_seq_k (fun K9 hK9 => ?_)
    refine awp_seq_k (fun K10 hK10 => ?_)
    by_cases h2 : yi < xi
    ·refine awp_plain 5 (by kernel_rfl) rfl (fun g9 hg9 => ?_)
     simp only [go_sem, h2, decide_true]
     refine hK10 _ ?_
     refine awp_t rfl ?_
     refine awp_seq_k (fun K11 hK11 => ?_)
     refine awp_plain 1 (by kernel_rfl) rfl (fun g10 hg10 => ?_)
     simp only [go_sem]
     refine hK11 _ ?_
     refine awp_ret ?_
     refine ends_ev rfl ?_
     simp only [go_sem]
     exact Co.of_eq (by simp [cfNd, or3, e2, cmpI, h1, h2])
    ·refine awp_plain 5 (by kernel_rfl) rfl (fun g9 hg9 => ?_)
     simp only [go_sem, h2, decide_false]
     refine hK10 _ ?_
     refine awp_f rfl ?_
     refine awp_skip ?_
     refine hK9 _ ?_
     refine awp_seq_k (fun K12 hK12 => ?_)
     refine awp_plain 1 (by kernel_rfl) rfl (fun g11 hg11 => ?_)
     simp only [go_sem]
     refine hK12 _ ?_
     refine awp_ret ?_
     refine ends_ev rfl ?_
     simp only [go_sem]
     exact Co.of_eq (by simp [cfNd, or3, e2, cmpI, h1, h2])
  ·have e2 : cmpS xn yn ≠ 0 := fun h => hn (cmpS_zero.1 h)
   refine awp_plain 5 (by kernel_rfl) rfl (fun g5 hg5 => ?_)
   simp only [go_sem, hn, decide_false, Bool.not_false]
   refine hK5 _ ?_
   refine awp_t rfl ?_
   refine awp_seq_k (fun K13 hK13 => ?_)
   refine awp_ops (by kernel_rfl) rfl (fun g6 hg6 ops6 KR6 hops6 hKR6 => ?_)
   refine aops_eval 4 hops6 ?_
   simp only [go_sem]
   refine aops_pure hops6 rfl rfl rfl (compareS_calls xn yn hx _ _) (CoL.refl _) ?_
   refine aops_last 1 hops6 ?_
   simp only [go_sem]
   refine hKR6 _ ?_
   refine hK13 _ ?_
   refine awp_ret ?_
   refine ends_ev rfl ?_
   simp only [go_sem]
   exact Co.of_eq (by simp [cfNd, or3, e1, e2])
 ·cases xm <;> cases ym
  ·exact absurd rfl hm
  ·refine awp_plain 5 (by kernel_rfl) rfl (fun g1 hg1 => ?_)
   simp only [go_sem]
   refine hK3 _ ?_
   refine awp_t rfl ?_
   refine awp_seq_k (fun K14 hK14 => ?_)
   refine awp_seq_k (fun K15 hK15 => ?_)
   refine awp_plain 2 (by kernel_rfl) rfl (fun g2 hg2 => ?_)
   simp only [go_sem]
   refine hK15 _ ?_
   refine awp_t rfl ?_
   refine awp_seq_k (fun K16 hK16 => ?_)
   refine awp_plain 1 (by kernel_rfl) rfl (fun g3 hg3 => ?_)
   simp only [go_sem]
   refine hK16 _ ?_
   refine awp_ret ?_
   refine ends_ev rfl ?_
   simp only [go_sem]
   exact Co.of_eq (by simp [cfNd, or3, cmpI, ordB])
  ·refine awp_plain 5 (by kernel_rfl) rfl (fun g1 hg1 => ?_)
   simp only [go_sem]
   refine hK3 _ ?_
   refine awp_t rfl ?_
   refine awp_seq_k (fun K17 hK17 => ?_)
   refine awp_seq_k (fun K18 hK18 => ?_)
   refine awp_plain 2 (by kernel_rfl) rfl (fun g2 hg2 => ?_)
   simp only [go_sem]
   refine hK18 _ ?_
   refine awp_f rfl ?_
   refine awp_skip ?_
   refine hK17 _ ?_
   refine awp_seq_k (fun K19 hK19 => ?_)
   refine awp_plain 1 (by kernel_rfl) rfl (fun g4 hg4 => ?_)
   simp only [go_sem]
   refine hK19 _ ?_
   refine awp_ret ?_
   refine ends_ev rfl ?_
   simp only [go_sem]
   exact Co.of_eq (by simp [cfNd, or3, cmpI, ordB])
  ·exact absurd rfl hm
theorem refLess_calls (x y : Ed) (hx : okEd x) (g d : Nat) : ACalls E 144 [encEd x, encEd y] [] g d (dB (decide (cfEd x y < 0))) [] := by
 obtain ⟨c, hc⟩ : ∃ c, c = cfNd x.frm y.frm := ⟨_, rfl⟩
 obtain ⟨e, he⟩ : ∃ e, e = cfNd x.to y.to := ⟨_, rfl⟩
 have hcf : cfEd x y = or3 c e (cmpI (ordB x.ins) (ordB y.ins)) := by rw [hc, he]; rfl
 have h1 := refNd_calls x.frm y.frm hx.1
 have h2 := refNd_calls x.to y.to hx.2
 rw [← hc] at h1
 rw [← he] at h2
 rw [hcf]
 clear hcf
 refine acalls_of_awp (fn := Tryz.f144) (N := 33) Tryz.call144 Tryz.func144 rfl rfl (by simp) ?_
 simp only [go_sem]
 refine awp_seq_k (fun K1 hK1 => ?_)
 refine awp_plain 3 (by kernel_rfl) rfl (fun g0 hg0 => ?_)
 simp only [go_sem]
 refine hK1 _ ?_
 refine awp_seq_k (fun K2 hK2 => ?_)
 refine awp_ops (by kernel_rfl) rfl (fun g1 hg1 ops1 KR1 hops1 hKR1 => ?_)
 refine aops_eval 4 hops1 ?_
 simp only [go_sem]
 refine aops_pure hops1 rfl rfl rfl (h1 _ _) (CoL.refl _) ?_
 refine aops_last 1 hops1 ?_
 simp only [go_sem]
 refine hKR1 _ ?_
 refine hK2 _ ?_
 refine awp_seq_k (fun K3 hK3 => ?_)
 refine awp_seq_k (fun K4 hK4 => ?_)
 by_cases h0 : c = 0
 ·refine awp_plain 2 (by kernel_rfl) rfl (fun g2 hg2 => ?_)
  simp only [go_sem, h0, decide_true]
  refine hK4 _ ?_
  refine awp_t rfl ?_
  refine awp_ops (by kernel_rfl) rfl (fun g3 hg3 ops3 KR3 hops3 hKR3 => ?_)
  refine aops_eval 4 hops3 ?_
  simp only [go_sem]
  refine aops_pure hops3 rfl rfl rfl (h2 _ _) (CoL.refl _) ?_
  refine aops_last 1 hops3 ?_
  simp only [go_sem]
  refine hKR3 _ ?_
  refine hK3 _ ?_
  refine awp_seq_k (fun K5 hK5 => ?_)
  by_cases e0 : e < 0
  ·refine awp_plain 16 (by kernel_rfl) rfl (fun g4 hg4 => ?_)
   simp only [go_sem, e0, decide_true]
   refine hK5 _ ?_
   refine awp_ret ?_
   refine ends_ev rfl ?_
   simp only [go_sem]
   exact Co.of_eq (by rw [or3, if_pos h0, if_neg (by omega), decide_eq_true e0])
  ·by_cases e1 : e = 0
   ·subst e1
    cases hi : x.ins with
    | true =>
     refine awp_plain 16 (by kernel_rfl) rfl (fun g4 hg4 => ?_)
     simp only [go_sem, decide_true, decide_false, Int.lt_irrefl, Bool.not_true]
     refine hK5 _ ?_
     refine awp_ret ?_
     refine ends_ev rfl ?_
     simp only [go_sem]
     exact Co.of_eq (by cases y.ins <;> simp [or3, h0, cmpI, ordB, hi])
    | false =>
     refine awp_plain 16 (by kernel_rfl) rfl (fun g4 hg4 => ?_)
     simp only [go_sem, decide_true, decide_false, Int.lt_irrefl, Bool.not_false]
     refine hK5 _ ?_
     refine awp_ret ?_
     refine ends_ev rfl ?_
     simp only [go_sem]
     exact Co.of_eq (by cases y.ins <;> simp [or3, h0, cmpI, ordB, hi])
   ·refine awp_plain 16 (by kernel_rfl) rfl (fun g4 hg4 => ?_)
    simp only [go_sem, e0, e1, decide_false]
    refine hK5 _ ?_
    refine awp_ret ?_
    refine ends_ev rfl ?_
    simp only [go_sem]
    exact Co.of_eq (by rw [or3, if_pos h0, if_neg e1, decide_eq_false e0])
 ·refine awp_plain 2 (by kernel_rfl) rfl (fun g2 hg2 => ?_)
  simp only [go_sem, h0, decide_false]
  refine hK4 _ ?_
  refine awp_f rfl ?_
  refine awp_skip ?_
  refine hK3 _ ?_
  refine awp_seq_k (fun K6 hK6 => ?_)
  by_cases c0 : c < 0
  ·refine awp_plain 16 (by kernel_rfl) rfl (fun g4 hg4 => ?_)
   simp only [go_sem, c0, decide_true]
   refine hK6 _ ?_
   refine awp_ret ?_
   refine ends_ev rfl ?_
   simp only [go_sem]
   exact Co.of_eq (by rw [or3, if_neg h0, decide_eq_true c0])
  ·refine awp_plain 16 (by kernel_rfl) rfl (fun g4 hg4 => ?_)
   simp only [go_sem, c0, h0, decide_false]
   refine hK6 _ ?_
   refine awp_ret ?_
   refine ends_ev rfl ?_
   simp only [go_sem]
   exact Co.of_eq (by rw [or3, if_neg h0, decide_eq_false c0])
theorem edEq {X Y : Ed} (h : X ≠ Y) : ¬ (X.frm.method = Y.frm.method ∧ X.frm.name = Y.frm.name ∧ X.frm.idx = Y.frm.idx ∧ X.to.method = Y.to.method ∧ X.to.name = Y.to.name ∧ X.to.idx = Y.to.idx ∧ X.ins = Y.ins) :=
 fun ⟨a, b, c, d, e, f, g⟩ => h (Ed.eq_iff.2 ⟨Nd.eq_iff.2 ⟨a, b, c⟩, Nd.eq_iff.2 ⟨d, e, f⟩, g⟩)
theorem putE_same {e : Ed} {r : List Ed} : putE (e :: r) e = e :: r := by rw [putE, if_pos (goodEd.zero e)]
theorem putE_lt {e x : Ed} {r : List Ed} (h : cfEd e x < 0) : putE (x :: r) e = e :: x :: r := by rw [putE, if_neg (by omega), if_pos h]
theorem putE_gt {e x : Ed} {r : List Ed} (hne : x ≠ e) (h : ¬ cfEd e x < 0) : putE (x :: r) e = x :: putE r e := by
 rw [putE, if_neg (fun h0 => hne (cfEd_zero.1 h0).symm), if_neg h]
set_option maxRecDepth 100000 in
theorem refPut_calls (l : List Ed) (e : Ed) (hse : SE l) (he : okEd e) (hl : l.length ≤ 1000000) (g d : Nat) : ACalls E 132 [slEd l, encEd e] [] g d (slEd (putE l e)) [] := by
 refine acalls_of_awp (fn := Tryz.f132) (N := 53) Tryz.call132 Tryz.func132 rfl rfl (by simp) ?_
 simp only [go_sem]
 refine awp_seq_k (fun K1 hK1 => ?_)
 refine awp_plain 2 (by kernel_rfl) rfl (fun g0 hg0 => ?_)
 simp only [go_sem]
 refine hK1 _ ?_
 refine awp_seq_k (fun K2 hK2 => ?_)
 refine awp_plain 1 (by kernel_rfl) rfl (fun g1 hg1 => ?_)
 simp only [go_sem]
 refine hK2 _ ?_
 refine awp_seq_k (fun K3 hK3 => ?_)
 refine awp_seq_k (fun K4 hK4 => ?_)
 refine awp_plain 1 (by kernel_rfl) rfl (fun g2 hg2 => ?_)
 simp only [go_sem]
 refine hK4 _ ?_
 refine awp_block ?_
 refine awp_nil 5 50 7 rfl fun gn hgn => ?_
 have hn : gn ≠ g0 := fresh_g hgn 3 0 (by simp [go_sem])
 refine awp_loop (fun m st => ∃ k a i out, k ≤ l.length ∧ m = l.length - k ∧ a ≠ g0 ∧ ((out = l.take k ∧ putE l e = l.take k ++ putE (l.drop k) e) ∨ (out.length = k + 1 ∧ out ++ l.drop k = putE l e ∧ ∀ x ∈ l.drop k, cfEd e x < 0)) ∧
   Le { env := [(0, slEd l), (3, .ptr ⟨g0, 3, 0⟩ 0), (5, .own ⟨a, i, 0⟩ out.length), (6, dN k)], σ := [(⟨g0, 3, 0⟩, .box 50 (edC e)), (⟨a, i, 0⟩, .arr 50 7 (out.map encEd))] } st) l.length ?_ ?_
 ·refine ⟨0, gn, 0, [], Nat.zero_le _, rfl, hn, .inl ⟨rfl, rfl⟩, le_of ?_⟩
  simp only [go_sem, hn, Ne.symm hn, List.length_nil, List.map_nil]
  all_goals first | done | exact rfl | exact ⟨rfl, rfl⟩ | trivial
 ·rintro m st ⟨k, a, i, out, hk, rfl, ha, hcase, hle⟩
  refine awp_keep hle ?_
  clear hle
  refine awp_seq_k (fun K5 hK5 => ?_)
  refine awp_seq_k (fun K6 hK6 => ?_)
  by_cases hlt : k < l.length
  ·have hgm := getM (f := encEd) hlt
   have hdr := List.drop_eq_getElem_cons hlt
   have htk : l.take (k + 1) = l.take k ++ [l[k]] := by rw [List.take_add_one, List.getElem?_eq_getElem hlt]; rfl
   have hse2 : SE (l.drop k) := hse.sublist (List.drop_sublist k l)
   rw [hdr] at hcase hse2
   have hlen : (l.take k).length = k := List.length_take_of_le hk
   generalize l[k] = X at *
   refine awp_plain 4 (by kernel_rfl) rfl (fun g3 hg3 => ?_)
   simp only [go_sem, hlt, decide_true]
   refine hK6 _ ?_
   refine awp_t rfl ?_
   refine awp_skip ?_
   refine hK5 _ ?_
   refine awp_seq_k (fun K7 hK7 => ?_)
   refine awp_block ?_
   refine awp_seq_k (fun K8 hK8 => ?_)
   refine awp_seq_k (fun K9 hK9 => ?_)
   by_cases hX : X = e
   ·subst hX
    have hres : putE l X = l := by
     rcases hcase with ⟨-, h⟩ | ⟨-, -, h⟩
     ·rw [h, putE_same, ← hdr, List.take_append_drop]
     ·have := h X List.mem_cons_self
      rw [goodEd.zero] at this
      omega
    refine awp_anyq (by kernel_rfl) rfl (fun g5 hg5 ops5 KR5 hops5 hKR5 => ?_)
    refine qrun_last 6 hops5 ?_
    simp only [go_sem, hgm, decide_true, ha]
    refine hKR5 _ ?_
    refine hK9 _ ?_
    refine awp_t rfl ?_
    refine awp_seq_k (fun K10 hK10 => ?_)
    refine awp_plain 2 (by kernel_rfl) rfl (fun g6 hg6 => ?_)
    simp only [go_sem]
    refine hK10 _ ?_
    refine awp_ret ?_
    refine ends_ev rfl ?_
    simp only [go_sem]
    exact Co.of_eq (by rw [hres])
   ·have hne := edEq hX
    refine awp_anyq (by kernel_rfl) rfl (fun g5 hg5 ops5 KR5 hops5 hKR5 => ?_)
    refine qrun_last 6 hops5 ?_
    simp only [go_sem, hgm, hne, decide_false, ha]
    refine hKR5 _ ?_
    refine hK9 _ ?_
    refine awp_f rfl ?_
    refine awp_skip ?_
    refine hK8 _ ?_
    refine awp_seq_k (fun K11 hK11 => ?_)
    refine awp_seq_k (fun K12 hK12 => ?_)
    rcases hcase with ⟨rfl, hp⟩ | ⟨hol, hp, hall⟩
    ·refine awp_anyq (by kernel_rfl) rfl (fun g7 hg7 ops7 KR7 hops7 hKR7 => ?_)
     refine qrun_eval 10 hops7 ?_
     simp only [go_sem, hgm, decide_true, ha, hlen]
     by_cases h0 : cfEd e X < 0
     ·refine qrun_pure hops7 rfl rfl rfl (refLess_calls e X he _ _) (CoL.refl _) rfl ?_
      refine qrun_last 1 hops7 ?_
      simp only [go_sem, h0, decide_true]
      refine hKR7 _ ?_
      refine hK12 _ ?_
      refine awp_t rfl ?_
      refine awp_ops (by kernel_rfl) rfl (fun g8 hg8 ops8 KR8 hops8 hKR8 => ?_)
      refine aops_eval 3 hops8 ?_
      simp only [go_sem, ha]
      refine aops_app hops8 rfl rfl rfl rfl rfl es40 sz50 by50 ze50 rfl (by decide) ?_
      simp only [go_sem, Ne.symm ha, hlen]
      first | refine ⟨⟨by omega, by omega⟩, ?_⟩ | skip
      have hn8_g0 : g8 ≠ g0 := fresh_g hg8 3 0 (by simp [go_sem])
      refine aops_last 1 hops8 ?_
      simp only [go_sem]
      refine hKR8 _ ?_
      refine hK11 _ ?_
      refine awp_ops (by kernel_rfl) rfl (fun g9 hg9 ops9 KR9 hops9 hKR9 => ?_)
      refine aops_eval 6 hops9 ?_
      simp only [go_sem, hgm]
      refine aops_app hops9 rfl rfl rfl rfl rfl es40 sz50 by50 ze50 rfl (by decide) ?_
      simp only [go_sem, hlen, Ne.symm hn8_g0]
      first | refine ⟨⟨by omega, by omega⟩, ?_⟩ | skip
      have hn9_g0 : g9 ≠ g0 := fresh_g hg9 3 0 (by simp [go_sem, hn8_g0])
      refine aops_last 1 hops9 ?_
      simp only [go_sem]
      refine hKR9 _ ?_
      refine hK7 _ ?_
      refine awp_plain 3 (by kernel_rfl) rfl (fun g4 hg4 => ?_)
      simp only [go_sem]
      try simp (disch := omega) only [wrapN]
      refine ⟨_, ?_, k + 1, g9, 42, l.take k ++ [e] ++ [X], hlt, rfl, hn9_g0, .inr ⟨by simp [hlen], ?_, fun x hx => ?_⟩, le_of ?_⟩
      ·omega
      ·rw [hp, putE_lt h0]
       simp
      ·have h1 := (List.pairwise_cons.1 hse2).1 x hx
       have h2 := goodEd.trans e X x (by omega) (by omega)
       rcases Int.lt_or_eq_of_le h2 with h3 | h3
       ·exact h3
       ·have h4 := cfEd_zero.1 h3
        subst h4
        have := goodEd.anti e X
        omega
      simp only [go_sem, List.length_append, List.map_append, List.length_singleton, hlen, hn9_g0, Ne.symm hn9_g0]
      all_goals first | done | exact rfl | exact ⟨rfl, rfl⟩ | trivial | omega
     ·refine qrun_pure hops7 rfl rfl rfl (refLess_calls e X he _ _) (CoL.refl _) rfl ?_
      refine qrun_last 1 hops7 ?_
      simp only [go_sem, h0, decide_false]
      refine hKR7 _ ?_
      refine hK12 _ ?_
      refine awp_f rfl ?_
      refine awp_skip ?_
      refine hK11 _ ?_
      refine awp_ops (by kernel_rfl) rfl (fun g9 hg9 ops9 KR9 hops9 hKR9 => ?_)
      refine aops_eval 6 hops9 ?_
      simp only [go_sem, hgm]
      refine aops_app hops9 rfl rfl rfl rfl rfl es40 sz50 by50 ze50 rfl (by decide) ?_
      simp only [go_sem, Ne.symm ha, hlen]
      first | refine ⟨⟨by omega, by omega⟩, ?_⟩ | skip
      have hn9_g0 : g9 ≠ g0 := fresh_g hg9 3 0 (by simp [go_sem])
      refine aops_last 1 hops9 ?_
      simp only [go_sem]
      refine hKR9 _ ?_
      refine hK7 _ ?_
      refine awp_plain 3 (by kernel_rfl) rfl (fun g4 hg4 => ?_)
      simp only [go_sem]
      try simp (disch := omega) only [wrapN]
      refine ⟨_, ?_, k + 1, g9, 42, l.take k ++ [X], hlt, rfl, hn9_g0, .inl ⟨htk.symm, ?_⟩, le_of ?_⟩
      ·omega
      ·rw [hp, putE_gt hX h0, htk]
       simp
      simp only [go_sem, List.length_append, List.map_append, List.length_singleton, hlen, hn9_g0, Ne.symm hn9_g0]
      all_goals first | done | exact rfl | exact ⟨rfl, rfl⟩ | trivial | omega
    ·have hkk : ¬ ((out.length : Nat) : Int) = (k : Int) := by omega
     refine awp_anyq (by kernel_rfl) rfl (fun g7 hg7 ops7 KR7 hops7 hKR7 => ?_)
     refine qrun_last 12 hops7 ?_
     simp only [go_sem, hkk, decide_false]
     refine hKR7 _ ?_
     refine hK12 _ ?_
     refine awp_f rfl ?_
     refine awp_skip ?_
     refine hK11 _ ?_
     refine awp_ops (by kernel_rfl) rfl (fun g9 hg9 ops9 KR9 hops9 hKR9 => ?_)
     refine aops_eval 6 hops9 ?_
     simp only [go_sem, hgm]
     refine aops_app hops9 rfl rfl rfl rfl rfl es40 sz50 by50 ze50 rfl (by decide) ?_
     simp only [go_sem, Ne.symm ha]
     first | refine ⟨⟨by omega, by omega⟩, ?_⟩ | skip
     have hn9_g0 : g9 ≠ g0 := fresh_g hg9 3 0 (by simp [go_sem])
     refine aops_last 1 hops9 ?_
     simp only [go_sem]
     refine hKR9 _ ?_
     refine hK7 _ ?_
     refine awp_plain 3 (by kernel_rfl) rfl (fun g4 hg4 => ?_)
     simp only [go_sem]
     try simp (disch := omega) only [wrapN]
     refine ⟨_, ?_, k + 1, g9, 42, out ++ [X], hlt, rfl, hn9_g0, .inr ⟨by simp [hol], ?_, fun x hx => hall x (List.mem_cons_of_mem _ hx)⟩, le_of ?_⟩
     ·omega
     ·rw [← hp]
      simp
     simp only [go_sem, List.length_append, List.map_append, List.length_singleton, hn9_g0, Ne.symm hn9_g0]
     all_goals first | done | exact rfl | exact ⟨rfl, rfl⟩ | trivial | omega
  ·have : k = l.length := by omega
   subst this
   rw [List.drop_length, List.take_length] at hcase
   refine awp_plain 4 (by kernel_rfl) rfl (fun g3 hg3 => ?_)
   simp only [go_sem, hlt, decide_false]
   refine hK6 _ ?_
   refine awp_f rfl ?_
   refine awp_exit ?_
   refine hK3 _ ?_
   refine awp_seq_k (fun K13 hK13 => ?_)
   refine awp_seq_k (fun K14 hK14 => ?_)
   rcases hcase with ⟨rfl, hp⟩ | ⟨hol, hp, hall⟩
   ·refine awp_plain 5 (by kernel_rfl) rfl (fun g10 hg10 => ?_)
    simp only [go_sem, decide_true]
    refine hK14 _ ?_
    refine awp_t rfl ?_
    refine awp_ops (by kernel_rfl) rfl (fun g11 hg11 ops11 KR11 hops11 hKR11 => ?_)
    refine aops_eval 3 hops11 ?_
    simp only [go_sem, ha]
    refine aops_app hops11 rfl rfl rfl rfl rfl es40 sz50 by50 ze50 rfl (by decide) ?_
    simp only [go_sem, Ne.symm ha]
    first | refine ⟨⟨by omega, by omega⟩, ?_⟩ | skip
    refine aops_last 1 hops11 ?_
    simp only [go_sem]
    refine hKR11 _ ?_
    refine hK13 _ ?_
    refine awp_seq_k (fun K15 hK15 => ?_)
    refine awp_plain 2 (by kernel_rfl) rfl (fun g12 hg12 => ?_)
    simp only [go_sem]
    refine hK15 _ ?_
    refine awp_ret ?_
    refine ret_frz ⟨g11, 51, 0⟩ ?_
    simp only [go_sem]
    refine ends_ev rfl ?_
    simp only [go_sem]
    exact Co.of_eq (by rw [hp]; simp [putE]; rfl)
   ·have hkk : ¬ ((out.length : Nat) : Int) = (l.length : Int) := by omega
    refine awp_plain 5 (by kernel_rfl) rfl (fun g10 hg10 => ?_)
    simp only [go_sem, hkk, decide_false]
    refine hK14 _ ?_
    refine awp_f rfl ?_
    refine awp_skip ?_
    refine hK13 _ ?_
    refine awp_seq_k (fun K16 hK16 => ?_)
    refine awp_plain 2 (by kernel_rfl) rfl (fun g12 hg12 => ?_)
    simp only [go_sem]
    refine hK16 _ ?_
    refine awp_ret ?_
    refine ret_frz ⟨a, i, 0⟩ ?_
    simp only [go_sem, Ne.symm ha]
    refine ends_ev rfl ?_
    simp only [go_sem]
    exact Co.of_eq (by rw [← hp, List.append_nil])
end Go.Proofs.T
namespace Go.Proofs.T
open Go Go.Ab Go.RowKit
def vrC (p : Str × Nd) : List D := [encS p.1, dB p.2.method, encS p.2.name, dI p.2.idx]
def encVr (p : Str × Nd) : D := .agg (vrC p)
theorem encVr_cells (p : Str × Nd) : (encVr p).cells = vrC p := rfl
def slVr (s : Sc) : D := .sl false (s.map encVr)
attribute [go_sem] encVr_cells encVr vrC slVr
theorem okRowsVr (l : Sc) : okRows 4 (l.map encVr) := okRows_map 4 _ l fun _ => ⟨rfl, rfl⟩
set_option maxRecDepth 100000 in
theorem refVars_calls (s : Sc) (b : Bool) (o : Str) (ns : List Str) (hl : s.length + ns.length ≤ 3000000) (g d : Nat) : ACalls E 61 [slVr s, dB b, encS o, slS ns] [] g d (slVr (s ++ scN b o ns)) [] := by
 have hl1 : s.length ≤ 3000000 := by omega
 refine acalls_of_awp (fn := Tryz.f61) (N := 33) Tryz.call61 Tryz.func61 rfl rfl (by simp) ?_
 simp only [go_sem]
 refine awp_seq_k (fun K1 hK1 => ?_)
 refine awp_plain 1 (by kernel_rfl) rfl (fun g0 hg0 => ?_)
 simp only [go_sem]
 refine hK1 _ ?_
 refine awp_seq_k (fun K2 hK2 => ?_)
 refine awp_ops (by kernel_rfl) rfl (fun g1 hg1 ops1 KR1 hops1 hKR1 => ?_)
 refine aops_eval 2 hops1 ?_
 simp only [go_sem]
 refine aops_app hops1 rfl rfl rfl rfl rfl es111 sz169 by169 ze169 rfl (by decide) ?_
 simp only [go_sem, okRowsVr]
 first | refine ⟨⟨by omega, by omega⟩, ?_⟩ | skip
 refine aops_last 1 hops1 ?_
 simp only [go_sem]
 refine hKR1 _ ?_
 refine hK2 _ ?_
 refine awp_seq_k (fun K3 hK3 => ?_)
 refine awp_seq_k (fun K4 hK4 => ?_)
 refine awp_plain 1 (by kernel_rfl) rfl (fun g2 hg2 => ?_)
 simp only [go_sem]
 refine hK4 _ ?_
 refine awp_block ?_
 refine awp_loop (fun m st => ∃ k a i, k ≤ ns.length ∧ m = ns.length - k ∧ Le { env := [(1, dB b), (2, encS o), (3, slS ns), (9, .own ⟨a, i, 0⟩ (s ++ (scN b o ns).take k).length), (10, dN k)], σ := [(⟨a, i, 0⟩, .arr 169 4 ((s ++ (scN b o ns).take k).map encVr))] } st) ns.length ?_ ?_
 ·refine ⟨0, g1, 13, Nat.zero_le _, rfl, le_of ?_⟩
  simp only [go_sem, List.take_zero, List.append_nil]
  all_goals first | done | exact rfl | exact ⟨rfl, rfl⟩ | trivial | omega
 ·rintro m st ⟨k, a, i, hk, rfl, hle⟩
  refine awp_keep hle ?_
  clear hle
  refine awp_seq_k (fun K5 hK5 => ?_)
  refine awp_seq_k (fun K6 hK6 => ?_)
  by_cases hlt : k < ns.length
  ·have hk2 : k < (scN b o ns).length := by rwa [scN_len]
   have htk : (scN b o ns).take (k + 1) = (scN b o ns).take k ++ [(ns[k], ⟨b, o, (k : Int)⟩)] := by
    rw [List.take_add_one, List.getElem?_eq_getElem hk2, scN_get]
    rfl
   have hlen : (s ++ (scN b o ns).take k).length = s.length + k := by rw [List.length_append, List.length_take_of_le (by omega)]
   have hgm := getM (f := encS) hlt
   generalize hT : s ++ (scN b o ns).take k = T at *
   generalize ns[k] = X at *
   have hst : s ++ (scN b o ns).take (k + 1) = T ++ [(X, ⟨b, o, (k : Int)⟩)] := by rw [htk, ← List.append_assoc, hT]
   refine awp_plain 4 (by kernel_rfl) rfl (fun g3 hg3 => ?_)
   simp only [go_sem, hlt, decide_true]
   refine hK6 _ ?_
   refine awp_t rfl ?_
   refine awp_skip ?_
   refine hK5 _ ?_
   refine awp_seq_k (fun K7 hK7 => ?_)
   refine awp_block ?_
   refine awp_ops (by kernel_rfl) rfl (fun g5 hg5 ops5 KR5 hops5 hKR5 => ?_)
   refine aops_eval 11 hops5 ?_
   simp only [go_sem, hgm]
   refine aops_app hops5 rfl rfl rfl rfl rfl es111 sz169 by169 ze169 rfl (by decide) ?_
   simp only [go_sem]
   first | refine ⟨⟨by omega, by omega⟩, ?_⟩ | skip
   refine aops_last 1 hops5 ?_
   simp only [go_sem]
   refine hKR5 _ ?_
   refine hK7 _ ?_
   refine awp_plain 3 (by kernel_rfl) rfl (fun g4 hg4 => ?_)
   simp only [go_sem]
   try simp (disch := omega) only [wrapN]
   refine ⟨_, ?_, k + 1, g5, 31, hlt, rfl, le_of ?_⟩
   ·omega
   have hst2 : s.map encVr ++ ((scN b o ns).take (k + 1)).map encVr = T.map encVr ++ [encVr (X, ⟨b, o, (k : Int)⟩)] := by rw [← List.map_append, hst, List.map_append]; rfl
   have hst3 : s.length + ((scN b o ns).take (k + 1)).length = T.length + 1 := by rw [← List.length_append, hst, List.length_append]; rfl
   simp only [go_sem, hst2, hst3]
   all_goals first | done | exact rfl | exact ⟨rfl, rfl⟩ | trivial | omega
  ·have : k = ns.length := by omega
   subst this
   have hall : (scN b o ns).take ns.length = scN b o ns := List.take_of_length_le (by rw [scN_len]; exact Nat.le_refl _)
   refine awp_plain 4 (by kernel_rfl) rfl (fun g3 hg3 => ?_)
   simp only [go_sem, hlt, decide_false, hall]
   refine hK6 _ ?_
   refine awp_f rfl ?_
   refine awp_exit ?_
   refine hK3 _ ?_
   refine awp_seq_k (fun K8 hK8 => ?_)
   refine awp_plain 2 (by kernel_rfl) rfl (fun g6 hg6 => ?_)
   simp only [go_sem]
   refine hK8 _ ?_
   refine awp_ret ?_
   refine ret_frz ⟨a, i, 0⟩ ?_
   simp only [go_sem]
   refine ends_ev rfl ?_
   simp only [go_sem]
   exact Co.refl _
end Go.Proofs.T
namespace Go.Proofs.T
open Go Go.Ab Go.RowKit
theorem lookS_hit {s : Sc} {k : Nat} {v : Str} (hk : k < s.length) (h : s[k].1 = v) (hl : lookS (s.drop k) v = lookS s v) : lookS s v = some s[k].2 := by
 rw [← hl, List.drop_eq_getElem_cons hk, lookS, if_pos h]
theorem lookS_miss {s : Sc} {k : Nat} {v : Str} (hk : k < s.length) (h : s[k].1 ≠ v) (hl : lookS (s.drop k) v = lookS s v) : lookS (s.drop (k + 1)) v = lookS s v := by
 rw [← hl, List.drop_eq_getElem_cons hk, lookS, if_neg h]
theorem flatMem {α β : Type} (f : α → List β) {l : List α} {k : Nat} (h : k < l.length) : ((l.take k).flatMap f).length + (f l[k]).length ≤ (l.flatMap f).length := by
 have h1 := flatTake f h
 have h2 := flatLe f l (k + 1)
 rw [h1, List.length_append] at h2
 exact h2
set_option maxRecDepth 100000 in
theorem refIn_calls (s : Sc) (hs : ∀ p ∈ s, okNd p.2) (hsl : s.length ≤ 3000000) (to : Nd) (hto : okNd to) : ∀ (t : Ty), okTy t → ∀ (ins : Bool) (R : List Ed), SE R → R.length + (inE s to t ins).length ≤ 1000000 → ∀ (g d : Nat),
  ACalls E 101 [slEd R, slVr s, encNd to, encTy t, dB ins] [] g d (slEd ((inE s to t ins).foldl putE R)) [] := by
 refine Ty.ind fun t ih hok ins R hse hL g d => ?_
 have h := (okTy_iff t).1 hok
 rw [inE_eq, List.length_append] at hL
 by_cases h0 : t.args.length = 0
 ·have h0i : ((t.args.length : Nat) : Int) = 0 := by omega
  have hnil : t.args = [] := List.length_eq_zero_iff.1 h0
  refine acalls_of_awp (fn := Tryz.f101) (N := 60) Tryz.call101 Tryz.func101 rfl rfl (by simp) ?_
  simp only [go_sem]
  refine awp_seq_k (fun K1 hK1 => ?_)
  refine awp_plain 3 (by kernel_rfl) rfl (fun g0 hg0 => ?_)
  simp only [go_sem]
  refine hK1 _ ?_
  refine awp_seq_k (fun K2 hK2 => ?_)
  refine awp_seq_k (fun K3 hK3 => ?_)
  refine awp_plain 1 (by kernel_rfl) rfl (fun g1 hg1 => ?_)
  simp only [go_sem]
  refine hK3 _ ?_
  refine awp_block ?_
  refine awp_loop (fun m st => ∃ k, k ≤ s.length ∧ m = s.length - k ∧ lookS (s.drop k) t.name = lookS s t.name ∧ Le { env := [(0, slEd R), (1, slVr s), (4, dB ins), (7, .ptr ⟨g0, 7, 0⟩ 0), (8, .ptr ⟨g0, 8, 0⟩ 0), (11, dN k)], σ := [(⟨g0, 7, 0⟩, .box 32 (ndC to)), (⟨g0, 8, 0⟩, .box 25 (tyC t))] } st) s.length ?_ ?_
  ·refine ⟨0, Nat.zero_le _, rfl, rfl, le_of ?_⟩
   simp only [go_sem, tyC]
   all_goals first | done | exact rfl | exact ⟨rfl, rfl⟩ | trivial | omega
  ·rintro m st ⟨k, hk, rfl, hlk, hle⟩
   refine awp_keep hle ?_
   clear hle
   refine awp_seq_k (fun K4 hK4 => ?_)
   refine awp_seq_k (fun K5 hK5 => ?_)
   by_cases hsn : k < s.length
   ·have hgm := getM (f := encVr) hsn
    refine awp_plain 10 (by kernel_rfl) rfl (fun g2 hg2 => ?_)
    simp only [go_sem, hsn, h0i, decide_true, tyC]
    refine hK5 _ ?_
    refine awp_t rfl ?_
    refine awp_skip ?_
    refine hK4 _ ?_
    refine awp_seq_k (fun K6 hK6 => ?_)
    refine awp_block ?_
    refine awp_seq_k (fun K7 hK7 => ?_)
    by_cases hv : s[k].1 = t.name
    ·have hl := lookS_hit hsn hv hlk
     have hx := hs _ (List.getElem_mem hsn)
     have hres : (inE s to t ins).foldl putE R = putE R ⟨s[k].2, to, ins⟩ := by
      rw [inE_eq, hnil]
      unfold hdE
      rw [hl]
      simp only [h0, if_true]
      rfl
     have hlen : R.length ≤ 1000000 := by omega
     generalize s[k] = X at *
     refine awp_anyq (by kernel_rfl) rfl (fun g4 hg4 ops4 KR4 hops4 hKR4 => ?_)
     refine qrun_last 8 hops4 ?_
     simp only [go_sem, hgm, hv, decide_true]
     refine hKR4 _ ?_
     refine hK7 _ ?_
     refine awp_t rfl ?_
     refine awp_seq_k (fun K8 hK8 => ?_)
     refine awp_any 10 (by kernel_rfl) (by kernel_rfl) rfl (fun g5 hg5 ops5 KR5 hops5 hKR5 => ?_)
     refine qrun_eval 9 hops5 ?_
     simp only [go_sem, hgm]
     refine qrun_pure hops5 rfl rfl rfl (refPut_calls R ⟨X.2, to, ins⟩ hse ⟨hx, hto⟩ hlen _ _) (CoL.refl _) rfl ?_
     refine qrun_last 0 hops5 ?_
     simp only [go_sem]
     refine aops_last 1 hops5 ?_
     simp only [go_sem]
     refine hKR5 _ ?_
     refine hK8 _ ?_
     refine awp_ret ?_
     refine ends_ev rfl ?_
     simp only [go_sem]
     exact Co.of_eq (by rw [hres])
    ·have hl := lookS_miss hsn hv hlk
     generalize s[k] = X at *
     refine awp_anyq (by kernel_rfl) rfl (fun g4 hg4 ops4 KR4 hops4 hKR4 => ?_)
     refine qrun_last 8 hops4 ?_
     simp only [go_sem, hgm, hv, decide_false]
     refine hKR4 _ ?_
     refine hK7 _ ?_
     refine awp_f rfl ?_
     refine awp_skip ?_
     refine hK6 _ ?_
     refine awp_plain 3 (by kernel_rfl) rfl (fun g3 hg3 => ?_)
     simp only [go_sem]
     try simp (disch := omega) only [wrapN]
     refine ⟨_, ?_, k + 1, hsn, rfl, hl, le_of ?_⟩
     ·omega
     simp only [go_sem, tyC]
     all_goals first | done | exact rfl | exact ⟨rfl, rfl⟩ | trivial | omega
   ·have hres : (inE s to t ins).foldl putE R = (t.args.flatMap fun t => inE s to t true).foldl putE R := by
     have hk2 : s.drop k = [] := List.drop_eq_nil_of_le (by omega)
     rw [hk2] at hlk
     rw [inE_eq]
     unfold hdE
     rw [← hlk]
     rfl
    refine awp_plain 10 (by kernel_rfl) rfl (fun g2 hg2 => ?_)
    simp only [go_sem, hsn, decide_false, tyC]
    refine hK5 _ ?_
    refine awp_f rfl ?_
    refine awp_exit ?_
    refine hK2 _ ?_
    refine awp_seq_k (fun K9 hK9 => ?_)
    refine awp_seq_k (fun K10 hK10 => ?_)
    refine awp_plain 1 (by kernel_rfl) rfl (fun g6 hg6 => ?_)
    simp only [go_sem]
    refine hK10 _ ?_
    refine awp_block ?_
    refine awp_loop (fun m st => ∃ k, k ≤ t.args.length ∧ m = t.args.length - k ∧ Le { env := [(0, slEd (((t.args.take k).flatMap fun t => inE s to t true).foldl putE R)), (1, slVr s), (7, .ptr ⟨g0, 7, 0⟩ 0), (8, .ptr ⟨g0, 8, 0⟩ 0), (12, dN k)], σ := [(⟨g0, 7, 0⟩, .box 32 (ndC to)), (⟨g0, 8, 0⟩, .box 25 (tyC t))] } st) t.args.length ?_ ?_
    ·refine ⟨0, Nat.zero_le _, rfl, le_of ?_⟩
     simp only [go_sem, List.take_zero, List.flatMap_nil, List.foldl_nil, tyC]
     all_goals first | done | exact rfl | exact ⟨rfl, rfl⟩ | trivial | omega
    ·rintro m st ⟨k, hk, rfl, hle⟩
     refine awp_keep hle ?_
     clear hle
     refine awp_seq_k (fun K11 hK11 => ?_)
     refine awp_seq_k (fun K12 hK12 => ?_)
     by_cases hlt : k < t.args.length
     ·have hfl : ((t.args.take (k + 1)).flatMap fun t => inE s to t true).foldl putE R = (inE s to t.args[k] true).foldl putE (((t.args.take k).flatMap fun t => inE s to t true).foldl putE R) := by
       rw [flatTake _ hlt, List.foldl_append]
      have hgm := getM (f := encTy) hlt
      have hmem := List.getElem_mem hlt
      have hfm := flatMem (fun t => inE s to t true) hlt
      have hq := putAll_len ((t.args.take k).flatMap fun t => inE s to t true) R
      have hse2 := putAll_se ((t.args.take k).flatMap fun t => inE s to t true) R hse
      generalize t.args[k] = X at *
      generalize ((t.args.take k).flatMap fun t => inE s to t true).foldl putE R = R2 at *
      refine awp_plain 5 (by kernel_rfl) rfl (fun g7 hg7 => ?_)
      simp only [go_sem, hlt, decide_true, tyC]
      refine hK12 _ ?_
      refine awp_t rfl ?_
      refine awp_skip ?_
      refine hK11 _ ?_
      refine awp_seq_k (fun K13 hK13 => ?_)
      refine awp_block ?_
      refine awp_any 9 (by kernel_rfl) (by kernel_rfl) rfl (fun g9 hg9 ops9 KR9 hops9 hKR9 => ?_)
      refine qrun_eval 8 hops9 ?_
      simp only [go_sem, hgm]
      refine qrun_pure hops9 rfl rfl rfl (ih X hmem (h.2.2 X hmem) true R2 hse2 (by omega) _ _) (CoL.refl _) rfl ?_
      refine qrun_last 0 hops9 ?_
      simp only [go_sem]
      refine aops_last 1 hops9 ?_
      simp only [go_sem]
      refine hKR9 _ ?_
      refine hK13 _ ?_
      refine awp_plain 3 (by kernel_rfl) rfl (fun g8 hg8 => ?_)
      simp only [go_sem]
      try simp (disch := omega) only [wrapN]
      refine ⟨_, ?_, k + 1, hlt, rfl, le_of ?_⟩
      ·omega
      simp only [go_sem, hfl, tyC]
      all_goals first | done | exact rfl | exact ⟨rfl, rfl⟩ | trivial | omega
     ·have : k = t.args.length := by omega
      subst this
      refine awp_plain 5 (by kernel_rfl) rfl (fun g7 hg7 => ?_)
      simp only [go_sem, hlt, decide_false, tyC]
      refine hK12 _ ?_
      refine awp_f rfl ?_
      refine awp_exit ?_
      refine hK9 _ ?_
      refine awp_seq_k (fun K14 hK14 => ?_)
      refine awp_plain 2 (by kernel_rfl) rfl (fun g10 hg10 => ?_)
      simp only [go_sem]
      refine hK14 _ ?_
      refine awp_ret ?_
      refine ends_ev rfl ?_
      simp only [go_sem]
      exact Co.of_eq (by rw [hres])
 ·have h0i : ¬ ((t.args.length : Nat) : Int) = 0 := by omega
  have hhd : hdE s to t ins = [] := by
   unfold hdE
   cases lookS s t.name with
   | none => rfl
   | some x => simp only [h0, if_false]
  have hres : (inE s to t ins).foldl putE R = (t.args.flatMap fun t => inE s to t true).foldl putE R := by rw [inE_eq, hhd, List.nil_append]
  refine acalls_of_awp (fn := Tryz.f101) (N := 60) Tryz.call101 Tryz.func101 rfl rfl (by simp) ?_
  simp only [go_sem]
  refine awp_seq_k (fun K1 hK1 => ?_)
  refine awp_plain 3 (by kernel_rfl) rfl (fun g0 hg0 => ?_)
  simp only [go_sem]
  refine hK1 _ ?_
  refine awp_seq_k (fun K2 hK2 => ?_)
  refine awp_seq_k (fun K3 hK3 => ?_)
  refine awp_plain 1 (by kernel_rfl) rfl (fun g1 hg1 => ?_)
  simp only [go_sem]
  refine hK3 _ ?_
  refine awp_block ?_
  refine awp_loop (fun m st => Le { env := [(0, slEd R), (1, slVr s), (7, .ptr ⟨g0, 7, 0⟩ 0), (8, .ptr ⟨g0, 8, 0⟩ 0), (11, dN 0)], σ := [(⟨g0, 7, 0⟩, .box 32 (ndC to)), (⟨g0, 8, 0⟩, .box 25 (tyC t))] } st) 0 ?_ ?_
  ·refine le_of ?_
   simp only [go_sem, tyC]
   all_goals first | done | exact rfl | exact ⟨rfl, rfl⟩ | trivial | omega
  ·rintro m st hle
   refine awp_keep hle ?_
   clear hle
   refine awp_seq_k (fun K4 hK4 => ?_)
   refine awp_seq_k (fun K5 hK5 => ?_)
   by_cases hsn : 0 < s.length
   ·refine awp_plain 10 (by kernel_rfl) rfl (fun g2 hg2 => ?_)
    simp only [go_sem, hsn, h0i, decide_true, decide_false, tyC]
    refine hK5 _ ?_
    refine awp_f rfl ?_
    refine awp_exit ?_
    refine hK2 _ ?_
    refine awp_seq_k (fun K6 hK6 => ?_)
    refine awp_seq_k (fun K7 hK7 => ?_)
    refine awp_plain 1 (by kernel_rfl) rfl (fun g6 hg6 => ?_)
    simp only [go_sem]
    refine hK7 _ ?_
    refine awp_block ?_
    refine awp_loop (fun m st => ∃ k, k ≤ t.args.length ∧ m = t.args.length - k ∧ Le { env := [(0, slEd (((t.args.take k).flatMap fun t => inE s to t true).foldl putE R)), (1, slVr s), (7, .ptr ⟨g0, 7, 0⟩ 0), (8, .ptr ⟨g0, 8, 0⟩ 0), (12, dN k)], σ := [(⟨g0, 7, 0⟩, .box 32 (ndC to)), (⟨g0, 8, 0⟩, .box 25 (tyC t))] } st) t.args.length ?_ ?_
    ·refine ⟨0, Nat.zero_le _, rfl, le_of ?_⟩
     simp only [go_sem, List.take_zero, List.flatMap_nil, List.foldl_nil, tyC]
     all_goals first | done | exact rfl | exact ⟨rfl, rfl⟩ | trivial | omega
    ·rintro m st ⟨k, hk, rfl, hle⟩
     refine awp_keep hle ?_
     clear hle
     refine awp_seq_k (fun K8 hK8 => ?_)
     refine awp_seq_k (fun K9 hK9 => ?_)
     by_cases hlt : k < t.args.length
     ·have hfl : ((t.args.take (k + 1)).flatMap fun t => inE s to t true).foldl putE R = (inE s to t.args[k] true).foldl putE (((t.args.take k).flatMap fun t => inE s to t true).foldl putE R) := by
       rw [flatTake _ hlt, List.foldl_append]
      have hgm := getM (f := encTy) hlt
      have hmem := List.getElem_mem hlt
      have hfm := flatMem (fun t => inE s to t true) hlt
      have hq := putAll_len ((t.args.take k).flatMap fun t => inE s to t true) R
      have hse2 := putAll_se ((t.args.take k).flatMap fun t => inE s to t true) R hse
      generalize t.args[k] = X at *
      generalize ((t.args.take k).flatMap fun t => inE s to t true).foldl putE R = R2 at *
      refine awp_plain 5 (by kernel_rfl) rfl (fun g7 hg7 => ?_)
      simp only [go_sem, hlt, decide_true, tyC]
      refine hK9 _ ?_
      refine awp_t rfl ?_
      refine awp_skip ?_
      refine hK8 _ ?_
      refine awp_seq_k (fun K10 hK10 => ?_)
      refine awp_block ?_
      refine awp_any 9 (by kernel_rfl) (by kernel_rfl) rfl (fun g9 hg9 ops9 KR9 hops9 hKR9 => ?_)
      refine qrun_eval 8 hops9 ?_
      simp only [go_sem, hgm]
      refine qrun_pure hops9 rfl rfl rfl (ih X hmem (h.2.2 X hmem) true R2 hse2 (by omega) _ _) (CoL.refl _) rfl ?_
      refine qrun_last 0 hops9 ?_
      simp only [go_sem]
      refine aops_last 1 hops9 ?_
      simp only [go_sem]
      refine hKR9 _ ?_
      refine hK10 _ ?_
      refine awp_plain 3 (by kernel_rfl) rfl (fun g8 hg8 => ?_)
      simp only [go_sem]
      try simp (disch := omega) only [wrapN]
      refine ⟨_, ?_, k + 1, hlt, rfl, le_of ?_⟩
      ·omega
      simp only [go_sem, hfl, tyC]
      all_goals first | done | exact rfl | exact ⟨rfl, rfl⟩ | trivial | omega
     ·have : k = t.args.length := by omega
      subst this
      refine awp_plain 5 (by kernel_rfl) rfl (fun g7 hg7 => ?_)
      simp only [go_sem, hlt, decide_false, tyC]
      refine hK9 _ ?_
      refine awp_f rfl ?_
      refine awp_exit ?_
      refine hK6 _ ?_
      refine awp_seq_k (fun K11 hK11 => ?_)
      refine awp_plain 2 (by kernel_rfl) rfl (fun g10 hg10 => ?_)
      simp only [go_sem]
      refine hK11 _ ?_
      refine awp_ret ?_
      refine ends_ev rfl ?_
      simp only [go_sem]
      exact Co.of_eq (by rw [hres])
   ·refine awp_plain 10 (by kernel_rfl) rfl (fun g2 hg2 => ?_)
    simp only [go_sem, hsn, decide_false, tyC]
    refine hK5 _ ?_
    refine awp_f rfl ?_
    refine awp_exit ?_
    refine hK2 _ ?_
    refine awp_seq_k (fun K12 hK12 => ?_)
    refine awp_seq_k (fun K13 hK13 => ?_)
    refine awp_plain 1 (by kernel_rfl) rfl (fun g6 hg6 => ?_)
    simp only [go_sem]
    refine hK13 _ ?_
    refine awp_block ?_
    refine awp_loop (fun m st => ∃ k, k ≤ t.args.length ∧ m = t.args.length - k ∧ Le { env := [(0, slEd (((t.args.take k).flatMap fun t => inE s to t true).foldl putE R)), (1, slVr s), (7, .ptr ⟨g0, 7, 0⟩ 0), (8, .ptr ⟨g0, 8, 0⟩ 0), (12, dN k)], σ := [(⟨g0, 7, 0⟩, .box 32 (ndC to)), (⟨g0, 8, 0⟩, .box 25 (tyC t))] } st) t.args.length ?_ ?_
    ·refine ⟨0, Nat.zero_le _, rfl, le_of ?_⟩
     simp only [go_sem, List.take_zero, List.flatMap_nil, List.foldl_nil, tyC]
     all_goals first | done | exact rfl | exact ⟨rfl, rfl⟩ | trivial | omega
    ·rintro m st ⟨k, hk, rfl, hle⟩
     refine awp_keep hle ?_
     clear hle
     refine awp_seq_k (fun K14 hK14 => ?_)
     refine awp_seq_k (fun K15 hK15 => ?_)
     by_cases hlt : k < t.args.length
     ·have hfl : ((t.args.take (k + 1)).flatMap fun t => inE s to t true).foldl putE R = (inE s to t.args[k] true).foldl putE (((t.args.take k).flatMap fun t => inE s to t true).foldl putE R) := by
       rw [flatTake _ hlt, List.foldl_append]
      have hgm := getM (f := encTy) hlt
      have hmem := List.getElem_mem hlt
      have hfm := flatMem (fun t => inE s to t true) hlt
      have hq := putAll_len ((t.args.take k).flatMap fun t => inE s to t true) R
      have hse2 := putAll_se ((t.args.take k).flatMap fun t => inE s to t true) R hse
      generalize t.args[k] = X at *
      generalize ((t.args.take k).flatMap fun t => inE s to t true).foldl putE R = R2 at *
      refine awp_plain 5 (by kernel_rfl) rfl (fun g7 hg7 => ?_)
      simp only [go_sem, hlt, decide_true, tyC]
      refine hK15 _ ?_
      refine awp_t rfl ?_
      refine awp_skip ?_
      refine hK14 _ ?_
      refine awp_seq_k (fun K16 hK16 => ?_)
      refine awp_block ?_
      refine awp_any 9 (by kernel_rfl) (by kernel_rfl) rfl (fun g9 hg9 ops9 KR9 hops9 hKR9 => ?_)
      refine qrun_eval 8 hops9 ?_
      simp only [go_sem, hgm]
      refine qrun_pure hops9 rfl rfl rfl (ih X hmem (h.2.2 X hmem) true R2 hse2 (by omega) _ _) (CoL.refl _) rfl ?_
      refine qrun_last 0 hops9 ?_
      simp only [go_sem]
      refine aops_last 1 hops9 ?_
      simp only [go_sem]
      refine hKR9 _ ?_
      refine hK16 _ ?_
      refine awp_plain 3 (by kernel_rfl) rfl (fun g8 hg8 => ?_)
      simp only [go_sem]
      try simp (disch := omega) only [wrapN]
      refine ⟨_, ?_, k + 1, hlt, rfl, le_of ?_⟩
      ·omega
      simp only [go_sem, hfl, tyC]
      all_goals first | done | exact rfl | exact ⟨rfl, rfl⟩ | trivial | omega
     ·have : k = t.args.length := by omega
      subst this
      refine awp_plain 5 (by kernel_rfl) rfl (fun g7 hg7 => ?_)
      simp only [go_sem, hlt, decide_false, tyC]
      refine hK15 _ ?_
      refine awp_f rfl ?_
      refine awp_exit ?_
      refine hK12 _ ?_
      refine awp_seq_k (fun K17 hK17 => ?_)
      refine awp_plain 2 (by kernel_rfl) rfl (fun g10 hg10 => ?_)
      simp only [go_sem]
      refine hK17 _ ?_
      refine awp_ret ?_
      refine ends_ev rfl ?_
      simp only [go_sem]
      exact Co.of_eq (by rw [hres])
end Go.Proofs.T
namespace Go.Proofs.T
open Go Go.Ab Go.RowKit
theorem argsE_len (sc : Sc) (b : Bool) (o : Str) : ∀ (l r : List Ty) (i : Nat), (argsE sc (l ++ r) b o i).length = (argsE sc l b o i).length + (argsE sc r b o (i + l.length)).length
 | [], r, i => by simp [argsE]
 | x :: l, r, i => by
  simp only [List.cons_append, argsE, List.length_append, argsE_len sc b o l r (i + 1), List.length_cons]
  rw [show i + 1 + l.length = i + (l.length + 1) by omega]
  omega
theorem argsE_le (sc : Sc) (b : Bool) (o : Str) (l : List Ty) (k : Nat) : (argsE sc (l.take k) b o 0).length ≤ (argsE sc l b o 0).length := by
 have := argsE_len sc b o (l.take k) (l.drop k) 0
 rw [List.take_append_drop] at this
 omega
theorem argsE_mem (sc : Sc) (b : Bool) (o : Str) (l : List Ty) (k : Nat) (h : k < l.length) : (argsE sc (l.take k) b o 0).length + ((inE sc ⟨b, o, (k : Int)⟩ l[k] false).length + (visE sc l[k]).length) ≤ (argsE sc l b o 0).length := by
 have h1 := argsE_le sc b o l (k + 1)
 rw [argsE_take _ _ _ _ _ h, List.length_append, List.length_append] at h1
 exact h1
abbrev RArg (s : Sc) (x : Ty) : Prop := ∀ (R : List Ed), SE R → R.length + (visE s x).length ≤ 1000000 → ∀ (g d : Nat), ACalls E 65 [slEd R, slVr s, dB false, encS x.name, slTy x.args] [] g d (slEd ((visE s x).foldl putE R)) []
set_option maxRecDepth 100000 in
theorem refArgsV_calls (s : Sc) (hs : ∀ p ∈ s, okNd p.2) (hsl : s.length ≤ 3000000) (l : List Ty) (hl : l.length ≤ 9223372036854775807) (hok : ∀ x ∈ l, okTy x) (hv : ∀ x ∈ l, RArg s x) (b : Bool) (o : Str) (ho : o.size ≤ 9223372036854775807) (R : List Ed) (hse : SE R) (hL : R.length + (argsE s l b o 0).length ≤ 1000000) (g d : Nat) :
  ACalls E 65 [slEd R, slVr s, dB b, encS o, slTy l] [] g d (slEd ((argsE s l b o 0).foldl putE R)) [] := by
 refine acalls_of_awp (fn := Tryz.f65) (N := 43) Tryz.call65 Tryz.func65 rfl rfl (by simp) ?_
 simp only [go_sem]
 refine awp_seq_k (fun K1 hK1 => ?_)
 refine awp_plain 1 (by kernel_rfl) rfl (fun g0 hg0 => ?_)
 simp only [go_sem]
 refine hK1 _ ?_
 refine awp_seq_k (fun K2 hK2 => ?_)
 refine awp_seq_k (fun K3 hK3 => ?_)
 refine awp_plain 1 (by kernel_rfl) rfl (fun g1 hg1 => ?_)
 simp only [go_sem]
 refine hK3 _ ?_
 refine awp_block ?_
 refine awp_loop (fun m st => ∃ k, k ≤ l.length ∧ m = l.length - k ∧ Le { env := [(0, slEd ((argsE s (l.take k) b o 0).foldl putE R)), (1, slVr s), (2, dB b), (3, encS o), (4, slTy l), (11, dN k)], σ := [] } st) l.length ?_ ?_
 ·refine ⟨0, Nat.zero_le _, rfl, le_of ?_⟩
  simp only [go_sem, List.take_zero, argsE, List.foldl_nil]
  all_goals first | done | exact rfl | exact ⟨rfl, rfl⟩ | trivial | omega
 ·rintro m st ⟨k, hk, rfl, hle⟩
  refine awp_keep hle ?_
  clear hle
  refine awp_seq_k (fun K4 hK4 => ?_)
  refine awp_seq_k (fun K5 hK5 => ?_)
  by_cases hlt : k < l.length
  ·have hfl : (argsE s (l.take (k + 1)) b o 0).foldl putE R = (visE s l[k]).foldl putE ((inE s ⟨b, o, (k : Int)⟩ l[k] false).foldl putE ((argsE s (l.take k) b o 0).foldl putE R)) := by
    rw [argsE_take _ _ _ _ _ hlt, List.foldl_append, List.foldl_append]
   have hgm := getM (f := encTy) hlt
   have hmem := List.getElem_mem hlt
   have hfm := argsE_mem s b o l k hlt
   have hq := putAll_len (argsE s (l.take k) b o 0) R
   have hse2 := putAll_se (argsE s (l.take k) b o 0) R hse
   generalize l[k] = X at *
   generalize (argsE s (l.take k) b o 0).foldl putE R = R2 at *
   have hq2 := putAll_len (inE s ⟨b, o, (k : Int)⟩ X false) R2
   have hse3 := putAll_se (inE s ⟨b, o, (k : Int)⟩ X false) R2 hse2
   refine awp_plain 4 (by kernel_rfl) rfl (fun g2 hg2 => ?_)
   simp only [go_sem, hlt, decide_true]
   refine hK5 _ ?_
   refine awp_t rfl ?_
   refine awp_skip ?_
   refine hK4 _ ?_
   refine awp_seq_k (fun K6 hK6 => ?_)
   refine awp_block ?_
   refine awp_seq_k (fun K7 hK7 => ?_)
   refine awp_ops (by kernel_rfl) rfl (fun g4 hg4 ops4 KR4 hops4 hKR4 => ?_)
   refine aops_eval 10 hops4 ?_
   simp only [go_sem, hgm]
   refine aops_pure hops4 rfl rfl rfl (refIn_calls s hs hsl ⟨b, o, (k : Int)⟩ ho X (hok X hmem) false R2 hse2 (by omega) _ _) (CoL.refl _) ?_
   refine aops_last 1 hops4 ?_
   simp only [go_sem]
   refine hKR4 _ ?_
   refine hK7 _ ?_
   generalize (inE s ⟨b, o, (k : Int)⟩ X false).foldl putE R2 = R3 at *
   refine awp_any 13 (by kernel_rfl) (by kernel_rfl) rfl (fun g5 hg5 ops5 KR5 hops5 hKR5 => ?_)
   refine qrun_eval 12 hops5 ?_
   simp only [go_sem, hgm]
   refine qrun_pure hops5 rfl rfl rfl (hv X hmem R3 hse3 (by omega) _ _) (CoL.refl _) rfl ?_
   refine qrun_last 0 hops5 ?_
   simp only [go_sem]
   refine aops_last 1 hops5 ?_
   simp only [go_sem]
   refine hKR5 _ ?_
   refine hK6 _ ?_
   refine awp_plain 3 (by kernel_rfl) rfl (fun g3 hg3 => ?_)
   simp only [go_sem]
   try simp (disch := omega) only [wrapN]
   refine ⟨_, ?_, k + 1, hlt, rfl, le_of ?_⟩
   ·omega
   simp only [go_sem, hfl]
   all_goals first | done | exact rfl | exact ⟨rfl, rfl⟩ | trivial | omega
  ·have : k = l.length := by omega
   subst this
   refine awp_plain 4 (by kernel_rfl) rfl (fun g2 hg2 => ?_)
   simp only [go_sem, hlt, decide_false]
   refine hK5 _ ?_
   refine awp_f rfl ?_
   refine awp_exit ?_
   refine hK2 _ ?_
   refine awp_seq_k (fun K8 hK8 => ?_)
   refine awp_plain 2 (by kernel_rfl) rfl (fun g6 hg6 => ?_)
   simp only [go_sem]
   refine hK8 _ ?_
   refine awp_ret ?_
   refine ends_ev rfl ?_
   simp only [go_sem]
   exact Co.refl _
theorem refVis_calls (s : Sc) (hs : ∀ p ∈ s, okNd p.2) (hsl : s.length ≤ 3000000) : ∀ (t : Ty), okTy t → RArg s t := by
 refine Ty.ind fun t ih hok R hse hL g d => ?_
 have h := (okTy_iff t).1 hok
 rw [visE_eq] at hL ⊢
 exact refArgsV_calls s hs hsl t.args h.2.1 h.2.2 (fun x hx => ih x hx (h.2.2 x hx)) false t.name h.1 R hse hL g d
theorem refArgs_calls (s : Sc) (hs : ∀ p ∈ s, okNd p.2) (hsl : s.length ≤ 3000000) (l : List Ty) (hl : l.length ≤ 9223372036854775807) (hok : ∀ x ∈ l, okTy x) (b : Bool) (o : Str) (ho : o.size ≤ 9223372036854775807) (R : List Ed) (hse : SE R) (hL : R.length + (argsE s l b o 0).length ≤ 1000000) (g d : Nat) :
  ACalls E 65 [slEd R, slVr s, dB b, encS o, slTy l] [] g d (slEd ((argsE s l b o 0).foldl putE R)) [] :=
 refArgsV_calls s hs hsl l hl hok (fun x hx => refVis_calls s hs hsl x (hok x hx)) b o ho R hse hL g d
set_option maxRecDepth 100000 in
theorem refSg_calls (s : Sc) (hs : ∀ p ∈ s, okNd p.2) (hsl : s.length ≤ 3000000) (x : Sig) (hx : smSi x) (R : List Ed) (hse : SE R) (hL : R.length + (siE s x).length ≤ 1000000) (g d : Nat) :
  ACalls E 63 [slEd R, slVr s, encSi x] [] g d (slEd ((siE s x).foldl putE R)) [] := by
 obtain ⟨h1, h2, h4, h6⟩ := hx
 obtain ⟨R1, hR1⟩ : ∃ R1, R1 = (x.formals.flatMap fun f => visE s f.bound).foldl putE R := ⟨_, rfl⟩
 have hres : (siE s x).foldl putE R = (visE s x.result).foldl putE ((x.params.flatMap fun f => visE s f.type).foldl putE R1) := by
  unfold siE
  rw [List.foldl_append, List.foldl_append, hR1]
 unfold siE at hL
 rw [List.length_append, List.length_append] at hL
 have hq4 := putAll_len (x.formals.flatMap fun f => visE s f.bound) R
 have hse4 := putAll_se (x.formals.flatMap fun f => visE s f.bound) R hse
 rw [← hR1] at hq4 hse4
 refine acalls_of_awp (fn := Tryz.f63) (N := 66) Tryz.call63 Tryz.func63 rfl rfl (by simp) ?_
 simp only [go_sem]
 refine awp_seq_k (fun K1 hK1 => ?_)
 refine awp_plain 2 (by kernel_rfl) rfl (fun g0 hg0 => ?_)
 simp only [go_sem]
 refine hK1 _ ?_
 refine awp_seq_k (fun K2 hK2 => ?_)
 refine awp_seq_k (fun K3 hK3 => ?_)
 refine awp_plain 1 (by kernel_rfl) rfl (fun g1 hg1 => ?_)
 simp only [go_sem]
 refine hK3 _ ?_
 refine awp_block ?_
 refine awp_loop (fun m st => ∃ k, k ≤ x.formals.length ∧ m = x.formals.length - k ∧ Le { env := [(0, slEd (((x.formals.take k).flatMap fun f => visE s f.bound).foldl putE R)), (1, slVr s), (5, .ptr ⟨g0, 5, 0⟩ 0), (7, dN k)], σ := [(⟨g0, 5, 0⟩, .box 69 (siC x))] } st) x.formals.length ?_ ?_
 ·refine ⟨0, Nat.zero_le _, rfl, le_of ?_⟩
  simp only [go_sem, List.take_zero, List.flatMap_nil, List.foldl_nil, siC]
  all_goals first | done | exact rfl | exact ⟨rfl, rfl⟩ | trivial | omega
 ·rintro m st ⟨k, hk, rfl, hle⟩
  refine awp_keep hle ?_
  clear hle
  refine awp_seq_k (fun K4 hK4 => ?_)
  refine awp_seq_k (fun K5 hK5 => ?_)
  by_cases hlt : k < x.formals.length
  ·have hfl : ((x.formals.take (k + 1)).flatMap fun f => visE s f.bound).foldl putE R = (visE s x.formals[k].bound).foldl putE (((x.formals.take k).flatMap fun f => visE s f.bound).foldl putE R) := by
    rw [flatTake _ hlt, List.foldl_append]
   have hgm := getM (f := encFm) hlt
   have hmem := h2.2 _ (List.getElem_mem hlt)
   have hfm := flatMem (fun f => visE s f.bound) hlt
   have hq := putAll_len ((x.formals.take k).flatMap fun f => visE s f.bound) R
   have hse2 := putAll_se ((x.formals.take k).flatMap fun f => visE s f.bound) R hse
   generalize x.formals[k] = X at *
   generalize ((x.formals.take k).flatMap fun f => visE s f.bound).foldl putE R = R2 at *
   refine awp_plain 5 (by kernel_rfl) rfl (fun g2 hg2 => ?_)
   simp only [go_sem, hlt, decide_true, siC]
   refine hK5 _ ?_
   refine awp_t rfl ?_
   refine awp_skip ?_
   refine hK4 _ ?_
   refine awp_seq_k (fun K6 hK6 => ?_)
   refine awp_block ?_
   refine awp_any 17 (by kernel_rfl) (by kernel_rfl) rfl (fun g4 hg4 ops4 KR4 hops4 hKR4 => ?_)
   refine qrun_eval 16 hops4 ?_
   simp only [go_sem, hgm]
   refine qrun_pure hops4 rfl rfl rfl (refVis_calls s hs hsl X.bound (smTy.ok _ hmem.2) R2 hse2 (by omega) _ _) (CoL.refl _) rfl ?_
   refine qrun_last 0 hops4 ?_
   simp only [go_sem]
   refine aops_last 1 hops4 ?_
   simp only [go_sem]
   refine hKR4 _ ?_
   refine hK6 _ ?_
   refine awp_plain 3 (by kernel_rfl) rfl (fun g3 hg3 => ?_)
   simp only [go_sem]
   try simp (disch := omega) only [wrapN]
   refine ⟨_, ?_, k + 1, hlt, rfl, le_of ?_⟩
   ·omega
   simp only [go_sem, hfl]
   all_goals first | done | exact rfl | exact ⟨rfl, rfl⟩ | trivial | omega
  ·have : k = x.formals.length := by omega
   subst this
   refine awp_plain 5 (by kernel_rfl) rfl (fun g2 hg2 => ?_)
   simp only [go_sem, hlt, decide_false, siC]
   refine hK5 _ ?_
   refine awp_f rfl ?_
   refine awp_exit ?_
   refine hK2 _ ?_
   refine awp_seq_k (fun K7 hK7 => ?_)
   refine awp_seq_k (fun K8 hK8 => ?_)
   rw [← hR1]
   refine awp_plain 1 (by kernel_rfl) rfl (fun g5 hg5 => ?_)
   simp only [go_sem]
   refine hK8 _ ?_
   refine awp_block ?_
   refine awp_loop (fun m st => ∃ k, k ≤ x.params.length ∧ m = x.params.length - k ∧ Le { env := [(0, slEd (((x.params.take k).flatMap fun f => visE s f.type).foldl putE R1)), (1, slVr s), (5, .ptr ⟨g0, 5, 0⟩ 0), (8, dN k)], σ := [(⟨g0, 5, 0⟩, .box 69 (siC x))] } st) x.params.length ?_ ?_
   ·refine ⟨0, Nat.zero_le _, rfl, le_of ?_⟩
    simp only [go_sem, List.take_zero, List.flatMap_nil, List.foldl_nil, siC]
    all_goals first | done | exact rfl | exact ⟨rfl, rfl⟩ | trivial | omega
   ·rintro m st ⟨k, hk, rfl, hle⟩
    refine awp_keep hle ?_
    clear hle
    refine awp_seq_k (fun K9 hK9 => ?_)
    refine awp_seq_k (fun K10 hK10 => ?_)
    by_cases hlt : k < x.params.length
    ·have hfl : ((x.params.take (k + 1)).flatMap fun f => visE s f.type).foldl putE R1 = (visE s x.params[k].type).foldl putE (((x.params.take k).flatMap fun f => visE s f.type).foldl putE R1) := by
      rw [flatTake _ hlt, List.foldl_append]
     have hgm := getM (f := encPa) hlt
     have hmem := h4.2 _ (List.getElem_mem hlt)
     have hfm := flatMem (fun f => visE s f.type) hlt
     have hq := putAll_len ((x.params.take k).flatMap fun f => visE s f.type) R1
     have hse2 := putAll_se ((x.params.take k).flatMap fun f => visE s f.type) R1 hse4
     generalize x.params[k] = X at *
     generalize ((x.params.take k).flatMap fun f => visE s f.type).foldl putE R1 = R2 at *
     refine awp_plain 5 (by kernel_rfl) rfl (fun g6 hg6 => ?_)
     simp only [go_sem, hlt, decide_true, siC]
     refine hK10 _ ?_
     refine awp_t rfl ?_
     refine awp_skip ?_
     refine hK9 _ ?_
     refine awp_seq_k (fun K11 hK11 => ?_)
     refine awp_block ?_
     refine awp_any 17 (by kernel_rfl) (by kernel_rfl) rfl (fun g8 hg8 ops8 KR8 hops8 hKR8 => ?_)
     refine qrun_eval 16 hops8 ?_
     simp only [go_sem, hgm]
     refine qrun_pure hops8 rfl rfl rfl (refVis_calls s hs hsl X.type (smTy.ok _ hmem.2) R2 hse2 (by omega) _ _) (CoL.refl _) rfl ?_
     refine qrun_last 0 hops8 ?_
     simp only [go_sem]
     refine aops_last 1 hops8 ?_
     simp only [go_sem]
     refine hKR8 _ ?_
     refine hK11 _ ?_
     refine awp_plain 3 (by kernel_rfl) rfl (fun g7 hg7 => ?_)
     simp only [go_sem]
     try simp (disch := omega) only [wrapN]
     refine ⟨_, ?_, k + 1, hlt, rfl, le_of ?_⟩
     ·omega
     simp only [go_sem, hfl]
     all_goals first | done | exact rfl | exact ⟨rfl, rfl⟩ | trivial | omega
    ·have : k = x.params.length := by omega
     subst this
     refine awp_plain 5 (by kernel_rfl) rfl (fun g6 hg6 => ?_)
     simp only [go_sem, hlt, decide_false, siC]
     refine hK10 _ ?_
     refine awp_f rfl ?_
     refine awp_exit ?_
     refine hK7 _ ?_
     refine awp_seq_k (fun K12 hK12 => ?_)
     have hq3 := putAll_len (x.params.flatMap fun f => visE s f.type) R1
     have hse5 := putAll_se (x.params.flatMap fun f => visE s f.type) R1 hse4
     generalize (x.params.flatMap fun f => visE s f.type).foldl putE R1 = R5 at *
     refine awp_ops (by kernel_rfl) rfl (fun g9 hg9 ops9 KR9 hops9 hKR9 => ?_)
     refine aops_eval 8 hops9 ?_
     simp only [go_sem]
     refine aops_pure hops9 rfl rfl rfl (refVis_calls s hs hsl x.result (smTy.ok _ h6) R5 hse5 (by omega) _ _) (CoL.refl _) ?_
     refine aops_last 1 hops9 ?_
     simp only [go_sem]
     refine hKR9 _ ?_
     refine hK12 _ ?_
     refine awp_ret ?_
     refine ends_ev rfl ?_
     simp only [go_sem]
     exact Co.of_eq (by rw [hres])
end Go.Proofs.T
