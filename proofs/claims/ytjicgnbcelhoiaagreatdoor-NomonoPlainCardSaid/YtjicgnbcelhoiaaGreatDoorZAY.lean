/- A part of the proof, under no conditions of its own: ZAY. -/
import Derived.Test.YtjicgnbcelhoiaaGreatDoorZAX
import Derived.Test.YtjicgnbcelhoiaaGreatDoorZAU
import Derived.Test.YtjicgnbcelhoiaaGreatDoorZAJ
import Derived.Test.YtjicgnbcelhoiaaGreatDoorZAF
import Derived.OpenShut
import Derived.LaidSub
import Derived.LaidHandle
import Derived.Test.YtjicgnbcelhoiaaGreatDoorRows
import Derived.JoinedOf
import Derived.MakeChecks
import Derived.Deep.DeepLaidRun
namespace Go.Proofs.T
open Go Go.Ab Go.RowKit
def m1 : Dec := ⟨3, sW, [], [], [], ⟨#[119]⟩, [sa], ⟨sm, [], [], tAny, 0⟩, .mk 3 ByteArray.empty tWW [] [] 0, 40⟩
def p1 : Prg := ⟨[d0, m1], .mk 1 ⟨#[120]⟩ zeroTy [] [] 0⟩
def q1 : Prg := ⟨[d0], .mk 1 ⟨#[120]⟩ zeroTy [] [] 0⟩
def eA : Ed := ⟨n0, n0, false⟩
def eB : Ed := ⟨n0, n0, true⟩
theorem sm_p1 : smPr p1 := by
 refine ⟨⟨by decide, fun e h => ?_⟩, sm_p0.2⟩
 rcases List.mem_cons.1 h with rfl | h
 ·exact sm_p0.1.2 _ List.mem_cons_self
 ·rw [List.mem_singleton.1 h]
  exact sm_p0.1.2 m0 (List.mem_cons_of_mem _ List.mem_cons_self)
theorem sm_q1 : smPr q1 := ⟨⟨by decide, fun e h => by rw [List.mem_singleton.1 h]; exact sm_p0.1.2 _ List.mem_cons_self⟩, sm_p0.2⟩
theorem e_m1 : deE m1 = [eB, eA] := e_m0
theorem pr_p1 : prE p1 = [eB, eA] := by
 unfold prE
 simp [p1, e_d0, e_m1]
theorem pr_q1 : prE q1 = [] := by
 unfold prE
 simp [q1, e_d0]
theorem set_AB : setE [eB, eA] = [eA, eB] := by
 have h : cfEd eA eB = -1 := by
  have hz : cfNd n0 n0 = 0 := goodNd.zero _
  simp [eA, eB, cfEd, or3, hz, cmpI, ordB]
 simp [setE, putE, h]
theorem ed_p1 : edP p1 = [eA, eB] := by
 show setE (prE p1) = _
 rw [pr_p1, set_AB]
theorem ed_q1 : edP q1 = [] := by
 show setE (prE q1) = _
 rw [pr_q1]
 rfl
theorem ex_p1 : exL (edP p1) = [eB] := by
 rw [ed_p1]
 have h1 : exB [eA, eB] eA = false := by simp [exB, eA]
 have h2 : exB [eA, eB] eB = true := by simp [exB, eB, eqN_iff.2]
 simp [exL, h1, h2]
theorem ex_q1 : exL (edP q1) = [] := by rw [ed_q1]; rfl
theorem bad_p1 : badAt [eB] p1.decls = some 40 := by
 have h1 : stE d0 = [] := by unfold stE; rw [e_d0]; rfl
 have h2 : stE m1 = [eA, eB] := by unfold stE; rw [e_m1, set_AB]
 have h3 : ([eA, eB].any fun e => [eB].any (eqE e)) = true := List.any_eq_true.2 ⟨eB, by simp, by simp [eqE_iff.2]⟩
 show badAt [eB] [d0, m1] = _
 unfold badAt
 rw [h1, if_neg (by simp)]
 unfold badAt
 rw [h2, if_pos h3]
 rfl
theorem cyc_p1 : (cycL (edP p1)).length = 1 := by
 unfold cycL
 rw [ex_p1]
 simp only [List.length_cons, List.length_reverse]
 unfold backP
 rw [if_pos (show eB.frm = eB.to from rfl)]
 rfl
theorem rch_p1 : (srt ltNd (keysM (bfsF (edP p1) n0))).length = 1 := by
 rw [srt_len]
 have hn := (bfsF_spec (edP p1) n0).1.nodup
 have hm := fun x => bfsF_mem (edP p1) n0 x
 have h1 : n0 ∈ keysM (bfsF (edP p1) n0) := (hm n0).2 (.one (e := eA) (by rw [ed_p1]; simp) rfl)
 have h2 : ∀ x ∈ keysM (bfsF (edP p1) n0), x = n0 := fun x hx => by
  obtain ⟨e, he, rfl⟩ := ((hm x).1 hx).target
  rw [ed_p1] at he
  rcases List.mem_cons.1 he with rfl | he
  ·rfl
  ·rw [List.mem_singleton.1 he]
   rfl
 have h3 := nodup_len _ [n0] hn fun x hx => by rw [h2 x hx]; simp
 have h4 := List.length_pos_of_mem h1
 simp at h3
 omega
theorem nReach_calls (p : Prg) (hp : smPr p) (hE : (prE p).length ≤ 1000000) (n : Nd) (g d : Nat) : ACalls E 9 [encPr p, encNd n] [] g d (slNd (srt ltNd (keysM (bfsF (edP p) n)))) [] := by
 have hed : ∀ g d, ACalls E 31 [encPr p] [] g d (slEd (edP p)) [] := fun g d => edges_calls p hp hE g d
 have hl := edP_len hE
 generalize edP p = L at *
 have hs := search_calls L hl n
 have hkl : (keysM (bfsF L n)).length ≤ 1000000 := by
  have := (bfsF_spec L n).1.len
  simp [keysM]
  omega
 refine acalls_of_awp (fn := Tryz.f9) (N := 11) Tryz.call9 Tryz.func9 rfl rfl (by simp) ?_
 simp only [go_sem]
 refine awp_seq_k (fun K1 hK1 => ?_)
 refine awp_plain 3 (by kernel_rfl) rfl (fun g0 hg0 => ?_)
 simp only [go_sem]
 refine hK1 _ ?_
 refine awp_seq_k (fun K2 hK2 => ?_)
 refine awp_any 6 (by kernel_rfl) (by kernel_rfl) rfl (fun g1 hg1 ops1 KR1 hops1 hKR1 => ?_)
 refine qrun_eval 1 hops1 ?_
 simp only [go_sem]
 refine qrun_pure hops1 rfl rfl rfl (hed _ _) (CoL.refl _) rfl ?_
 refine qrun_eval 1 hops1 ?_
 simp only [go_sem]
 refine qrun_pure hops1 rfl rfl rfl (hs _ _) (CoL.refl _) rfl ?_
 refine qrun_pure hops1 rfl rfl rfl (keysMX_calls (bfsF L n) _ _) (CoL.refl _) rfl ?_
 refine qrun_pure hops1 rfl rfl rfl (sortedFuncN_calls (bfsF L n) hkl _ _) (CoL.refl _) rfl ?_
 refine qrun_last 0 hops1 ?_
 simp only [go_sem]
 refine aops_last 1 hops1 ?_
 simp only [go_sem]
 refine hKR1 _ ?_
 refine hK2 _ ?_
 refine awp_ret ?_
 refine ends_ev rfl ?_
 simp only [go_sem]
 exact Co.refl _
set_option maxHeartbeats 2000000 in
set_option maxRecDepth 100000 in
theorem awake19_calls (g d : Nat) : ACalls E 7 [] [] g d (dB true) [] := by
 have hl : (prE p1).length ≤ 1000000 := by rw [pr_p1]; decide
 have hl2 : (prE q1).length ≤ 1000000 := by rw [pr_q1]; decide
 have c1 := nCheck_calls p1 sm_p1 hl
 have c2 := codeF_calls 5 40
 have c3 := nIs_calls q1 sm_q1 hl2
 have c4 := nIs_calls p1 sm_p1 hl
 have c5 := nCheck_calls q1 sm_q1 hl2
 have c6 := nExp_calls p1 sm_p1 hl
 have c7 := nCycle_calls p1 sm_p1 hl
 have c8 := nReach_calls p1 sm_p1 hl n0
 rw [ex_p1, if_neg (show ¬ [eB].length = 0 by simp), bad_p1] at c1
 change ∀ g d, ACalls E _ _ _ g d (fD 5 40) _ at c1
 rw [ex_q1] at c3 c5
 rw [ex_p1] at c4 c6
 change ∀ g d, ACalls E _ _ _ g d (dB true) _ at c3
 change ∀ g d, ACalls E _ _ _ g d (dB false) _ at c4
 rw [if_pos (show ([] : List Ed).length = 0 from rfl)] at c5
 change ∀ g d, ACalls E _ _ _ g d (.val .nilIface) _ at c5
 have h7 := cyc_p1
 have h8 := rch_p1
 generalize cycL (edP p1) = C7 at *
 generalize srt ltNd (keysM (bfsF (edP p1) n0)) = C8 at *
 refine acalls_of_awp (fn := Tryz.f7) (N := 78) Tryz.call7 Tryz.func7 rfl rfl (by simp) ?_
 simp only [go_sem]
 refine awp_seq_k (fun K1 hK1 => ?_)
 refine awp_plain 1 (by kernel_rfl) rfl (fun g0 hg0 => ?_)
 simp only [go_sem]
 refine hK1 _ ?_
 refine awp_seq_k (fun K2 hK2 => ?_)
 refine awp_plain 7 (by kernel_rfl) rfl (fun g1 hg1 => ?_)
 simp only [go_sem]
 refine hK2 _ ?_
 refine awp_seq_k (fun K3 hK3 => ?_)
 refine awp_plain 6 (by kernel_rfl) rfl (fun g2 hg2 => ?_)
 simp only [go_sem]
 refine hK3 _ ?_
 refine awp_seq_k (fun K4 hK4 => ?_)
 refine awp_plain 8 (by kernel_rfl) rfl (fun g3 hg3 => ?_)
 simp only [go_sem]
 refine hK4 _ ?_
 refine awp_seq_k (fun K5 hK5 => ?_)
 refine awp_plain 3 (by kernel_rfl) rfl (fun g4 hg4 => ?_)
 simp only [go_sem]
 refine hK5 _ ?_
 refine awp_seq_k (fun K6 hK6 => ?_)
 refine awp_plain 7 (by kernel_rfl) rfl (fun g5 hg5 => ?_)
 simp only [go_sem]
 refine hK6 _ ?_
 refine awp_seq_k (fun K7 hK7 => ?_)
 refine awp_plain 6 (by kernel_rfl) rfl (fun g6 hg6 => ?_)
 simp only [go_sem]
 refine hK7 _ ?_
 refine awp_seq_k (fun K8 hK8 => ?_)
 refine awp_ops (by kernel_rfl) rfl (fun g7 hg7 ops7 KR7 hops7 hKR7 => ?_)
 refine aops_eval 1 hops7 ?_
 simp only [go_sem]
 refine aops_pure hops7 rfl rfl rfl (c1 _ _) (.cons (.agg (.cons (.two (.cons (.refl _) (.cons (.refl _) (.cons (.one (.cons (.refl _) (.cons (.refl _) (.cons (.nil _) (.cons (.refl _) (.cons (.refl _) (.nil))))))) (.cons (.nil _) (.cons (.nil _) (.cons (.refl _) (.cons (.nil _) (.cons (.refl _) (.cons (.nil _) (.cons (.nil _) (.cons (.refl _) (.cons (.nil _) (.cons (.refl _) (.cons (.refl _) (.cons (.refl _) (.cons (.refl _) (.cons (.refl _) (.cons (.nil _) (.cons (.refl _) (.cons (.nil _) (.cons (.nil _) (.cons (.refl _) (.cons (.refl _) (.nil)))))))))))))))))))))))) (.cons (.refl _) (.cons (.refl _) (.cons (.nil _) (.cons (.nil _) (.cons (.nil _) (.cons (.refl _) (.cons (.inexact _ _) (.cons (.refl _) (.cons (.nil _) (.cons (.nil _) (.cons (.refl _) (.cons (.nil _) (.cons (.refl _) (.cons (.refl _) (.cons (.refl _) (.cons (.refl _) (.cons (.refl _) (.cons (.one (.cons (.refl _) (.cons (.one (.cons (.refl _) (.cons (.nil _) (.cons (.refl _) (.nil))))) (.cons (.refl _) (.nil))))) (.cons (.refl _) (.cons (.nil _) (.cons (.nil _) (.cons (.refl _) (.cons (.refl _) (.nil))))))))))))))))))))))))) (.cons (.refl _) (.cons (.refl _) (.cons (.refl _) (.cons (.nil _) (.cons (.refl _) (.cons (.nil _) (.cons (.nil _) (.cons (.refl _) (.nil))))))))))) .nil) ?_
 refine aops_pure hops7 rfl rfl rfl (c2 _ _) (CoL.refl _) ?_
 refine aops_last 5 hops7 ?_
 simp only [go_sem]
 refine hKR7 _ ?_
 refine hK8 _ ?_
 refine awp_seq_k (fun K9 hK9 => ?_)
 refine awp_ops (by kernel_rfl) rfl (fun g8 hg8 ops8 KR8 hops8 hKR8 => ?_)
 refine aops_eval 1 hops8 ?_
 simp only [go_sem, List.length_cons, List.length_nil, Nat.zero_add]
 refine aops_pure hops8 rfl rfl rfl (c3 _ _) (.cons (.agg (.cons (.one (.cons (.refl _) (.cons (.refl _) (.cons (.one (.cons (.refl _) (.cons (.refl _) (.cons (.nil _) (.cons (.refl _) (.cons (.refl _) (.nil))))))) (.cons (.nil _) (.cons (.nil _) (.cons (.refl _) (.cons (.nil _) (.cons (.refl _) (.cons (.nil _) (.cons (.nil _) (.cons (.refl _) (.cons (.nil _) (.cons (.refl _) (.cons (.refl _) (.cons (.refl _) (.cons (.refl _) (.cons (.refl _) (.cons (.nil _) (.cons (.refl _) (.cons (.nil _) (.cons (.nil _) (.cons (.refl _) (.cons (.refl _) (.nil))))))))))))))))))))))))) (.cons (.refl _) (.cons (.refl _) (.cons (.refl _) (.cons (.nil _) (.cons (.refl _) (.cons (.nil _) (.cons (.nil _) (.cons (.refl _) (.nil))))))))))) .nil) ?_
 refine aops_eval 2 hops8 ?_
 simp only [go_sem, List.length_cons, List.length_nil, Nat.zero_add, List.map_cons, List.map_nil]
 refine aops_pure hops8 rfl rfl rfl (c4 _ _) (.cons (.agg (.cons (.two (.cons (.refl _) (.cons (.refl _) (.cons (.one (.cons (.refl _) (.cons (.refl _) (.cons (.nil _) (.cons (.refl _) (.cons (.refl _) (.nil))))))) (.cons (.nil _) (.cons (.nil _) (.cons (.refl _) (.cons (.nil _) (.cons (.refl _) (.cons (.nil _) (.cons (.nil _) (.cons (.refl _) (.cons (.nil _) (.cons (.refl _) (.cons (.refl _) (.cons (.refl _) (.cons (.refl _) (.cons (.refl _) (.cons (.nil _) (.cons (.refl _) (.cons (.nil _) (.cons (.nil _) (.cons (.refl _) (.cons (.refl _) (.nil)))))))))))))))))))))))) (.cons (.refl _) (.cons (.refl _) (.cons (.nil _) (.cons (.nil _) (.cons (.nil _) (.cons (.refl _) (.cons (.inexact _ _) (.cons (.refl _) (.cons (.nil _) (.cons (.nil _) (.cons (.refl _) (.cons (.nil _) (.cons (.refl _) (.cons (.refl _) (.cons (.refl _) (.cons (.refl _) (.cons (.refl _) (.cons (.one (.cons (.refl _) (.cons (.one (.cons (.refl _) (.cons (.nil _) (.cons (.refl _) (.nil))))) (.cons (.refl _) (.nil))))) (.cons (.refl _) (.cons (.nil _) (.cons (.nil _) (.cons (.refl _) (.cons (.refl _) (.nil))))))))))))))))))))))))) (.cons (.refl _) (.cons (.refl _) (.cons (.refl _) (.cons (.nil _) (.cons (.refl _) (.cons (.nil _) (.cons (.nil _) (.cons (.refl _) (.nil))))))))))) .nil) ?_
 refine aops_eval 4 hops8 ?_
 simp only [go_sem, List.length_cons, List.length_nil, Nat.zero_add, List.map_cons, List.map_nil, Bool.not_false]
 refine aops_pure hops8 rfl rfl rfl (c5 _ _) (.cons (.agg (.cons (.one (.cons (.refl _) (.cons (.refl _) (.cons (.one (.cons (.refl _) (.cons (.refl _) (.cons (.nil _) (.cons (.refl _) (.cons (.refl _) (.nil))))))) (.cons (.nil _) (.cons (.nil _) (.cons (.refl _) (.cons (.nil _) (.cons (.refl _) (.cons (.nil _) (.cons (.nil _) (.cons (.refl _) (.cons (.nil _) (.cons (.refl _) (.cons (.refl _) (.cons (.refl _) (.cons (.refl _) (.cons (.refl _) (.cons (.nil _) (.cons (.refl _) (.cons (.nil _) (.cons (.nil _) (.cons (.refl _) (.cons (.refl _) (.nil))))))))))))))))))))))))) (.cons (.refl _) (.cons (.refl _) (.cons (.refl _) (.cons (.nil _) (.cons (.refl _) (.cons (.nil _) (.cons (.nil _) (.cons (.refl _) (.nil))))))))))) .nil) ?_
 refine aops_eval 11 hops8 ?_
 simp only [go_sem, List.length_cons, List.length_nil, Nat.zero_add, List.map_cons, List.map_nil, decide_true]
 refine aops_pure hops8 rfl rfl rfl (c6 _ _) (.cons (.agg (.cons (.two (.cons (.refl _) (.cons (.refl _) (.cons (.one (.cons (.refl _) (.cons (.refl _) (.cons (.nil _) (.cons (.refl _) (.cons (.refl _) (.nil))))))) (.cons (.nil _) (.cons (.nil _) (.cons (.refl _) (.cons (.nil _) (.cons (.refl _) (.cons (.nil _) (.cons (.nil _) (.cons (.refl _) (.cons (.nil _) (.cons (.refl _) (.cons (.refl _) (.cons (.refl _) (.cons (.refl _) (.cons (.refl _) (.cons (.nil _) (.cons (.refl _) (.cons (.nil _) (.cons (.nil _) (.cons (.refl _) (.cons (.refl _) (.nil)))))))))))))))))))))))) (.cons (.refl _) (.cons (.refl _) (.cons (.nil _) (.cons (.nil _) (.cons (.nil _) (.cons (.refl _) (.cons (.inexact _ _) (.cons (.refl _) (.cons (.nil _) (.cons (.nil _) (.cons (.refl _) (.cons (.nil _) (.cons (.refl _) (.cons (.refl _) (.cons (.refl _) (.cons (.refl _) (.cons (.refl _) (.cons (.one (.cons (.refl _) (.cons (.one (.cons (.refl _) (.cons (.nil _) (.cons (.refl _) (.nil))))) (.cons (.refl _) (.nil))))) (.cons (.refl _) (.cons (.nil _) (.cons (.nil _) (.cons (.refl _) (.cons (.refl _) (.nil))))))))))))))))))))))))) (.cons (.refl _) (.cons (.refl _) (.cons (.refl _) (.cons (.nil _) (.cons (.refl _) (.cons (.nil _) (.cons (.nil _) (.cons (.refl _) (.nil))))))))))) .nil) ?_
 refine aops_eval 5 hops8 ?_
 simp only [go_sem, List.length_cons, List.length_nil, Nat.zero_add, List.map_cons, List.map_nil, decide_true, show ((1 : Nat) : Int) = 1 from rfl]
 refine aops_pure hops8 rfl rfl rfl (c7 _ _) (.cons (.agg (.cons (.two (.cons (.refl _) (.cons (.refl _) (.cons (.one (.cons (.refl _) (.cons (.refl _) (.cons (.nil _) (.cons (.refl _) (.cons (.refl _) (.nil))))))) (.cons (.nil _) (.cons (.nil _) (.cons (.refl _) (.cons (.nil _) (.cons (.refl _) (.cons (.nil _) (.cons (.nil _) (.cons (.refl _) (.cons (.nil _) (.cons (.refl _) (.cons (.refl _) (.cons (.refl _) (.cons (.refl _) (.cons (.refl _) (.cons (.nil _) (.cons (.refl _) (.cons (.nil _) (.cons (.nil _) (.cons (.refl _) (.cons (.refl _) (.nil)))))))))))))))))))))))) (.cons (.refl _) (.cons (.refl _) (.cons (.nil _) (.cons (.nil _) (.cons (.nil _) (.cons (.refl _) (.cons (.inexact _ _) (.cons (.refl _) (.cons (.nil _) (.cons (.nil _) (.cons (.refl _) (.cons (.nil _) (.cons (.refl _) (.cons (.refl _) (.cons (.refl _) (.cons (.refl _) (.cons (.refl _) (.cons (.one (.cons (.refl _) (.cons (.one (.cons (.refl _) (.cons (.nil _) (.cons (.refl _) (.nil))))) (.cons (.refl _) (.nil))))) (.cons (.refl _) (.cons (.nil _) (.cons (.nil _) (.cons (.refl _) (.cons (.refl _) (.nil))))))))))))))))))))))))) (.cons (.refl _) (.cons (.refl _) (.cons (.refl _) (.cons (.nil _) (.cons (.refl _) (.cons (.nil _) (.cons (.nil _) (.cons (.refl _) (.nil))))))))))) .nil) ?_
 refine aops_eval 6 hops8 ?_
 simp only [go_sem, List.length_map, List.length_cons, List.length_nil, Nat.zero_add, List.map_cons, List.map_nil, decide_true, show ((1 : Nat) : Int) = 1 from rfl, h7]
 refine aops_pure hops8 rfl rfl rfl (c8 _ _) (.cons (.agg (.cons (.two (.cons (.refl _) (.cons (.refl _) (.cons (.one (.cons (.refl _) (.cons (.refl _) (.cons (.nil _) (.cons (.refl _) (.cons (.refl _) (.nil))))))) (.cons (.nil _) (.cons (.nil _) (.cons (.refl _) (.cons (.nil _) (.cons (.refl _) (.cons (.nil _) (.cons (.nil _) (.cons (.refl _) (.cons (.nil _) (.cons (.refl _) (.cons (.refl _) (.cons (.refl _) (.cons (.refl _) (.cons (.refl _) (.cons (.nil _) (.cons (.refl _) (.cons (.nil _) (.cons (.nil _) (.cons (.refl _) (.cons (.refl _) (.nil)))))))))))))))))))))))) (.cons (.refl _) (.cons (.refl _) (.cons (.nil _) (.cons (.nil _) (.cons (.nil _) (.cons (.refl _) (.cons (.inexact _ _) (.cons (.refl _) (.cons (.nil _) (.cons (.nil _) (.cons (.refl _) (.cons (.nil _) (.cons (.refl _) (.cons (.refl _) (.cons (.refl _) (.cons (.refl _) (.cons (.refl _) (.cons (.one (.cons (.refl _) (.cons (.one (.cons (.refl _) (.cons (.nil _) (.cons (.refl _) (.nil))))) (.cons (.refl _) (.nil))))) (.cons (.refl _) (.cons (.nil _) (.cons (.nil _) (.cons (.refl _) (.cons (.refl _) (.nil))))))))))))))))))))))))) (.cons (.refl _) (.cons (.refl _) (.cons (.refl _) (.cons (.nil _) (.cons (.refl _) (.cons (.nil _) (.cons (.nil _) (.cons (.refl _) (.nil))))))))))) (.cons (.refl _) .nil)) ?_
 refine aops_last 4 hops8 ?_
 simp only [go_sem, List.length_map, List.map_cons, List.map_nil, decide_true, show ((1 : Nat) : Int) = 1 from rfl, h8]
 refine hKR8 _ ?_
 refine hK9 _ ?_
 refine awp_ret ?_
 refine ends_ev rfl ?_
 simp only [go_sem]
 exact Co.refl _
end Go.Proofs.T
namespace Go.Proofs.T
open Go Go.Ab Go.RowKit
noncomputable def fewB (p : Prg) : Bool := decide (cntPr p ≤ 600) && rightPr p
theorem few19_calls (p : Prg) (hp : okPr p) (g d : Nat) : ACalls E 8 [encPr p] [] g d (dB (fewB p)) [] := by
 refine acalls_of_awp (fn := Tryz.f8) (N := 9) Tryz.call8 Tryz.func8 rfl rfl (by simp) ?_
 simp only [go_sem]
 refine awp_seq_k (fun K1 hK1 => ?_)
 refine awp_plain 2 (by kernel_rfl) rfl (fun g0 hg0 => ?_)
 simp only [go_sem]
 refine hK1 _ ?_
 refine awp_seq_k (fun K2 hK2 => ?_)
 refine awp_ops (by kernel_rfl) rfl (fun g1 hg1 ops1 KR1 hops1 hKR1 => ?_)
 refine aops_eval 1 hops1 ?_
 simp only [go_sem]
 by_cases hf : cntPr p ≤ 600
 ·have hs := (cntPr_sm p hf).1
  have hw := cntPr_w p hf
  refine aops_pure hops1 rfl rfl rfl (few06_calls p hp _ _) (CoL.refl _) ?_
  refine aops_eval 2 hops1 ?_
  simp only [go_sem, hf, decide_true]
  refine aops_pure hops1 rfl rfl rfl (rightPr_calls p hs (by omega) _ _) (CoL.refl _) ?_
  refine aops_last 2 hops1 ?_
  simp only [go_sem]
  refine hKR1 _ ?_
  refine hK2 _ ?_
  refine awp_ret ?_
  refine ends_ev rfl ?_
  simp only [go_sem]
  exact Co.of_eq (by simp [fewB, hf])
 ·refine aops_pure hops1 rfl rfl rfl (few06_calls p hp _ _) (CoL.refl _) ?_
  refine aops_last 5 hops1 ?_
  simp only [go_sem, hf, decide_false]
  refine hKR1 _ ?_
  refine hK2 _ ?_
  refine awp_ret ?_
  refine ends_ev rfl ?_
  simp only [go_sem]
  exact Co.of_eq (by simp [fewB, hf])
theorem fewB_spec {p : Prg} (h : fewB p = true) : smPr p ∧ rightPr p = true ∧ wN (prTys p) ≤ 600 := by
 unfold fewB at h
 rw [Bool.and_eq_true, decide_eq_true_eq] at h
 exact ⟨(cntPr_sm p h.1).1, h.2, cntPr_w p h.1⟩
theorem edP_mem {p : Prg} {e : Ed} (h : e ∈ edP p) : ∃ d ∈ p.decls, e ∈ stE d := by
 have h1 := (setE_mem (prE p) e).1 h
 unfold prE at h1
 obtain ⟨d, hd, h2⟩ := List.mem_flatMap.1 h1
 exact ⟨d, hd, (setE_mem _ _).2 h2⟩
end Go.Proofs.T
namespace Go.Proofs.T
open Go Go.Ab Go.RowKit
def Fwd : Nd → List Ed → Nd → Prop
 | a, [], b => a = b
 | a, e :: r, b => e.frm = a ∧ Fwd e.to r b
end Go.Proofs.T
namespace Go.Proofs.T
open Go Go.Ab Go.RowKit
def lessP (p : Prg) (j : Nat) : Prg := ⟨p.decls.take j ++ p.decls.drop (j + 1), p.main⟩
theorem less_mem {p : Prg} {j : Nat} {d : Dec} (h : d ∈ (lessP p j).decls) : d ∈ p.decls := (List.mem_append.1 h).elim List.mem_of_mem_take List.mem_of_mem_drop
theorem less_sm {p : Prg} (j : Nat) (h : smPr p) : smPr (lessP p j) := by
 refine ⟨⟨?_, fun d hd => h.1.2 d (less_mem hd)⟩, h.2⟩
 have := h.1.1
 have e : (lessP p j).decls.length ≤ p.decls.length := by
  unfold lessP
  rw [List.length_append, List.length_take, List.length_drop]
  omega
 omega
theorem less_len (p : Prg) (j : Nat) : (prE (lessP p j)).length ≤ (prE p).length := by
 unfold prE lessP
 have e : (p.decls.flatMap deE).length = ((p.decls.take j).flatMap deE).length + ((p.decls.drop j).flatMap deE).length := by
  rw [← List.length_append, ← List.flatMap_append, List.take_append_drop]
 rw [e, List.flatMap_append, List.length_append]
 have h2 : ((p.decls.drop (j + 1)).flatMap deE).length ≤ ((p.decls.drop j).flatMap deE).length := by
  by_cases hj : j < p.decls.length
  ·rw [List.drop_eq_getElem_cons hj, List.flatMap_cons, List.length_append]
   omega
  ·rw [List.drop_eq_nil_of_le (by omega), List.drop_eq_nil_of_le (by omega)]
   exact Nat.le_refl _
 omega
theorem less_ed {p : Prg} {j : Nat} {e : Ed} (h : e ∈ edP (lessP p j)) : e ∈ edP p := by
 obtain ⟨d, hd, he⟩ := edP_mem h
 refine (setE_mem _ _).2 ?_
 exact List.mem_flatMap.2 ⟨d, less_mem hd, (setE_mem _ _).1 he⟩
theorem exL_mono {l m : List Ed} (h : ∀ e ∈ l, e ∈ m) (hm : exL m = []) : exL l = [] := by
 unfold exL at *
 rw [List.filter_eq_nil_iff] at hm ⊢
 intro e he hx
 refine hm e (h e he) ?_
 unfold exB at *
 rw [Bool.and_eq_true, Bool.or_eq_true, leadB_iff] at hx ⊢
 exact ⟨hx.1, hx.2.imp (Rch.mono h) id⟩
theorem okRowsDec : ∀ l : List Dec, okRows 23 (l.map encDe) := fun l => okRows_map 23 encDe l fun _ => ⟨rfl, rfl⟩
theorem lenRowsDec (l : List Dec) : lenRows 23 (l.map encDe) := fun r hr => by
 obtain ⟨x, _, rfl⟩ := List.mem_map.1 hr
 rfl
set_option maxHeartbeats 1000000 in
set_option maxRecDepth 100000 in
theorem nomonoPlain_calls (p : Prg) (hp : okPr p) (x : Int) (h0 : 0 ≤ x) (h1 : x ≤ 255) (g d : Nat) : ACalls E 5 [encPr p, .val (.int .u8 x)] [] g d (dB true) [] := by
 refine acalls_of_awp (fn := Tryz.f5) (N := 64) Tryz.call5 Tryz.func5 rfl rfl (by simp) ?_
 simp only [go_sem]
 refine awp_seq_k (fun K1 hK1 => ?_)
 refine awp_plain 2 (by kernel_rfl) rfl (fun g0 hg0 => ?_)
 simp only [go_sem]
 refine hK1 _ ?_
 refine awp_seq_k (fun K2 hK2 => ?_)
 refine awp_seq_k (fun K3 hK3 => ?_)
 refine awp_ops (by kernel_rfl) rfl (fun g1 hg1 ops1 KR1 hops1 hKR1 => ?_)
 refine aops_eval 0 hops1 ?_
 simp only [go_sem]
 refine aops_pure hops1 rfl rfl rfl (awake19_calls _ _) (CoL.refl _) ?_
 refine aops_eval 3 hops1 ?_
 simp only [go_sem, Bool.not_true]
 cases hb : fewB p with
 | false =>
  refine aops_pure hops1 rfl rfl rfl (few19_calls p hp _ _) (CoL.refl _) ?_
  refine aops_last 2 hops1 ?_
  simp only [go_sem, hb, Bool.not_false]
  refine hKR1 _ ?_
  refine hK3 _ ?_
  refine awp_t rfl ?_
  refine awp_seq_k (fun K4 hK4 => ?_)
  refine awp_ops (by kernel_rfl) rfl (fun g2 hg2 ops2 KR2 hops2 hKR2 => ?_)
  refine aops_eval 0 hops2 ?_
  simp only [go_sem]
  refine aops_pure hops2 rfl rfl rfl (awake19_calls _ _) (CoL.refl _) ?_
  refine aops_last 1 hops2 ?_
  simp only [go_sem]
  refine hKR2 _ ?_
  refine hK4 _ ?_
  refine awp_ret ?_
  refine ends_ev rfl ?_
  simp only [go_sem]
  exact Co.refl _
 | true =>
  obtain ⟨hs, hr, hw⟩ := fewB_spec hb
  have hE := prE_cnt hw
  have hwm := prTys_main p
  have hnm := nodesEx_le p.main
  have c1 := nIs_calls p hs hE
  have c2 := refIs_calls p hs hr hw
  refine aops_pure hops1 rfl rfl rfl (few19_calls p hp _ _) (CoL.refl _) ?_
  refine aops_last 2 hops1 ?_
  simp only [go_sem, hb, Bool.not_true]
  refine hKR1 _ ?_
  refine hK3 _ ?_
  refine awp_f rfl ?_
  refine awp_skip ?_
  refine hK2 _ ?_
  refine awp_seq_k (fun K5 hK5 => ?_)
  refine awp_seq_k (fun K6 hK6 => ?_)
  refine awp_ops (by kernel_rfl) rfl (fun g3 hg3 ops3 KR3 hops3 hKR3 => ?_)
  refine aops_eval 1 hops3 ?_
  simp only [go_sem]
  cases hpl : plainPr p with
  | true =>
   have he : edP p = [] := by
    unfold edP
    rw [plain_edges hr hpl]
    rfl
   rw [he] at c1
   change ∀ g d, ACalls E _ _ _ g d (dB true) _ at c1
   refine aops_pure hops3 rfl rfl rfl (plain06_calls p hs (by omega) (body_le hw) (by omega) _ _) (CoL.refl _) ?_
   refine aops_last 0 hops3 ?_
   simp only [go_sem, hpl]
   refine hKR3 _ ?_
   refine hK6 _ ?_
   refine awp_t rfl ?_
   refine awp_seq_k (fun K7 hK7 => ?_)
   refine awp_ops (by kernel_rfl) rfl (fun g4 hg4 ops4 KR4 hops4 hKR4 => ?_)
   refine aops_eval 1 hops4 ?_
   simp only [go_sem]
   refine aops_pure hops4 rfl rfl rfl (c1 _ _) (CoL.refl _) ?_
   refine aops_last 1 hops4 ?_
   simp only [go_sem]
   refine hKR4 _ ?_
   refine hK7 _ ?_
   refine awp_ret ?_
   refine ends_ev rfl ?_
   simp only [go_sem]
   exact Co.refl _
  | false =>
   refine aops_pure hops3 rfl rfl rfl (plain06_calls p hs (by omega) (body_le hw) (by omega) _ _) (CoL.refl _) ?_
   refine aops_last 0 hops3 ?_
   simp only [go_sem, hpl]
   refine hKR3 _ ?_
   refine hK6 _ ?_
   refine awp_f rfl ?_
   refine awp_skip ?_
   refine hK5 _ ?_
   refine awp_seq_k (fun K8 hK8 => ?_)
   refine awp_seq_k (fun K9 hK9 => ?_)
   refine awp_ops (by kernel_rfl) rfl (fun g5 hg5 ops5 KR5 hops5 hKR5 => ?_)
   refine aops_eval 1 hops5 ?_
   simp only [go_sem]
   by_cases hB : (exL (edP p)).length = 0
   ·by_cases hn : p.decls.length = 0
    ·have hn2 : (p.decls.length : Int) = 0 := by omega
     refine aops_pure hops5 rfl rfl rfl (c2 _ _) (CoL.refl _) ?_
     refine aops_last 7 hops5 ?_
     simp only [go_sem, hB, decide_true, Bool.not_true, hn2]
     refine hKR5 _ ?_
     refine hK9 _ ?_
     refine awp_t rfl ?_
     refine awp_seq_k (fun K10 hK10 => ?_)
     refine awp_ops (by kernel_rfl) rfl (fun g6 hg6 ops6 KR6 hops6 hKR6 => ?_)
     refine aops_eval 1 hops6 ?_
     simp only [go_sem]
     refine aops_pure hops6 rfl rfl rfl (c1 _ _) (CoL.refl _) ?_
     refine aops_last 8 hops6 ?_
     simp only [go_sem, hB, decide_true, Bool.not_true, hn2]
     refine hKR6 _ ?_
     refine hK10 _ ?_
     refine awp_ret ?_
     refine ends_ev rfl ?_
     simp only [go_sem]
     exact Co.refl _
    ·have hn2 : ¬ (p.decls.length : Int) = 0 := by omega
     refine aops_pure hops5 rfl rfl rfl (c2 _ _) (CoL.refl _) ?_
     refine aops_last 7 hops5 ?_
     simp only [go_sem, hB, decide_true, decide_false, Bool.not_true, hn2]
     refine hKR5 _ ?_
     refine hK9 _ ?_
     refine awp_f rfl ?_
     refine awp_skip ?_
     refine hK8 _ ?_
     refine awp_seq_k (fun K11 hK11 => ?_)
     obtain ⟨j, hj, hmod⟩ : ∃ j : Nat, j < p.decls.length ∧ Int.tmod x (p.decls.length : Int) = (j : Int) := by
      refine ⟨(Int.tmod x (p.decls.length : Int)).toNat, ?_, ?_⟩
      ·have := Int.tmod_lt_of_pos x (b := (p.decls.length : Int)) (by omega)
       have := Int.tmod_nonneg (p.decls.length : Int) h0
       omega
      ·have := Int.tmod_nonneg (p.decls.length : Int) h0
       omega
     have hDl := hs.1.1
     have hw1 : IntKind.i64.wrap x = x := wrapN _ (by omega) (by omega)
     have hw2 : IntKind.i64.wrap (j : Int) = (j : Int) := wrapN _ (by omega) (by omega)
     have hw3 : IntKind.i64.wrap ((j : Int) + 1) = (j : Int) + 1 := wrapN _ (by omega) (by omega)
     have hx := exL_mono (fun e => @less_ed p j e) (List.eq_nil_of_length_eq_zero hB)
     have c3 := nIs_calls (lessP p j) (less_sm j hs) (Nat.le_trans (less_len p j) hE)
     rw [hx] at c3
     change ∀ g d, ACalls E _ _ _ g d (dB true) _ at c3
     have hA : (p.decls.map encDe).take j = (p.decls.take j).map encDe := List.map_take.symm
     have hD : (p.decls.map encDe).drop (j + 1) = (p.decls.drop (j + 1)).map encDe := List.map_drop.symm
     have hN : (p.decls.map encDe).take p.decls.length = p.decls.map encDe := List.take_of_length_le (by simp)
     have q1 : 0 ≤ (j : Int) := by omega
     have q2 : (j : Int) ≤ (p.decls.length : Int) := by omega
     have q3 : 0 ≤ (j : Int) + 1 := by omega
     have q4 : (j : Int) + 1 ≤ (p.decls.length : Int) := by omega
     have q5 : ((j : Int) + 1).toNat = j + 1 := by omega
     have hAl : (p.decls.take j).length = j := by rw [List.length_take]; omega
     have hDl2 : (p.decls.drop (j + 1)).length = p.decls.length - (j + 1) := List.length_drop
     refine awp_plain 7 (by kernel_rfl) rfl (fun g7 hg7 => ?_)
     simp only [go_sem, hw1, hmod, hn2, List.nil_append]
     try simp (disch := omega) only [wrapN, wrapB, Int.tdiv_eq_ediv_of_nonneg, Int.tmod_eq_emod_of_nonneg]
     refine hK11 _ ?_
     refine awp_seq_k (fun K12 hK12 => ?_)
     generalize hAA : p.decls.take j = AA at *
     generalize hDD : p.decls.drop (j + 1) = DD at *
     refine awp_anyT 16 [0, 0, 2, 0, 14, 31, 0, 64, 0, 256, 960, 2047, 0, 4096, 16383, 0, 65535] (by kernel_rfl) (by kernel_rfl) (by kernel_rfl) rfl (fun g8 hg8 ops8 KR8 hops8 hKR8 => ?_)
     refine qrunT_eval 5 hops8 rfl ?_
     simp only [go_sem, List.cons_append, List.nil_append, lenRowsDec, q1, q2, hA, List.drop_zero, Int.le_refl, Int.toNat_natCast, Option.getD_some]
     refine qrunT_app hops8 rfl rfl rfl rfl rfl es22 sz71 by71 ze71 rfl (by decide) rfl rfl ?_
     simp only [go_sem, List.nil_append, okRowsDec]
     first | refine ⟨⟨by omega, by omega⟩, ?_⟩ | skip
     refine qrunT_eval 5 hops8 rfl ?_
     simp only [go_sem, List.nil_append, List.nil_append, lenRowsDec, q3, q4, q5, hD, hN, hw3, List.drop_zero, Int.le_refl, Int.toNat_natCast, Option.getD_none, Option.getD_some]
     try simp (disch := omega) only [wrapN, wrapB, Int.tdiv_eq_ediv_of_nonneg, Int.tmod_eq_emod_of_nonneg]
     refine qrunT_app hops8 rfl rfl rfl rfl rfl es22 sz71 by71 ze71 rfl (by decide) rfl rfl ?_
     simp only [go_sem, okRowsDec]
     first | refine ⟨⟨by omega, by omega⟩, ?_⟩ | skip
     refine qrunT_last 4 hops8 rfl ?_
     simp only [go_sem, List.cons_append, List.nil_append, List.drop_zero, Option.getD_some]
     refine aops_last 1 hops8 ?_
     simp only [go_sem, List.cons_append, List.nil_append, List.drop_zero, Option.getD_some]
     refine hKR8 _ ?_
     refine hK12 _ ?_
     refine awp_seq_k (fun K13 hK13 => ?_)
     refine awp_frz ⟨g8, 54, 0⟩ ?_
     simp only [go_sem]
     refine awp_ops (by kernel_rfl) rfl (fun g9 hg9 ops9 KR9 hops9 hKR9 => ?_)
     refine aops_eval 1 hops9 ?_
     simp only [go_sem, List.nil_append, List.drop_zero, Option.getD_some]
     refine aops_pure hops9 rfl rfl rfl (c1 _ _) (CoL.refl _) ?_
     refine aops_eval 2 hops9 ?_
     simp only [go_sem, hB, decide_true, List.nil_append, List.drop_zero, Option.getD_some]
     refine aops_pure hops9 rfl rfl rfl (c3 _ _) (.cons (.of_eq (by simp [go_sem, encPr, prC, exC, lessP, hAA, hDD])) .nil) ?_
     refine aops_last 2 hops9 ?_
     simp only [go_sem, List.nil_append, Option.getD_some]
     refine hKR9 _ ?_
     refine hK13 _ ?_
     refine awp_ret ?_
     refine ends_ev rfl ?_
     simp only [go_sem]
     exact Co.refl _
   ·have hB2 : decide ((exL (edP p)).length = 0) = false := decide_eq_false hB
    refine aops_pure hops5 rfl rfl rfl (c2 _ _) (CoL.refl _) ?_
    refine aops_last 7 hops5 ?_
    simp only [go_sem, hB2, Bool.not_false]
    refine hKR5 _ ?_
    refine hK9 _ ?_
    refine awp_t rfl ?_
    refine awp_seq_k (fun K14 hK14 => ?_)
    refine awp_ops (by kernel_rfl) rfl (fun g6 hg6 ops6 KR6 hops6 hKR6 => ?_)
    refine aops_eval 1 hops6 ?_
    simp only [go_sem]
    refine aops_pure hops6 rfl rfl rfl (c1 _ _) (CoL.refl _) ?_
    refine aops_last 8 hops6 ?_
    simp only [go_sem, hB2, Bool.not_false]
    refine hKR6 _ ?_
    refine hK14 _ ?_
    refine awp_ret ?_
    refine ends_ev rfl ?_
    simp only [go_sem]
    exact Co.refl _
end Go.Proofs.T
namespace Go.Proofs.T
open Go Go.Ab Go.RowKit
variable {H : Type} {enc : TypeId × Value → H} {w : World}
theorem opStr (n : Nat) : Opens enc Tryz.prog w 9 (fun s : Str => [.val (.string s)]) (fun s => s.size ≤ 9223372036854775807) n := opens_str (by kernel_rfl) n
theorem opInt (n : Nat) : Opens enc Tryz.prog w 3 (fun i : Int => [.val (.int .i64 i)]) (fun i => -9223372036854775808 ≤ i ∧ i ≤ 9223372036854775807) n := opens_int (by kernel_rfl) n
theorem encTy_cellsF : (fun a => (encTy a).cells) = tyC := funext fun a => by rw [encTy_agg]; rfl
theorem opTy : ∀ n : Nat, Opens enc Tryz.prog w 25 tyC okTy n := by
 intro n
 induction n using Nat.strongRecOn with
 | _ n ih =>
  cases n with
  | zero => exact Opens.zero
  | succ n =>
   intro cs x h
   obtain ⟨nm, k1, s1⟩ := open_at 0 (show fieldAt Tryz.prog 25 0 = some (9, 0) by kernel_rfl) h (opStr n)
   obtain ⟨ars, k2, s2⟩ := open_at 1 (show fieldAt Tryz.prog 25 1 = some (23, 1) by kernel_rfl) h
    (opens_slb (e := 25) (k := 3) (f := encTy) (by kernel_rfl) (by kernel_rfl) (by decide) (fun a => by rw [encTy_agg]; rfl)
     (fun m hm => by rw [encTy_cellsF]; exact ih m (by omega)))
   obtain ⟨ps, _, s3⟩ := open_at 2 (show fieldAt Tryz.prog 25 2 = some (3, 2) by kernel_rfl) h (opInt n)
   refine ⟨.mk nm ars ps, (okTy_iff _).2 ⟨k1, k2.1, k2.2⟩, (open_len (by kernel_rfl) h).trans (by kernel_rfl), ?_⟩
   exact (s1.app s2 rfl).app s3 rfl
theorem opTys (n : Nat) : Opens enc Tryz.prog w 23 (fun l : List Ty => [slTy l]) (fun l => l.length ≤ 9223372036854775807 ∧ ∀ a ∈ l, okTy a) n :=
 opens_slb (e := 25) (k := 3) (f := encTy) (by kernel_rfl) (by kernel_rfl) (by decide) (fun a => by rw [encTy_agg]; rfl) (fun m _ => by rw [encTy_cellsF]; exact opTy m)
theorem opStrs (n : Nat) : Opens enc Tryz.prog w 67 (fun l : List Str => [slS l]) (fun l => l.length ≤ 9223372036854775807 ∧ ∀ a ∈ l, a.size ≤ 9223372036854775807) n :=
 opens_slb (e := 9) (k := 1) (f := encS) (by kernel_rfl) (by kernel_rfl) (by decide) (fun a => rfl) (fun m _ => opStr m)
theorem opFm (n : Nat) : Opens enc Tryz.prog w 63 (fun f => (encFm f).cells) okFm n := by
 cases n with
 | zero => exact Opens.zero
 | succ n =>
  intro cs x h
  obtain ⟨nm, k1, s1⟩ := open_at 0 (show fieldAt Tryz.prog 63 0 = some (9, 0) by kernel_rfl) h (opStr n)
  obtain ⟨t, k2, s2⟩ := open_at 1 (show fieldAt Tryz.prog 63 1 = some (25, 1) by kernel_rfl) h (opTy n)
  obtain ⟨ps, _, s3⟩ := open_at 2 (show fieldAt Tryz.prog 63 2 = some (3, 4) by kernel_rfl) h (opInt n)
  exact ⟨⟨nm, t, ps⟩, ⟨k1, k2⟩, (open_len (by kernel_rfl) h).trans (by kernel_rfl), (s1.app s2 rfl).app s3 rfl⟩
theorem opPa (n : Nat) : Opens enc Tryz.prog w 118 (fun f => (encPa f).cells) okPa n := by
 cases n with
 | zero => exact Opens.zero
 | succ n =>
  intro cs x h
  obtain ⟨nm, k1, s1⟩ := open_at 0 (show fieldAt Tryz.prog 118 0 = some (9, 0) by kernel_rfl) h (opStr n)
  obtain ⟨t, k2, s2⟩ := open_at 1 (show fieldAt Tryz.prog 118 1 = some (25, 1) by kernel_rfl) h (opTy n)
  obtain ⟨ps, _, s3⟩ := open_at 2 (show fieldAt Tryz.prog 118 2 = some (3, 4) by kernel_rfl) h (opInt n)
  exact ⟨⟨nm, t, ps⟩, ⟨k1, k2⟩, (open_len (by kernel_rfl) h).trans (by kernel_rfl), (s1.app s2 rfl).app s3 rfl⟩
theorem opFms (n : Nat) : Opens enc Tryz.prog w 64 (fun l : List Formal => [slFm l]) (fun l => l.length ≤ 9223372036854775807 ∧ ∀ a ∈ l, okFm a) n :=
 opens_slb (e := 63) (k := 5) (f := encFm) (by kernel_rfl) (by kernel_rfl) (by decide) (fun a => rfl) (fun m _ => opFm m)
theorem opPas (n : Nat) : Opens enc Tryz.prog w 65 (fun l : List Param => [slPa l]) (fun l => l.length ≤ 9223372036854775807 ∧ ∀ a ∈ l, okPa a) n :=
 opens_slb (e := 118) (k := 5) (f := encPa) (by kernel_rfl) (by kernel_rfl) (by decide) (fun a => rfl) (fun m _ => opPa m)
theorem opSi (n : Nat) : Opens enc Tryz.prog w 69 siC okSi n := by
 cases n with
 | zero => exact Opens.zero
 | succ n =>
  intro cs x h
  obtain ⟨nm, k1, s1⟩ := open_at 0 (show fieldAt Tryz.prog 69 0 = some (9, 0) by kernel_rfl) h (opStr n)
  obtain ⟨fs, k2, s2⟩ := open_at 1 (show fieldAt Tryz.prog 69 1 = some (64, 1) by kernel_rfl) h (opFms n)
  obtain ⟨ars, k3, s3⟩ := open_at 2 (show fieldAt Tryz.prog 69 2 = some (65, 2) by kernel_rfl) h (opPas n)
  obtain ⟨t, k4, s4⟩ := open_at 3 (show fieldAt Tryz.prog 69 3 = some (25, 3) by kernel_rfl) h (opTy n)
  obtain ⟨ps, _, s5⟩ := open_at 4 (show fieldAt Tryz.prog 69 4 = some (3, 6) by kernel_rfl) h (opInt n)
  exact ⟨⟨nm, fs, ars, t, ps⟩, ⟨k1, k2, k3, k4⟩, (open_len (by kernel_rfl) h).trans (by kernel_rfl), (((s1.app s2 rfl).app s3 rfl).app s4 rfl).app s5 rfl⟩
set_option maxRecDepth 100000
variable {b0 : Nat} {v : Value} {d : DataW H} {ps : List MemPlace}
end Go.Proofs.T
namespace Go.Proofs.T
open Go Go.Ab Go.RowKit
variable {H : Type} {enc : TypeId × Value → H} {w : World}
theorem encEx_cellsF : (fun a => (encEx a).cells) = exC := funext fun a => by rw [encEx_agg]; rfl
theorem opEx : ∀ n : Nat, Opens enc Tryz.prog w 28 exC okEx n := by
 intro n
 induction n using Nat.strongRecOn with
 | _ n ih =>
  cases n with
  | zero => exact Opens.zero
  | succ n =>
   intro cs x h
   obtain ⟨kd, _, s0⟩ := open_at 0 (show fieldAt Tryz.prog 28 0 = some (3, 0) by kernel_rfl) h (opInt n)
   obtain ⟨nm, k1, s1⟩ := open_at 1 (show fieldAt Tryz.prog 28 1 = some (9, 1) by kernel_rfl) h (opStr n)
   obtain ⟨ty, k2, s2⟩ := open_at 2 (show fieldAt Tryz.prog 28 2 = some (25, 2) by kernel_rfl) h (opTy n)
   obtain ⟨ars, k3, s3⟩ := open_at 3 (show fieldAt Tryz.prog 28 3 = some (23, 5) by kernel_rfl) h (opTys n)
   obtain ⟨kids, k4, s4⟩ := open_at 4 (show fieldAt Tryz.prog 28 4 = some (26, 6) by kernel_rfl) h
    (opens_slb (e := 28) (k := 8) (f := encEx) (by kernel_rfl) (by kernel_rfl) (by decide) (fun a => by rw [encEx_agg]; rfl)
     (fun m hm => by rw [encEx_cellsF]; exact ih m (by omega)))
   obtain ⟨ps, _, s5⟩ := open_at 5 (show fieldAt Tryz.prog 28 5 = some (3, 7) by kernel_rfl) h (opInt n)
   refine ⟨.mk kd nm ty ars kids ps, (okEx_iff _).2 ⟨k1, k2, k3, k4.1, k4.2⟩, (open_len (by kernel_rfl) h).trans (by kernel_rfl), ?_⟩
   exact ((((s0.app s1 rfl).app s2 rfl).app s3 rfl).app s4 rfl).app s5 rfl
theorem opSis (n : Nat) : Opens enc Tryz.prog w 66 (fun l : List Sig => [slSi l]) (fun l => l.length ≤ 9223372036854775807 ∧ ∀ a ∈ l, okSi a) n :=
 opens_slb (e := 69) (k := 7) (f := encSi) (by kernel_rfl) (by kernel_rfl) (by decide) (fun a => rfl) (fun m _ => opSi m)
theorem opDe (n : Nat) : Opens enc Tryz.prog w 71 (fun a => (encDe a).cells) okDe n := by
 cases n with
 | zero => exact Opens.zero
 | succ n =>
  intro cs x h
  obtain ⟨kd, _, s0⟩ := open_at 0 (show fieldAt Tryz.prog 71 0 = some (3, 0) by kernel_rfl) h (opInt n)
  obtain ⟨nm, k1, s1⟩ := open_at 1 (show fieldAt Tryz.prog 71 1 = some (9, 1) by kernel_rfl) h (opStr n)
  obtain ⟨fm, k2, s2⟩ := open_at 2 (show fieldAt Tryz.prog 71 2 = some (64, 2) by kernel_rfl) h (opFms n)
  obtain ⟨fd, k3, s3⟩ := open_at 3 (show fieldAt Tryz.prog 71 3 = some (65, 3) by kernel_rfl) h (opPas n)
  obtain ⟨sg, k4, s4⟩ := open_at 4 (show fieldAt Tryz.prog 71 4 = some (66, 4) by kernel_rfl) h (opSis n)
  obtain ⟨rc, k5, s5⟩ := open_at 5 (show fieldAt Tryz.prog 71 5 = some (9, 5) by kernel_rfl) h (opStr n)
  obtain ⟨vs, k6, s6⟩ := open_at 6 (show fieldAt Tryz.prog 71 6 = some (67, 6) by kernel_rfl) h (opStrs n)
  obtain ⟨si, k7, s7⟩ := open_at 7 (show fieldAt Tryz.prog 71 7 = some (69, 7) by kernel_rfl) h (opSi n)
  obtain ⟨bd, k8, s8⟩ := open_at 8 (show fieldAt Tryz.prog 71 8 = some (28, 14) by kernel_rfl) h (opEx n)
  obtain ⟨ps, _, s9⟩ := open_at 9 (show fieldAt Tryz.prog 71 9 = some (3, 22) by kernel_rfl) h (opInt n)
  refine ⟨⟨kd, nm, fm, fd, sg, rc, vs, si, bd, ps⟩, ⟨k1, k2, k3, k4, k5, k6, k7, k8⟩, (open_len (by kernel_rfl) h).trans (by kernel_rfl), ?_⟩
  exact ((((((((s0.app s1 rfl).app s2 rfl).app s3 rfl).app s4 rfl).app s5 rfl).app s6 rfl).app s7 rfl).app s8 rfl).app s9 rfl
theorem opDes (n : Nat) : Opens enc Tryz.prog w 22 (fun l : List Dec => [slDe l]) (fun l => l.length ≤ 9223372036854775807 ∧ ∀ a ∈ l, okDe a) n :=
 opens_slb (e := 71) (k := 23) (f := encDe) (by kernel_rfl) (by kernel_rfl) (by decide) (fun a => rfl) (fun m _ => opDe m)
theorem opPr (n : Nat) : Opens enc Tryz.prog w 30 prC okPr n := by
 cases n with
 | zero => exact Opens.zero
 | succ n =>
  intro cs x h
  obtain ⟨ds, k0, s0⟩ := open_at 0 (show fieldAt Tryz.prog 30 0 = some (22, 0) by kernel_rfl) h (opDes n)
  obtain ⟨mn, k1, s1⟩ := open_at 1 (show fieldAt Tryz.prog 30 1 = some (28, 1) by kernel_rfl) h (opEx n)
  exact ⟨⟨ds, mn⟩, ⟨k0, k1⟩, (open_len (by kernel_rfl) h).trans (by kernel_rfl), s0.app s1 rfl⟩
set_option maxRecDepth 100000
variable {b0 : Nat} {v : Value} {d : DataW H} {ps : List MemPlace}
theorem argPr (hval : Value.okWide Tryz.prog w .any b0 30 v) (h : DataW.Trod enc Tryz.prog w 0 (fun _ => true) true 30 v d ps) : ∃ s, okPr s ∧ V (G0 w) w v (encPr s) := open_agg (by kernel_rfl) opPr hval h
def zPrg : Value := .agg #[.slice none 0 0, .int .i64 0, .string ByteArray.empty, .string ByteArray.empty, .slice none 0 0, .int .i64 0, .slice none 0 0, .slice none 0 0, .int .i64 0]
end Go.Proofs.T
namespace Go.Proofs.T
open Go Go.Ab Go.RowKit
variable {H : Type} {enc : TypeId × Value → H} {w : World}
variable {b0 : Nat} {v : Value} {d : DataW H} {ps : List MemPlace}
end Go.Proofs.T
namespace Go.Proofs.T
open Go Go.Ab Go.RowKit
theorem oneRow : ((List.range Tryz.prog.types.size).filter fun t => Tryz.prog.rowNamed t [101, 114, 114, 111, 114]) = [54] := by kernel_rfl
theorem rtRow : (Tryz.prog.cutTypes.find? (·.1 == "internal/reflectlite.rtype")).map (·.2) = some 172 := by kernel_rfl
theorem laidE_of {W : World} (hh : handlesMet Tryz.prog [("errors.errorType", .iface "internal/reflectlite.rtype" (.agg [.ptr (.lit (.string [101, 114, 114, 111, 114]))]))] W) : LaidE W := by
 obtain ⟨name, u, ty, e1, e2, e3, e4, e5⟩ := hh _ (List.mem_singleton.2 rfl)
 have en : name = [101, 114, 114, 111, 114] := (Option.some.inj e1).symm
 subst en
 obtain rfl := Option.some.inj (rtRow.symm.trans e2)
 have hm : ty ∈ (List.range Tryz.prog.types.size).filter fun t => Tryz.prog.rowNamed t [101, 114, 114, 111, 114] := List.mem_filter.2 ⟨List.mem_range.2 e3, e4⟩
 rw [oneRow] at hm
 obtain rfl := List.mem_singleton.1 hm
 have hx : typeHandle Tryz.prog 54 = errT := by kernel_rfl
 rw [hx] at e5
 exact World.var?_cell (by kernel_rfl) e5 0
variable {H : Type} {enc : TypeId × Value → H} {w : World}
def okNd3 (x : Nd) : Prop := x.name.size ≤ 9223372036854775807
theorem opU8 (n : Nat) : Opens enc Tryz.prog w 5 (fun i : Int => [.val (.int .u8 i)]) (fun i => 0 ≤ i ∧ i ≤ 255) n := by
 intro cs x h
 obtain ⟨m, rfl, _, hw⟩ := DataW.trod_int (k := .u8) (show Tryz.prog.underlying 5 = some (.int .u8) by kernel_rfl) h
 simp [Lit.wf, IntKind.min, IntKind.max, IntKind.signed, IntKind.bits] at hw
 exact ⟨m, ⟨by omega, by omega⟩, rfl, one_seg (.val _)⟩
set_option maxRecDepth 100000
variable {b0 : Nat} {v : Value} {d : DataW H} {ps : List MemPlace}
theorem argU8 (hval : Value.okWide Tryz.prog w .any b0 5 v) (h : DataW.Trod enc Tryz.prog w 0 (fun _ => true) true 5 v d ps) : ∃ s : Int, (0 ≤ s ∧ s ≤ 255) ∧ V (G0 w) w v (.val (.int .u8 s)) :=
 open_cell (f := fun s : Int => D.val (.int .u8 s)) (not_agg_int (k := .u8) (by kernel_rfl)) opU8 hval h
def zNode : Value := .agg #[.bool false, .string ByteArray.empty, .int .i64 0]
end Go.Proofs.T
namespace Go.Ab
open Go Go.RowKit
variable {H : Type} {enc : TypeId × Value → H} {P : Program} {W W' : World}
end Go.Ab
namespace Go.Proofs.YtjicgnbcelhoiaaGreatDoor
open Go Go.Ab Go.RowKit Go.ChangeShapes Go.WideShapes Go.Proofs.T
theorem own : ownKnob Tryz.prog.godebug = none := by kernel_rfl
theorem laidOut : laidOutB Tryz.prog = true := by kernel_rfl
theorem isBool : Tryz.prog.underlying 4 = some .bool := by kernel_rfl
def laid : List (String × DataW Unit) := [("errors.errorType", Rows.laid_errors_errorType)]
theorem laid_met (os : Os) (args : Array Value) : laidMetH Tryz.prog laid ((World.doorLaid Tryz.prog 400 os).forCall (fun _ _ => 0) ⟨#[], args, []⟩).memory :=
 laidMetH_of_parts3 (fuel := 8) (laidMet_of_run3 8 (by kernel_rfl) (by kernel_rfl) (by kernel_rfl)) (by kernel_rfl) (by kernel_rfl)
theorem laid_tab {W : World} (h : laidMetH Tryz.prog laid W) : E.A W := by
 have h2 : laidMet Tryz.prog [] W ∧ handlesMet Tryz.prog [("errors.errorType", Rows.laid_errors_errorType)] W := h
 exact laidE_of h2.2
set_option maxRecDepth 100000 in
theorem nomonoPlain_lifted (os : Os) (started : os.Started) (H : Type) (enc : TypeId × Value → H) :
  ReturnsInHanded {} Tryz.checked os 5 .any (fun w args => (Rows.nomonoPlainSpec.pre enc Tryz.prog Tryz.f5 [] false w args ∧ laidMetH Tryz.prog laid w) ∧ sizedMet enc Tryz.prog Tryz.f5 (OpenSpec.ofChange Rows.nomonoPlainSpec) false w args)
   (Rows.nomonoPlainSpec.post enc Tryz.prog Tryz.f5 false true false false) :=
 lifted (C := Tryz.checked) (E := E) rfl (fun _ h => laid_tab h) own started (by kernel_rfl) Tryz.func5
  (ChangeSpec.witness_shaped (enc := enc) (C := Tryz.checked) (os := os) (X := fun w _ => laidMetH Tryz.prog laid w) false (World.doorLaid Tryz.prog 400 os) #[zPrg, .int .u8 0] 8 rfl (World.shaped_of_RefB (by kernel_rfl) (by kernel_rfl)) (by kernel_rfl) (by kernel_rfl) (by kernel_rfl) (laid_met os _))
  rfl (by kernel_rfl) isBool laidOut (by kernel_rfl) (fun W base args ds p hval hA => by
   rw [show Tryz.f5.params.toList = [30, 5] from rfl] at hA
   rw [show Tryz.f5.params = #[30, 5] from rfl] at hval
   obtain ⟨v0, v1, d0, d1, p0, p1, rfl, rfl, rfl, h0, h1⟩ := trodAll_two hA
   obtain ⟨a0, k0, q0⟩ := argPr (hval 0 30 v0 rfl rfl) h0
   obtain ⟨a1, k1, q1⟩ := argU8 (hval 1 5 v1 rfl rfl) h1
   exact ⟨⟨_, .two q0 q1, fun g d => nomonoPlain_calls a0 k0 a1 k1.1 k1.2 g d⟩, rfl⟩)
theorem nomonoPlain_holds : Rows.NomonoPlainSaid :=
 OpenClaim.holds_of_wide 5 Tryz.f5 rfl rfl rfl rfl rfl rfl rfl ⟨rfl, rfl, rfl, rfl, rfl⟩ rfl rfl rfl rfl rfl (by kernel_rfl) Tryz.func5 (by kernel_rfl)
  (of_decide_eq_true (by kernel_rfl)) (by unfold Func.isWrapper; rw [if_neg (of_decide_eq_false (by kernel_rfl))]; exact ⟨rfl, rfl⟩)
  (fun os started H enc _ => nomonoPlain_lifted os started H enc)
end Go.Proofs.YtjicgnbcelhoiaaGreatDoor
