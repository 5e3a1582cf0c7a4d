/- A part of the proof, under no conditions of its own: ZAW. -/
import Derived.Test.YtjicgnbcelhoiaaGreatDoorZAV
import Derived.Test.YtjicgnbcelhoiaaGreatDoorZAS
import Derived.Test.YtjicgnbcelhoiaaGreatDoorZAI
import Derived.Test.YtjicgnbcelhoiaaGreatDoorZAF
import Derived.OpenShut
import Derived.LaidSub
import Derived.LaidHandle
import Derived.Test.YtjicgnbcelhoiaaGreatDoorRows
import Derived.JoinedOf
import Derived.MakeChecks
import Derived.Deep.DeepLaidRun
namespace Go.Proofs.T
open Go Go.Ab Go.RowKit
noncomputable def fewB (p : Prg) : Bool := decide (cntPr p ≤ 600) && rightPr p
theorem few19_calls (p : Prg) (hp : okPr p) (g d : Nat) : ACalls E 8 [encPr p] [] g d (dB (fewB p)) [] := by
 refine acalls_of_awp (fn := Tryz.f8) (N := 9) Tryz.call8 Tryz.func8 rfl rfl (by simp) ?_
 simp only [go_sem]
 refine awp_seq_k (fun K1 hK1 => ?_)
 refine awp_plain 2 (by kernel_rfl) rfl (fun g0 hg0 => ?_)
 simp only [go_sem]
 refine hK1 _ ?_
 refine awp_seq_k (fun K2 hK2 => ?_)
 refine awp_ops (by kernel_rfl) rfl (fun g1 hg1 ops1 KR1 hops1 hKR1 => ?_)
 refine aops_eval 1 hops1 ?_
 simp only [go_sem]
 by_cases hf : cntPr p ≤ 600
 ·have hs := (cntPr_sm p hf).1
  have hw := cntPr_w p hf
  refine aops_pure hops1 rfl rfl rfl (few06_calls p hp _ _) (CoL.refl _) ?_
  refine aops_eval 2 hops1 ?_
  simp only [go_sem, hf, decide_true]
  refine aops_pure hops1 rfl rfl rfl (rightPr_calls p hs (by omega) _ _) (CoL.refl _) ?_
  refine aops_last 2 hops1 ?_
  simp only [go_sem]
  refine hKR1 _ ?_
  refine hK2 _ ?_
  refine awp_ret ?_
  refine ends_ev rfl ?_
  simp only [go_sem]
  exact Co.of_eq (by simp [fewB, hf])
 ·refine aops_pure hops1 rfl rfl rfl (few06_calls p hp _ _) (CoL.refl _) ?_
  refine aops_last 5 hops1 ?_
  simp only [go_sem, hf, decide_false]
  refine hKR1 _ ?_
  refine hK2 _ ?_
  refine awp_ret ?_
  refine ends_ev rfl ?_
  simp only [go_sem]
  exact Co.of_eq (by simp [fewB, hf])
theorem fewB_spec {p : Prg} (h : fewB p = true) : smPr p ∧ rightPr p = true ∧ wN (prTys p) ≤ 600 := by
 unfold fewB at h
 rw [Bool.and_eq_true, decide_eq_true_eq] at h
 exact ⟨(cntPr_sm p h.1).1, h.2, cntPr_w p h.1⟩
set_option maxRecDepth 100000 in
theorem plain19_calls (l : List Ed) (hl : l.length ≤ 2000000) (g d : Nat) : ACalls E 15 [slEd l] [] g d (slEd l) [] := by
 refine acalls_of_awp (fn := Tryz.f15) (N := 31) Tryz.call15 Tryz.func15 rfl rfl (by simp) ?_
 simp only [go_sem]
 refine awp_seq_k (fun K1 hK1 => ?_)
 refine awp_plain 1 (by kernel_rfl) rfl (fun g0 hg0 => ?_)
 simp only [go_sem]
 refine hK1 _ ?_
 refine awp_seq_k (fun K2 hK2 => ?_)
 refine awp_plain 1 (by kernel_rfl) rfl (fun g1 hg1 => ?_)
 simp only [go_sem]
 refine hK2 _ ?_
 refine awp_seq_k (fun K3 hK3 => ?_)
 refine awp_seq_k (fun K4 hK4 => ?_)
 refine awp_plain 1 (by kernel_rfl) rfl (fun g2 hg2 => ?_)
 simp only [go_sem]
 refine hK4 _ ?_
 refine awp_block ?_
 refine awp_nil 3 50 7 rfl fun gn hgn => ?_
 refine awp_loop (fun m st => ∃ k a i, k ≤ l.length ∧ m = l.length - k ∧ Le { env := [(0, slEd l), (3, .own ⟨a, i, 0⟩ k), (4, dN k)], σ := [(⟨a, i, 0⟩, .arr 50 7 ((l.take k).map encEd))] } st) l.length ?_ ?_
 ·refine ⟨0, gn, 0, Nat.zero_le _, rfl, le_of ?_⟩
  simp only [go_sem, List.take_zero, List.map_nil]
  all_goals first | done | exact rfl | exact ⟨rfl, rfl⟩ | trivial | omega
 ·rintro m st ⟨k, a, i, hk, rfl, hle⟩
  refine awp_keep hle ?_
  clear hle
  refine awp_seq_k (fun K5 hK5 => ?_)
  refine awp_seq_k (fun K6 hK6 => ?_)
  by_cases hlt : k < l.length
  ·have hgm := getM (f := encEd) hlt
   have htm := takeM encEd hlt
   generalize l[k] = X at *
   refine awp_plain 4 (by kernel_rfl) rfl (fun g3 hg3 => ?_)
   simp only [go_sem, hlt, decide_true]
   refine hK6 _ ?_
   refine awp_t rfl ?_
   refine awp_skip ?_
   refine hK5 _ ?_
   refine awp_seq_k (fun K7 hK7 => ?_)
   refine awp_block ?_
   refine awp_any 18 (by kernel_rfl) (by kernel_rfl) rfl (fun g5 hg5 ops5 KR5 hops5 hKR5 => ?_)
   refine qrun_last 18 hops5 ?_
   simp only [go_sem, hgm]
   refine aops_eval 0 hops5 ?_
   simp only [go_sem]
   refine aops_app hops5 rfl rfl rfl rfl rfl es40 sz50 by50 ze50 rfl (by decide) ?_
   simp only [go_sem, List.length_take_of_le (Nat.le_of_lt hlt)]
   first | refine ⟨⟨by omega, by omega⟩, ?_⟩ | skip
   refine aops_last 1 hops5 ?_
   simp only [go_sem]
   refine hKR5 _ ?_
   refine hK7 _ ?_
   refine awp_plain 3 (by kernel_rfl) rfl (fun g4 hg4 => ?_)
   simp only [go_sem]
   try simp (disch := omega) only [wrapN]
   refine ⟨_, ?_, k + 1, g5, 29, hlt, rfl, le_of ?_⟩
   ·omega
   simp only [go_sem, ← htm]
   all_goals first | done | exact rfl | exact ⟨rfl, rfl⟩ | trivial | omega
  ·have : k = l.length := by omega
   subst this
   refine awp_plain 4 (by kernel_rfl) rfl (fun g3 hg3 => ?_)
   simp only [go_sem, hlt, decide_false]
   refine hK6 _ ?_
   refine awp_f rfl ?_
   refine awp_exit ?_
   refine hK3 _ ?_
   refine awp_seq_k (fun K8 hK8 => ?_)
   refine awp_plain 2 (by kernel_rfl) rfl (fun g6 hg6 => ?_)
   simp only [go_sem]
   refine hK8 _ ?_
   refine awp_ret ?_
   refine ret_frz ⟨a, i, 0⟩ ?_
   simp only [go_sem]
   refine ends_ev rfl ?_
   simp only [go_sem]
   exact Co.refl _
theorem edP_mem {p : Prg} {e : Ed} (h : e ∈ edP p) : ∃ d ∈ p.decls, e ∈ stE d := by
 have h1 := (setE_mem (prE p) e).1 h
 unfold prE at h1
 obtain ⟨d, hd, h2⟩ := List.mem_flatMap.1 h1
 exact ⟨d, hd, (setE_mem _ _).2 h2⟩
theorem edP_ok {p : Prg} (hs : smPr p) (hr : rightPr p = true) : ∀ e ∈ edP p, okEd e := fun e he => by
 obtain ⟨d, hd, h⟩ := edP_mem he
 exact stE_ok (hs.1.2 d hd) (right_dec hr d hd) e h
theorem srtN_strict {k : List Nd} (hn : k.Nodup) : (srt ltNd k).Pairwise fun a b => cfNd a b < 0 := by
 have hperm := srt_perm ltNd k
 have ho := srt_ord goodNd.swo k
 have hd : (srt ltNd k).Nodup := hperm.nodup_iff.2 hn
 refine (List.Pairwise.and ho hd).imp ?_
 rintro a b ⟨h1, h2⟩
 have h1' : ¬ cfNd b a < 0 := by simpa [ltNd, Go.Proofs.ltOf] using h1
 have := goodNd.anti a b
 have := goodNd.anti b a
 have : cfNd a b ≠ 0 := fun e => h2 (cfNd_zero.1 e)
 omega
set_option maxHeartbeats 1000000 in
set_option maxRecDepth 100000 in
theorem nomonoReaches_calls (p : Prg) (hp : okPr p) (n : Nd) (g d : Nat) : ACalls E 3 [encPr p, encNd n] [] g d (dB true) [] := by
 refine acalls_of_awp (fn := Tryz.f3) (N := 66) Tryz.call3 Tryz.func3 rfl rfl (by simp) ?_
 simp only [go_sem]
 refine awp_seq_k (fun K1 hK1 => ?_)
 refine awp_plain 3 (by kernel_rfl) rfl (fun g0 hg0 => ?_)
 simp only [go_sem]
 refine hK1 _ ?_
 refine awp_seq_k (fun K2 hK2 => ?_)
 refine awp_seq_k (fun K3 hK3 => ?_)
 refine awp_ops (by kernel_rfl) rfl (fun g1 hg1 ops1 KR1 hops1 hKR1 => ?_)
 refine aops_eval 0 hops1 ?_
 simp only [go_sem]
 refine aops_pure hops1 rfl rfl rfl (awake19_calls _ _) (CoL.refl _) ?_
 refine aops_eval 3 hops1 ?_
 simp only [go_sem, Bool.not_true]
 cases hb : fewB p with
 | false =>
  refine aops_pure hops1 rfl rfl rfl (few19_calls p hp _ _) (CoL.refl _) ?_
  refine aops_last 8 hops1 ?_
  simp only [go_sem, hb, Bool.not_false]
  refine hKR1 _ ?_
  refine hK3 _ ?_
  refine awp_t rfl ?_
  refine awp_seq_k (fun K4 hK4 => ?_)
  refine awp_ops (by kernel_rfl) rfl (fun g2 hg2 ops2 KR2 hops2 hKR2 => ?_)
  refine aops_eval 0 hops2 ?_
  simp only [go_sem]
  refine aops_pure hops2 rfl rfl rfl (awake19_calls _ _) (CoL.refl _) ?_
  refine aops_last 1 hops2 ?_
  simp only [go_sem]
  refine hKR2 _ ?_
  refine hK4 _ ?_
  refine awp_ret ?_
  refine ends_ev rfl ?_
  simp only [go_sem]
  exact Co.refl _
 | true =>
  by_cases q1 : 300 < (n.name.size : Int)
  ·refine aops_pure hops1 rfl rfl rfl (few19_calls p hp _ _) (CoL.refl _) ?_
   refine aops_last 8 hops1 ?_
   simp only [go_sem, hb, Bool.not_true, q1, decide_true]
   refine hKR1 _ ?_
   refine hK3 _ ?_
   refine awp_t rfl ?_
   refine awp_seq_k (fun K5 hK5 => ?_)
   refine awp_ops (by kernel_rfl) rfl (fun g2 hg2 ops2 KR2 hops2 hKR2 => ?_)
   refine aops_eval 0 hops2 ?_
   simp only [go_sem]
   refine aops_pure hops2 rfl rfl rfl (awake19_calls _ _) (CoL.refl _) ?_
   refine aops_last 1 hops2 ?_
   simp only [go_sem]
   refine hKR2 _ ?_
   refine hK5 _ ?_
   refine awp_ret ?_
   refine ends_ev rfl ?_
   simp only [go_sem]
   exact Co.refl _
  ·obtain ⟨hs, hr, hw⟩ := fewB_spec hb
   have hE := prE_cnt hw
   have hl := edP_len hE
   have c1 := refEdP hs hr hw
   have c2 := nReach_calls p hs hE n
   have c3 := refReach_calls (edP p) hl n
   have c4 := fun x g d => refLeads_calls (edP p) hl n x g d
   have hst := srtN_strict (bfsF_spec (edP p) n).1.nodup
   have hmem : ∀ x, x ∈ srt ltNd (keysM (bfsF (edP p) n)) ↔ Rch (edP p) n x := fun x => by rw [(srt_perm ltNd _).mem_iff, bfsF_mem]
   have hnd : (srt ltNd (keysM (bfsF (edP p) n))).Nodup := (srt_perm ltNd _).nodup_iff.2 (bfsF_spec (edP p) n).1.nodup
   have hlen : (srt ltNd (keysM (bfsF (edP p) n))).length = (reachR (edP p) n).length := by
    refine Nat.le_antisymm (nodup_len _ _ hnd fun x hx => (reachR_mem _ _ _).2 ((hmem x).1 hx)) (nodup_len _ _ (reachR_nodup _ _) fun x hx => (hmem x).2 ((reachR_mem _ _ _).1 hx))
   have hRl := reachR_len (edP p) n
   have hok : ∀ x ∈ srt ltNd (keysM (bfsF (edP p) n)), okNd x := fun x hx => by
    obtain ⟨e, he, rfl⟩ := ((hmem x).1 hx).target
    exact (edP_ok hs hr e he).2
   have hlead : ∀ x ∈ srt ltNd (keysM (bfsF (edP p) n)), leadB (edP p) n x = true := fun x hx => leadB_iff.2 ((hmem x).1 hx)
   refine aops_pure hops1 rfl rfl rfl (few19_calls p hp _ _) (CoL.refl _) ?_
   refine aops_last 8 hops1 ?_
   simp only [go_sem, hb, Bool.not_true, q1, decide_false]
   refine hKR1 _ ?_
   refine hK3 _ ?_
   refine awp_f rfl ?_
   refine awp_skip ?_
   refine hK2 _ ?_
   refine awp_seq_k (fun K6 hK6 => ?_)
   generalize reachR (edP p) n = R at *
   generalize srt ltNd (keysM (bfsF (edP p) n)) = L at *
   refine awp_ops (by kernel_rfl) rfl (fun g3 hg3 ops3 KR3 hops3 hKR3 => ?_)
   refine aops_eval 2 hops3 ?_
   simp only [go_sem]
   refine aops_pure hops3 rfl rfl rfl (c2 _ _) (CoL.refl _) ?_
   refine aops_last 1 hops3 ?_
   simp only [go_sem]
   refine hKR3 _ ?_
   refine hK6 _ ?_
   refine awp_seq_k (fun K7 hK7 => ?_)
   refine awp_any 4 (by kernel_rfl) (by kernel_rfl) rfl (fun g4 hg4 ops4 KR4 hops4 hKR4 => ?_)
   refine qrun_eval 1 hops4 ?_
   simp only [go_sem]
   refine qrun_pure hops4 rfl rfl rfl (c1 _ _) (CoL.refl _) rfl ?_
   refine qrun_eval 1 hops4 ?_
   simp only [go_sem]
   refine qrun_pure hops4 rfl rfl rfl (c3 _ _) (CoL.refl _) rfl ?_
   refine qrun_last 0 hops4 ?_
   simp only [go_sem]
   refine aops_last 1 hops4 ?_
   simp only [go_sem]
   refine hKR4 _ ?_
   refine hK7 _ ?_
   refine awp_seq_k (fun K8 hK8 => ?_)
   refine awp_seq_k (fun K9 hK9 => ?_)
   have hli : (L.length : Int) = (R.length : Int) := by omega
   refine awp_plain 5 (by kernel_rfl) rfl (fun g5 hg5 => ?_)
   simp only [go_sem, hli, decide_true, Bool.not_true]
   refine hK9 _ ?_
   refine awp_f rfl ?_
   refine awp_skip ?_
   refine hK8 _ ?_
   refine awp_seq_k (fun K10 hK10 => ?_)
   refine awp_seq_k (fun K11 hK11 => ?_)
   refine awp_plain 1 (by kernel_rfl) rfl (fun g7 hg7 => ?_)
   simp only [go_sem]
   refine hK11 _ ?_
   refine awp_block ?_
   refine awp_loop (fun m st => ∃ k, k ≤ L.length ∧ m = L.length - k ∧ Le { env := [(2, .ptr ⟨g0, 2, 0⟩ 0), (3, .ptr ⟨g0, 3, 0⟩ 0), (5, slNd L), (7, dN k)], σ := [(⟨g0, 2, 0⟩, .box 30 (prC p)), (⟨g0, 3, 0⟩, .box 32 (ndC n))] } st) L.length ?_ ?_
   ·refine ⟨0, Nat.zero_le _, rfl, le_of ?_⟩
    simp only [go_sem]
    all_goals first | done | exact rfl | exact ⟨rfl, rfl⟩ | trivial | omega
   ·rintro m st ⟨k, hk, rfl, hle⟩
    refine awp_keep hle ?_
    clear hle
    refine awp_seq_k (fun K12 hK12 => ?_)
    refine awp_seq_k (fun K13 hK13 => ?_)
    by_cases hk2 : k < L.length
    ·have hgm := getM (f := encNd) hk2
     have hld := hlead _ (List.getElem_mem hk2)
     refine awp_plain 4 (by kernel_rfl) rfl (fun g8 hg8 => ?_)
     simp only [go_sem, hk2, decide_true]
     refine hK13 _ ?_
     refine awp_t rfl ?_
     refine awp_skip ?_
     refine hK12 _ ?_
     refine awp_seq_k (fun K14 hK14 => ?_)
     refine awp_block ?_
     refine awp_seq_k (fun K15 hK15 => ?_)
     cases k with
     | zero =>
      generalize L[0] = X at *
      refine awp_anyq (by kernel_rfl) rfl (fun g10 hg10 ops10 KR10 hops10 hKR10 => ?_)
      refine qrun_eval 17 hops10 ?_
      simp only [go_sem, show ((0 : Int) < ((0 : Nat) : Int)) = False from eq_false (by decide), decide_false]
      try simp (disch := omega) only [wrapN, wrapB, Int.tdiv_eq_ediv_of_nonneg, Int.tmod_eq_emod_of_nonneg]
      refine qrun_pure hops10 rfl rfl rfl (c1 _ _) (CoL.refl _) rfl ?_
      refine qrun_eval 5 hops10 ?_
      simp only [go_sem, hgm]
      refine qrun_pure hops10 rfl rfl rfl (c4 X _ _) (CoL.refl _) rfl ?_
      refine qrun_last 2 hops10 ?_
      simp only [go_sem, hld, Bool.not_true]
      refine hKR10 _ ?_
      refine hK15 _ ?_
      refine awp_f rfl ?_
      refine awp_skip ?_
      refine hK14 _ ?_
      refine awp_plain 3 (by kernel_rfl) rfl (fun g9 hg9 => ?_)
      simp only [go_sem]
      try simp (disch := omega) only [wrapN]
      refine ⟨_, ?_, 1, hk2, rfl, le_of ?_⟩
      ·omega
      simp only [go_sem]
      all_goals first | done | exact rfl | exact ⟨rfl, rfl⟩ | trivial | omega
     | succ k =>
      have hk3 : k < L.length := by omega
      have hgp := getM (f := encNd) hk3
      have hok2 := hok _ (List.getElem_mem hk3)
      have hc : cfNd L[k] L[k + 1] < 0 := List.pairwise_iff_getElem.1 hst k (k + 1) hk3 hk2 (Nat.lt_succ_self k)
      have hpos : 0 < ((k + 1 : Nat) : Int) := by omega
      have hsub := subOne k (by omega)
      have hcn : ¬ 0 ≤ cfNd L[k] L[k + 1] := by omega
      generalize L[k + 1] = X at *
      generalize L[k] = Y at *
      refine awp_anyq (by kernel_rfl) rfl (fun g10 hg10 ops10 KR10 hops10 hKR10 => ?_)
      refine qrun_eval 12 hops10 ?_
      simp only [go_sem, hpos, decide_true, hsub, hgm, hgp]
      try simp (disch := omega) only [wrapN, wrapB, Int.tdiv_eq_ediv_of_nonneg, Int.tmod_eq_emod_of_nonneg]
      refine qrun_pure hops10 rfl rfl rfl (refNd_calls Y X hok2 _ _) (CoL.refl _) rfl ?_
      refine qrun_eval 4 hops10 ?_
      simp only [go_sem, hcn, decide_false]
      refine qrun_pure hops10 rfl rfl rfl (c1 _ _) (CoL.refl _) rfl ?_
      refine qrun_eval 5 hops10 ?_
      simp only [go_sem, hgm]
      refine qrun_pure hops10 rfl rfl rfl (c4 X _ _) (CoL.refl _) rfl ?_
      refine qrun_last 2 hops10 ?_
      simp only [go_sem, hld, Bool.not_true]
      refine hKR10 _ ?_
      refine hK15 _ ?_
      refine awp_f rfl ?_
      refine awp_skip ?_
      refine hK14 _ ?_
      refine awp_plain 3 (by kernel_rfl) rfl (fun g9 hg9 => ?_)
      simp only [go_sem]
      try simp (disch := omega) only [wrapN]
      refine ⟨_, ?_, k + 1 + 1, hk2, rfl, le_of ?_⟩
      ·omega
      simp only [go_sem]
      all_goals first | done | exact rfl | exact ⟨rfl, rfl⟩ | trivial | omega
    ·refine awp_plain 4 (by kernel_rfl) rfl (fun g8 hg8 => ?_)
     simp only [go_sem, hk2, decide_false]
     refine hK13 _ ?_
     refine awp_f rfl ?_
     refine awp_exit ?_
     refine hK10 _ ?_
     refine awp_seq_k (fun K16 hK16 => ?_)
     refine awp_plain 1 (by kernel_rfl) rfl (fun g12 hg12 => ?_)
     simp only [go_sem]
     refine hK16 _ ?_
     refine awp_ret ?_
     refine ends_ev rfl ?_
     simp only [go_sem]
     exact Co.refl _
end Go.Proofs.T
namespace Go.Proofs.T
open Go Go.Ab Go.RowKit
def Fwd : Nd → List Ed → Nd → Prop
 | a, [], b => a = b
 | a, e :: r, b => e.frm = a ∧ Fwd e.to r b
theorem fwd_app : ∀ {l : List Ed} {a b : Nd} {e : Ed}, Fwd a l b → e.frm = b → Fwd a (l ++ [e]) e.to
 | [], _, _, _, h, h2 => ⟨h2.trans h.symm, rfl⟩
 | _ :: _, _, _, _, h, h2 => ⟨h.1, fwd_app h.2 h2⟩
theorem fwd_rev : ∀ {l : List Ed} {n a : Nd}, Link n l a → Fwd a l.reverse n
 | [], _, _, h => h.symm
 | e :: r, n, a, h => by
  rw [List.reverse_cons, ← h.1]
  exact fwd_app (fwd_rev h.2) rfl
theorem fwd_next : ∀ (l : List Ed) (a b : Nd), Fwd a l b → ∀ (i : Nat) (h : i < l.length), (∀ h2 : i + 1 < l.length, l[i].to = l[i + 1].frm) ∧ (i + 1 = l.length → l[i].to = b)
 | [], _, _, _, _, h => absurd h (Nat.not_lt_zero _)
 | [e], a, b, hf, i, h => by
  have h0 : i = 0 := by simpa using h
  subst h0
  exact ⟨fun h2 => by simp at h2, fun _ => hf.2⟩
 | e :: e2 :: r, a, b, hf, 0, _ => ⟨fun _ => hf.2.1.symm, fun h2 => by simp at h2⟩
 | e :: e2 :: r, a, b, hf, i + 1, h => by
  have := fwd_next (e2 :: r) e.to b hf.2 i (by simpa using h)
  refine ⟨fun h2 => ?_, fun h2 => ?_⟩
  ·exact this.1 (by simpa using h2)
  ·exact this.2 (by simpa using h2)
theorem cyc_next {F : Ed} {R C : List Ed} (hC : C = F :: R) (h : Fwd F.frm C F.frm) (i : Nat) (hi : i < C.length) : ∃ (j : Nat) (hj : j < C.length), Int.tmod ((i : Int) + 1) (C.length : Int) = (j : Int) ∧ C[i].to = C[j].frm := by
 obtain ⟨h1, h2⟩ := fwd_next C _ _ h i hi
 by_cases hl : i + 1 < C.length
 ·refine ⟨i + 1, hl, ?_, h1 hl⟩
  rw [Int.tmod_eq_of_lt (by omega) (by omega)]
  rfl
 ·have e : i + 1 = C.length := by omega
  refine ⟨0, by omega, ?_, ?_⟩
  ·rw [← e]
   exact Int.tmod_self
  ·rw [h2 e]
   subst hC
   rfl
theorem cycL_ok {l B : List Ed} {F : Ed} (h : exL l = F :: B) : ∃ R, cycL l = F :: R ∧ R.length ≤ l.length + 1 ∧ (∀ e ∈ F :: R, e ∈ l) ∧ Fwd F.frm (F :: R) F.frm ∧ ((F :: R).map (·.frm)).Nodup := by
 have hx := exL_head h
 have hst := back_start hx.1
 have hB := (bfsF_spec l F.to).1
 obtain ⟨q1, q2, q3, _⟩ := backP_ok hB _ _ hst
 have hlen := backP_len (bfsF l F.to) F.to ((bfsF l F.to).length + 1) F.frm
 have hle := hB.len
 have e : cycL l = F :: (backP (bfsF l F.to) F.to ((bfsF l F.to).length + 1) F.frm).reverse := by unfold cycL; rw [h]
 generalize backP (bfsF l F.to) F.to ((bfsF l F.to).length + 1) F.frm = P at *
 refine ⟨P.reverse, e, by rw [List.length_reverse]; omega, fun x hx2 => ?_, ⟨rfl, fwd_rev q2⟩, ?_⟩
 ·rcases List.mem_cons.1 hx2 with rfl | hx2
  ·exact hx.2
  ·exact q1 x (List.mem_reverse.1 hx2)
 ·rw [List.map_cons, List.map_reverse]
  rw [List.nodup_cons] at q3 ⊢
  exact ⟨fun hm => q3.1 (List.mem_reverse.1 hm), (List.reverse_perm _).nodup_iff.2 q3.2⟩
set_option maxHeartbeats 1000000 in
set_option maxRecDepth 100000 in
theorem nomonoCycles_calls (p : Prg) (hp : okPr p) (g d : Nat) : ACalls E 4 [encPr p] [] g d (dB true) [] := by
 refine acalls_of_awp (fn := Tryz.f4) (N := 102) Tryz.call4 Tryz.func4 rfl rfl (by simp) ?_
 simp only [go_sem]
 refine awp_seq_k (fun K1 hK1 => ?_)
 refine awp_plain 2 (by kernel_rfl) rfl (fun g0 hg0 => ?_)
 simp only [go_sem]
 refine hK1 _ ?_
 refine awp_seq_k (fun K2 hK2 => ?_)
 refine awp_seq_k (fun K3 hK3 => ?_)
 refine awp_ops (by kernel_rfl) rfl (fun g1 hg1 ops1 KR1 hops1 hKR1 => ?_)
 refine aops_eval 0 hops1 ?_
 simp only [go_sem]
 refine aops_pure hops1 rfl rfl rfl (awake19_calls _ _) (CoL.refl _) ?_
 refine aops_eval 3 hops1 ?_
 simp only [go_sem, Bool.not_true]
 cases hb : fewB p with
 | false =>
  refine aops_pure hops1 rfl rfl rfl (few19_calls p hp _ _) (CoL.refl _) ?_
  refine aops_last 2 hops1 ?_
  simp only [go_sem, hb, Bool.not_false]
  refine hKR1 _ ?_
  refine hK3 _ ?_
  refine awp_t rfl ?_
  refine awp_seq_k (fun K4 hK4 => ?_)
  refine awp_ops (by kernel_rfl) rfl (fun g2 hg2 ops2 KR2 hops2 hKR2 => ?_)
  refine aops_eval 0 hops2 ?_
  simp only [go_sem]
  refine aops_pure hops2 rfl rfl rfl (awake19_calls _ _) (CoL.refl _) ?_
  refine aops_last 1 hops2 ?_
  simp only [go_sem]
  refine hKR2 _ ?_
  refine hK4 _ ?_
  refine awp_ret ?_
  refine ends_ev rfl ?_
  simp only [go_sem]
  exact Co.refl _
 | true =>
  obtain ⟨hs, hr, hw⟩ := fewB_spec hb
  have hE := prE_cnt hw
  have hl := edP_len hE
  have c1 := refEdP hs hr hw
  have c2 := refExpansive_calls (edP p) hl
  have c3 := nCycle_calls p hs hE
  have hBl := Nat.le_trans (exL_len (edP p)) hl
  have hok := fun B F => @cycL_ok (edP p) B F
  have hnil : exL (edP p) = [] → cycL (edP p) = [] := fun h => by unfold cycL; rw [h]
  have c4 := fun h => plain19_calls (cycL (edP p)) h
  generalize exL (edP p) = B at *
  generalize cycL (edP p) = C at *
  generalize edP p = L at *
  refine aops_pure hops1 rfl rfl rfl (few19_calls p hp _ _) (CoL.refl _) ?_
  refine aops_last 2 hops1 ?_
  simp only [go_sem, hb, Bool.not_true]
  refine hKR1 _ ?_
  refine hK3 _ ?_
  refine awp_f rfl ?_
  refine awp_skip ?_
  refine hK2 _ ?_
  refine awp_seq_k (fun K5 hK5 => ?_)
  refine awp_ops (by kernel_rfl) rfl (fun g3 hg3 ops3 KR3 hops3 hKR3 => ?_)
  refine aops_eval 1 hops3 ?_
  simp only [go_sem]
  refine aops_pure hops3 rfl rfl rfl (c1 _ _) (CoL.refl _) ?_
  refine aops_last 1 hops3 ?_
  simp only [go_sem]
  refine hKR3 _ ?_
  refine hK5 _ ?_
  refine awp_seq_k (fun K6 hK6 => ?_)
  refine awp_ops (by kernel_rfl) rfl (fun g4 hg4 ops4 KR4 hops4 hKR4 => ?_)
  refine aops_eval 1 hops4 ?_
  simp only [go_sem]
  refine aops_pure hops4 rfl rfl rfl (c2 _ _) (CoL.refl _) ?_
  refine aops_last 1 hops4 ?_
  simp only [go_sem]
  refine hKR4 _ ?_
  refine hK6 _ ?_
  refine awp_seq_k (fun K7 hK7 => ?_)
  cases B with
  | nil =>
   have hC := hnil rfl
   subst hC
   have c5 := c4 (Nat.zero_le _)
   refine awp_ops (by kernel_rfl) rfl (fun g5 hg5 ops5 KR5 hops5 hKR5 => ?_)
   refine aops_eval 1 hops5 ?_
   simp only [go_sem, List.map_nil, List.length_nil]
   refine aops_pure hops5 rfl rfl rfl (c3 _ _) (CoL.refl _) ?_
   refine aops_pure hops5 rfl rfl rfl (c5 _ _) (CoL.refl _) ?_
   refine aops_last 1 hops5 ?_
   simp only [go_sem, List.map_nil]
   refine hKR5 _ ?_
   refine hK7 _ ?_
   refine awp_seq_k (fun K8 hK8 => ?_)
   refine awp_seq_k (fun K9 hK9 => ?_)
   refine awp_plain 3 (by kernel_rfl) rfl (fun g6 hg6 => ?_)
   simp only [go_sem, List.length_nil, show ((0 : Nat) : Int) = 0 from rfl, decide_true]
   refine hK9 _ ?_
   refine awp_t rfl ?_
   refine awp_seq_k (fun K10 hK10 => ?_)
   refine awp_plain 4 (by kernel_rfl) rfl (fun g7 hg7 => ?_)
   simp only [go_sem, List.length_nil, show ((0 : Nat) : Int) = 0 from rfl, decide_true]
   refine hK10 _ ?_
   refine awp_ret ?_
   refine ends_ev rfl ?_
   simp only [go_sem]
   exact Co.refl _
  | cons F BB =>
   obtain ⟨R, hC, hRl, hmem, hfwd, hnod⟩ := hok BB F rfl
   rw [← hC] at hmem hfwd hnod
   have hCl : C.length ≤ 2000000 := by rw [hC, List.length_cons]; omega
   have c5 := c4 hCl
   have hBpos : ¬ ((F :: BB).length : Int) = 0 := by rw [List.length_cons]; omega
   have hCpos : ¬ (C.length : Int) = 0 := by rw [hC, List.length_cons]; omega
   have hBh : at? ((F :: BB).map encEd) 0 = some (encEd F) := rfl
   have hCh : at? (C.map encEd) 0 = some (encEd F) := by rw [hC]; rfl
   have hBz : 0 < (F :: BB).length := Nat.succ_pos _
   have hCz : 0 < C.length := by rw [hC]; exact Nat.succ_pos _
   have hchain := cyc_next hC hfwd
   have hhas : ∀ i (h : i < C.length), L.any (fun e => eqE e C[i]) = true := fun i h => List.any_eq_true.2 ⟨C[i], hmem _ (List.getElem_mem h), eqE_iff.2 rfl⟩
   have hdist : ∀ j i (h : j < i) (hi : i < C.length), C[j].frm ≠ C[i].frm := fun j i h hi e => by
    have h1 := List.pairwise_iff_getElem.1 hnod j i (by simp; omega) (by simpa using hi) h
    simp only [List.getElem_map] at h1
    exact h1 e
   generalize F :: BB = B at *
   clear hok hnil c4 hC
   refine awp_ops (by kernel_rfl) rfl (fun g5 hg5 ops5 KR5 hops5 hKR5 => ?_)
   refine aops_eval 1 hops5 ?_
   simp only [go_sem]
   refine aops_pure hops5 rfl rfl rfl (c3 _ _) (CoL.refl _) ?_
   refine aops_pure hops5 rfl rfl rfl (c5 _ _) (CoL.refl _) ?_
   refine aops_last 1 hops5 ?_
   simp only [go_sem]
   refine hKR5 _ ?_
   refine hK7 _ ?_
   refine awp_seq_k (fun K11 hK11 => ?_)
   refine awp_seq_k (fun K12 hK12 => ?_)
   refine awp_plain 3 (by kernel_rfl) rfl (fun g6 hg6 => ?_)
   simp only [go_sem, hBpos, decide_false]
   refine hK12 _ ?_
   refine awp_f rfl ?_
   refine awp_skip ?_
   refine hK11 _ ?_
   refine awp_seq_k (fun K13 hK13 => ?_)
   refine awp_seq_k (fun K14 hK14 => ?_)
   refine awp_anyq (by kernel_rfl) rfl (fun g8 hg8 ops8 KR8 hops8 hKR8 => ?_)
   refine qrun_last 12 hops8 ?_
   simp only [go_sem, hCpos, decide_false, hCh, hBh, and_self, decide_true, Bool.not_true]
   refine hKR8 _ ?_
   refine hK14 _ ?_
   refine awp_f rfl ?_
   refine awp_skip ?_
   refine hK13 _ ?_
   refine awp_seq_k (fun K15 hK15 => ?_)
   refine awp_seq_k (fun K16 hK16 => ?_)
   refine awp_plain 1 (by kernel_rfl) rfl (fun g10 hg10 => ?_)
   simp only [go_sem]
   refine hK16 _ ?_
   refine awp_block ?_
   refine awp_loop (fun m st => ∃ i, i ≤ C.length ∧ m = C.length - i ∧ Le { env := [(1, .ptr ⟨g0, 1, 0⟩ 0), (3, slEd L), (5, slEd C), (6, dN i)], σ := [(⟨g0, 1, 0⟩, .box 30 (prC p))] } st) C.length ?_ ?_
   ·refine ⟨0, Nat.zero_le _, rfl, le_of ?_⟩
    simp only [go_sem]
    all_goals first | done | exact rfl | exact ⟨rfl, rfl⟩ | trivial | omega
   ·rintro m st ⟨i, hi, rfl, hle⟩
    refine awp_keep hle ?_
    clear hle
    refine awp_seq_k (fun K17 hK17 => ?_)
    refine awp_seq_k (fun K18 hK18 => ?_)
    by_cases hlt : i < C.length
    ·have hgi := getM (f := encEd) hlt
     have hin := hhas i hlt
     have hnext := hchain i hlt
     have hdis := fun j (h : j < i) => hdist j i h hlt
     generalize C[i] = X at *
     refine awp_plain 4 (by kernel_rfl) rfl (fun g11 hg11 => ?_)
     simp only [go_sem, hlt, decide_true]
     refine hK18 _ ?_
     refine awp_t rfl ?_
     refine awp_skip ?_
     refine hK17 _ ?_
     refine awp_seq_k (fun K19 hK19 => ?_)
     refine awp_block ?_
     refine awp_seq_k (fun K20 hK20 => ?_)
     refine awp_plain 1 (by kernel_rfl) rfl (fun g13 hg13 => ?_)
     simp only [go_sem]
     refine hK20 _ ?_
     refine awp_seq_k (fun K21 hK21 => ?_)
     refine awp_seq_k (fun K22 hK22 => ?_)
     refine awp_plain 1 (by kernel_rfl) rfl (fun g14 hg14 => ?_)
     simp only [go_sem]
     refine hK22 _ ?_
     refine awp_block ?_
     refine awp_loop (fun m st => ∃ k, k ≤ L.length ∧ m = L.length - k ∧ Le { env := [(1, .ptr ⟨g0, 1, 0⟩ 0), (3, slEd L), (5, slEd C), (6, dN i), (7, dB ((L.take k).any (fun e => eqE e X))), (8, dN k)], σ := [(⟨g0, 1, 0⟩, .box 30 (prC p))] } st) L.length ?_ ?_
     ·refine ⟨0, Nat.zero_le _, rfl, le_of ?_⟩
      simp only [go_sem, List.take_zero, List.any_nil]
      all_goals first | done | exact rfl | exact ⟨rfl, rfl⟩ | trivial | omega
     ·rintro m st ⟨k, hk, rfl, hle⟩
      refine awp_keep hle ?_
      clear hle
      refine awp_seq_k (fun K23 hK23 => ?_)
      refine awp_seq_k (fun K24 hK24 => ?_)
      by_cases hkl : k < L.length
      ·have hgk := getM (f := encEd) hkl
       have hk1 := @any_noE (fun e => eqE e X) L k hkl
       have hk2 : (L.take k).any (fun e => eqE e X) = true → (L.take (k + 1)).any (fun e => eqE e X) = true := fun h => by
        rw [List.take_add_one, List.any_append, h, Bool.true_or]
       have hk3 : eqE L[k] X = true → (L.take (k + 1)).any (fun e => eqE e X) = true := fun h => by
        rw [List.take_add_one, List.any_append, List.getElem?_eq_getElem hkl]
        simp [h]
       cases hany : (L.take k).any (fun e => eqE e X) with
       | true =>
        have hk4 := hk2 hany
        refine awp_plain 4 (by kernel_rfl) rfl (fun g15 hg15 => ?_)
        simp only [go_sem, hkl, decide_true]
        refine hK24 _ ?_
        refine awp_t rfl ?_
        refine awp_skip ?_
        refine hK23 _ ?_
        refine awp_seq_k (fun K25 hK25 => ?_)
        refine awp_block ?_
        refine awp_any 12 (by kernel_rfl) (by kernel_rfl) rfl (fun g17 hg17 ops17 KR17 hops17 hKR17 => ?_)
        refine qrun_last 12 hops17 ?_
        simp only [go_sem]
        refine aops_last 1 hops17 ?_
        simp only [go_sem]
        refine hKR17 _ ?_
        refine hK25 _ ?_
        refine awp_plain 3 (by kernel_rfl) rfl (fun g16 hg16 => ?_)
        simp only [go_sem]
        try simp (disch := omega) only [wrapN]
        refine ⟨_, ?_, k + 1, hkl, rfl, le_of ?_⟩
        ·omega
        simp only [go_sem, hk4]
        all_goals first | done | exact rfl | exact ⟨rfl, rfl⟩ | trivial | omega
       | false =>
        generalize L[k] = Z at *
        refine awp_plain 4 (by kernel_rfl) rfl (fun g15 hg15 => ?_)
        simp only [go_sem, hkl, decide_true]
        refine hK24 _ ?_
        refine awp_t rfl ?_
        refine awp_skip ?_
        refine hK23 _ ?_
        refine awp_seq_k (fun K26 hK26 => ?_)
        refine awp_block ?_
        by_cases hZ : Z = X
        ·have hk4 := hk3 (eqE_iff.2 hZ)
         subst hZ
         refine awp_any 12 (by kernel_rfl) (by kernel_rfl) rfl (fun g17 hg17 ops17 KR17 hops17 hKR17 => ?_)
         refine qrun_last 12 hops17 ?_
         simp only [go_sem, hgk, hgi, and_self, decide_true]
         refine aops_last 1 hops17 ?_
         simp only [go_sem]
         refine hKR17 _ ?_
         refine hK26 _ ?_
         refine awp_plain 3 (by kernel_rfl) rfl (fun g16 hg16 => ?_)
         simp only [go_sem]
         try simp (disch := omega) only [wrapN]
         refine ⟨_, ?_, k + 1, hkl, rfl, le_of ?_⟩
         ·omega
         simp only [go_sem, hk4]
         all_goals first | done | exact rfl | exact ⟨rfl, rfl⟩ | trivial | omega
        ·have hk4 := hk1 hany (Bool.eq_false_iff.2 fun h => hZ (eqE_iff.1 h))
         have hne := edEq hZ
         refine awp_any 12 (by kernel_rfl) (by kernel_rfl) rfl (fun g17 hg17 ops17 KR17 hops17 hKR17 => ?_)
         refine qrun_last 12 hops17 ?_
         simp only [go_sem, hgk, hgi, hne, decide_false]
         refine aops_last 1 hops17 ?_
         simp only [go_sem]
         refine hKR17 _ ?_
         refine hK26 _ ?_
         refine awp_plain 3 (by kernel_rfl) rfl (fun g16 hg16 => ?_)
         simp only [go_sem]
         try simp (disch := omega) only [wrapN]
         refine ⟨_, ?_, k + 1, hkl, rfl, le_of ?_⟩
         ·omega
         simp only [go_sem, hk4]
         all_goals first | done | exact rfl | exact ⟨rfl, rfl⟩ | trivial | omega
      ·have : k = L.length := by omega
       subst this
       refine awp_plain 4 (by kernel_rfl) rfl (fun g15 hg15 => ?_)
       simp only [go_sem, hkl, decide_false]
       refine hK24 _ ?_
       refine awp_f rfl ?_
       refine awp_exit ?_
       refine hK21 _ ?_
       refine awp_seq_k (fun K27 hK27 => ?_)
       refine awp_seq_k (fun K28 hK28 => ?_)
       obtain ⟨j, hj, hmod, hto⟩ := hnext
       have hgj := getM (f := encEd) hj
       generalize C[j] = Y at *
       have e1 := congrArg Nd.method hto
       have e2 := congrArg Nd.name hto
       have e3 := congrArg Nd.idx hto
       have hw1 : IntKind.i64.wrap ((i : Int) + 1) = (i : Int) + 1 := wrapN _ (by omega) (by omega)
       have hw2 : IntKind.i64.wrap (j : Int) = (j : Int) := wrapN _ (by omega) (by omega)
       have hlen0 : ¬ (C.length : Int) = 0 := by omega
       refine awp_anyq (by kernel_rfl) rfl (fun g18 hg18 ops18 KR18 hops18 hKR18 => ?_)
       refine qrun_last 19 hops18 ?_
       simp only [go_sem, hin, Bool.not_true, hgi, hlen0, hw1, hmod, hgj, e1, e2, e3, and_self, decide_true]
       try simp (disch := omega) only [wrapN, wrapB, Int.tdiv_eq_ediv_of_nonneg, Int.tmod_eq_emod_of_nonneg]
       refine hKR18 _ ?_
       refine hK28 _ ?_
       refine awp_f rfl ?_
       refine awp_skip ?_
       refine hK27 _ ?_
       refine awp_seq_k (fun K29 hK29 => ?_)
       refine awp_plain 1 (by kernel_rfl) rfl (fun g20 hg20 => ?_)
       simp only [go_sem]
       refine hK29 _ ?_
       refine awp_block ?_
       refine awp_loop (fun m st => ∃ j, j ≤ i ∧ m = i - j ∧ Le { env := [(1, .ptr ⟨g0, 1, 0⟩ 0), (3, slEd L), (5, slEd C), (6, dN i), (9, dN j)], σ := [(⟨g0, 1, 0⟩, .box 30 (prC p))] } st) i ?_ ?_
       ·refine ⟨0, Nat.zero_le _, rfl, le_of ?_⟩
        simp only [go_sem]
        all_goals first | done | exact rfl | exact ⟨rfl, rfl⟩ | trivial | omega
       ·rintro m st ⟨j, hj, rfl, hle⟩
        refine awp_keep hle ?_
        clear hle
        refine awp_seq_k (fun K30 hK30 => ?_)
        refine awp_seq_k (fun K31 hK31 => ?_)
        by_cases hji : j < i
        ·have hjl : j < C.length := by omega
         have hji2 : (j : Int) < (i : Int) := by omega
         have hgj := getM (f := encEd) hjl
         have hdj := ndEq (hdis j hji)
         generalize C[j] = Y at *
         refine awp_plain 3 (by kernel_rfl) rfl (fun g21 hg21 => ?_)
         simp only [go_sem, hji2, decide_true]
         refine hK31 _ ?_
         refine awp_t rfl ?_
         refine awp_skip ?_
         refine hK30 _ ?_
         refine awp_seq_k (fun K32 hK32 => ?_)
         refine awp_block ?_
         refine awp_seq_k (fun K33 hK33 => ?_)
         refine awp_anyq (by kernel_rfl) rfl (fun g23 hg23 ops23 KR23 hops23 hKR23 => ?_)
         refine qrun_last 11 hops23 ?_
         simp only [go_sem, hgj, hgi, hdj, decide_false]
         refine hKR23 _ ?_
         refine hK33 _ ?_
         refine awp_f rfl ?_
         refine awp_skip ?_
         refine hK32 _ ?_
         refine awp_plain 3 (by kernel_rfl) rfl (fun g22 hg22 => ?_)
         simp only [go_sem]
         try simp (disch := omega) only [wrapN]
         refine ⟨_, ?_, j + 1, hji, rfl, le_of ?_⟩
         ·omega
         simp only [go_sem]
         all_goals first | done | exact rfl | exact ⟨rfl, rfl⟩ | trivial | omega
        ·have hji2 : ¬ (j : Int) < (i : Int) := by omega
         refine awp_plain 3 (by kernel_rfl) rfl (fun g21 hg21 => ?_)
         simp only [go_sem, hji2, decide_false]
         refine hK31 _ ?_
         refine awp_f rfl ?_
         refine awp_exit ?_
         refine hK19 _ ?_
         refine awp_plain 3 (by kernel_rfl) rfl (fun g12 hg12 => ?_)
         simp only [go_sem]
         try simp (disch := omega) only [wrapN]
         refine ⟨_, ?_, i + 1, hlt, rfl, le_of ?_⟩
         ·omega
         simp only [go_sem]
         all_goals first | done | exact rfl | exact ⟨rfl, rfl⟩ | trivial | omega
    ·have : i = C.length := by omega
     subst this
     refine awp_plain 4 (by kernel_rfl) rfl (fun g11 hg11 => ?_)
     simp only [go_sem, hlt, decide_false]
     refine hK18 _ ?_
     refine awp_f rfl ?_
     refine awp_exit ?_
     refine hK15 _ ?_
     refine awp_seq_k (fun K34 hK34 => ?_)
     refine awp_plain 1 (by kernel_rfl) rfl (fun g25 hg25 => ?_)
     simp only [go_sem]
     refine hK34 _ ?_
     refine awp_ret ?_
     refine ends_ev rfl ?_
     simp only [go_sem]
     exact Co.refl _
end Go.Proofs.T
namespace Go.Proofs.T
open Go Go.Ab Go.RowKit
def lessP (p : Prg) (j : Nat) : Prg := ⟨p.decls.take j ++ p.decls.drop (j + 1), p.main⟩
end Go.Proofs.T
namespace Go.Proofs.T
open Go Go.Ab Go.RowKit
variable {H : Type} {enc : TypeId × Value → H} {w : World}
theorem opStr (n : Nat) : Opens enc Tryz.prog w 9 (fun s : Str => [.val (.string s)]) (fun s => s.size ≤ 9223372036854775807) n := opens_str (by kernel_rfl) n
theorem opInt (n : Nat) : Opens enc Tryz.prog w 3 (fun i : Int => [.val (.int .i64 i)]) (fun i => -9223372036854775808 ≤ i ∧ i ≤ 9223372036854775807) n := opens_int (by kernel_rfl) n
theorem encTy_cellsF : (fun a => (encTy a).cells) = tyC := funext fun a => by rw [encTy_agg]; rfl
theorem opTy : ∀ n : Nat, Opens enc Tryz.prog w 25 tyC okTy n := by
 intro n
 induction n using Nat.strongRecOn with
 | _ n ih =>
  cases n with
  | zero => exact Opens.zero
  | succ n =>
   intro cs x h
   obtain ⟨nm, k1, s1⟩ := open_at 0 (show fieldAt Tryz.prog 25 0 = some (9, 0) by kernel_rfl) h (opStr n)
   obtain ⟨ars, k2, s2⟩ := open_at 1 (show fieldAt Tryz.prog 25 1 = some (23, 1) by kernel_rfl) h
    (opens_slb (e := 25) (k := 3) (f := encTy) (by kernel_rfl) (by kernel_rfl) (by decide) (fun a => by rw [encTy_agg]; rfl)
     (fun m hm => by rw [encTy_cellsF]; exact ih m (by omega)))
   obtain ⟨ps, _, s3⟩ := open_at 2 (show fieldAt Tryz.prog 25 2 = some (3, 2) by kernel_rfl) h (opInt n)
   refine ⟨.mk nm ars ps, (okTy_iff _).2 ⟨k1, k2.1, k2.2⟩, (open_len (by kernel_rfl) h).trans (by kernel_rfl), ?_⟩
   exact (s1.app s2 rfl).app s3 rfl
theorem opTys (n : Nat) : Opens enc Tryz.prog w 23 (fun l : List Ty => [slTy l]) (fun l => l.length ≤ 9223372036854775807 ∧ ∀ a ∈ l, okTy a) n :=
 opens_slb (e := 25) (k := 3) (f := encTy) (by kernel_rfl) (by kernel_rfl) (by decide) (fun a => by rw [encTy_agg]; rfl) (fun m _ => by rw [encTy_cellsF]; exact opTy m)
theorem opStrs (n : Nat) : Opens enc Tryz.prog w 67 (fun l : List Str => [slS l]) (fun l => l.length ≤ 9223372036854775807 ∧ ∀ a ∈ l, a.size ≤ 9223372036854775807) n :=
 opens_slb (e := 9) (k := 1) (f := encS) (by kernel_rfl) (by kernel_rfl) (by decide) (fun a => rfl) (fun m _ => opStr m)
theorem opFm (n : Nat) : Opens enc Tryz.prog w 63 (fun f => (encFm f).cells) okFm n := by
 cases n with
 | zero => exact Opens.zero
 | succ n =>
  intro cs x h
  obtain ⟨nm, k1, s1⟩ := open_at 0 (show fieldAt Tryz.prog 63 0 = some (9, 0) by kernel_rfl) h (opStr n)
  obtain ⟨t, k2, s2⟩ := open_at 1 (show fieldAt Tryz.prog 63 1 = some (25, 1) by kernel_rfl) h (opTy n)
  obtain ⟨ps, _, s3⟩ := open_at 2 (show fieldAt Tryz.prog 63 2 = some (3, 4) by kernel_rfl) h (opInt n)
  exact ⟨⟨nm, t, ps⟩, ⟨k1, k2⟩, (open_len (by kernel_rfl) h).trans (by kernel_rfl), (s1.app s2 rfl).app s3 rfl⟩
theorem opPa (n : Nat) : Opens enc Tryz.prog w 118 (fun f => (encPa f).cells) okPa n := by
 cases n with
 | zero => exact Opens.zero
 | succ n =>
  intro cs x h
  obtain ⟨nm, k1, s1⟩ := open_at 0 (show fieldAt Tryz.prog 118 0 = some (9, 0) by kernel_rfl) h (opStr n)
  obtain ⟨t, k2, s2⟩ := open_at 1 (show fieldAt Tryz.prog 118 1 = some (25, 1) by kernel_rfl) h (opTy n)
  obtain ⟨ps, _, s3⟩ := open_at 2 (show fieldAt Tryz.prog 118 2 = some (3, 4) by kernel_rfl) h (opInt n)
  exact ⟨⟨nm, t, ps⟩, ⟨k1, k2⟩, (open_len (by kernel_rfl) h).trans (by kernel_rfl), (s1.app s2 rfl).app s3 rfl⟩
theorem opFms (n : Nat) : Opens enc Tryz.prog w 64 (fun l : List Formal => [slFm l]) (fun l => l.length ≤ 9223372036854775807 ∧ ∀ a ∈ l, okFm a) n :=
 opens_slb (e := 63) (k := 5) (f := encFm) (by kernel_rfl) (by kernel_rfl) (by decide) (fun a => rfl) (fun m _ => opFm m)
theorem opPas (n : Nat) : Opens enc Tryz.prog w 65 (fun l : List Param => [slPa l]) (fun l => l.length ≤ 9223372036854775807 ∧ ∀ a ∈ l, okPa a) n :=
 opens_slb (e := 118) (k := 5) (f := encPa) (by kernel_rfl) (by kernel_rfl) (by decide) (fun a => rfl) (fun m _ => opPa m)
theorem opSi (n : Nat) : Opens enc Tryz.prog w 69 siC okSi n := by
 cases n with
 | zero => exact Opens.zero
 | succ n =>
  intro cs x h
  obtain ⟨nm, k1, s1⟩ := open_at 0 (show fieldAt Tryz.prog 69 0 = some (9, 0) by kernel_rfl) h (opStr n)
  obtain ⟨fs, k2, s2⟩ := open_at 1 (show fieldAt Tryz.prog 69 1 = some (64, 1) by kernel_rfl) h (opFms n)
  obtain ⟨ars, k3, s3⟩ := open_at 2 (show fieldAt Tryz.prog 69 2 = some (65, 2) by kernel_rfl) h (opPas n)
  obtain ⟨t, k4, s4⟩ := open_at 3 (show fieldAt Tryz.prog 69 3 = some (25, 3) by kernel_rfl) h (opTy n)
  obtain ⟨ps, _, s5⟩ := open_at 4 (show fieldAt Tryz.prog 69 4 = some (3, 6) by kernel_rfl) h (opInt n)
  exact ⟨⟨nm, fs, ars, t, ps⟩, ⟨k1, k2, k3, k4⟩, (open_len (by kernel_rfl) h).trans (by kernel_rfl), (((s1.app s2 rfl).app s3 rfl).app s4 rfl).app s5 rfl⟩
set_option maxRecDepth 100000
variable {b0 : Nat} {v : Value} {d : DataW H} {ps : List MemPlace}
end Go.Proofs.T
namespace Go.Proofs.T
open Go Go.Ab Go.RowKit
variable {H : Type} {enc : TypeId × Value → H} {w : World}
theorem encEx_cellsF : (fun a => (encEx a).cells) = exC := funext fun a => by rw [encEx_agg]; rfl
theorem opEx : ∀ n : Nat, Opens enc Tryz.prog w 28 exC okEx n := by
 intro n
 induction n using Nat.strongRecOn with
 | _ n ih =>
  cases n with
  | zero => exact Opens.zero
  | succ n =>
   intro cs x h
   obtain ⟨kd, _, s0⟩ := open_at 0 (show fieldAt Tryz.prog 28 0 = some (3, 0) by kernel_rfl) h (opInt n)
   obtain ⟨nm, k1, s1⟩ := open_at 1 (show fieldAt Tryz.prog 28 1 = some (9, 1) by kernel_rfl) h (opStr n)
   obtain ⟨ty, k2, s2⟩ := open_at 2 (show fieldAt Tryz.prog 28 2 = some (25, 2) by kernel_rfl) h (opTy n)
   obtain ⟨ars, k3, s3⟩ := open_at 3 (show fieldAt Tryz.prog 28 3 = some (23, 5) by kernel_rfl) h (opTys n)
   obtain ⟨kids, k4, s4⟩ := open_at 4 (show fieldAt Tryz.prog 28 4 = some (26, 6) by kernel_rfl) h
    (opens_slb (e := 28) (k := 8) (f := encEx) (by kernel_rfl) (by kernel_rfl) (by decide) (fun a => by rw [encEx_agg]; rfl)
     (fun m hm => by rw [encEx_cellsF]; exact ih m (by omega)))
   obtain ⟨ps, _, s5⟩ := open_at 5 (show fieldAt Tryz.prog 28 5 = some (3, 7) by kernel_rfl) h (opInt n)
   refine ⟨.mk kd nm ty ars kids ps, (okEx_iff _).2 ⟨k1, k2, k3, k4.1, k4.2⟩, (open_len (by kernel_rfl) h).trans (by kernel_rfl), ?_⟩
   exact ((((s0.app s1 rfl).app s2 rfl).app s3 rfl).app s4 rfl).app s5 rfl
theorem opSis (n : Nat) : Opens enc Tryz.prog w 66 (fun l : List Sig => [slSi l]) (fun l => l.length ≤ 9223372036854775807 ∧ ∀ a ∈ l, okSi a) n :=
 opens_slb (e := 69) (k := 7) (f := encSi) (by kernel_rfl) (by kernel_rfl) (by decide) (fun a => rfl) (fun m _ => opSi m)
theorem opDe (n : Nat) : Opens enc Tryz.prog w 71 (fun a => (encDe a).cells) okDe n := by
 cases n with
 | zero => exact Opens.zero
 | succ n =>
  intro cs x h
  obtain ⟨kd, _, s0⟩ := open_at 0 (show fieldAt Tryz.prog 71 0 = some (3, 0) by kernel_rfl) h (opInt n)
  obtain ⟨nm, k1, s1⟩ := open_at 1 (show fieldAt Tryz.prog 71 1 = some (9, 1) by kernel_rfl) h (opStr n)
  obtain ⟨fm, k2, s2⟩ := open_at 2 (show fieldAt Tryz.prog 71 2 = some (64, 2) by kernel_rfl) h (opFms n)
  obtain ⟨fd, k3, s3⟩ := open_at 3 (show fieldAt Tryz.prog 71 3 = some (65, 3) by kernel_rfl) h (opPas n)
  obtain ⟨sg, k4, s4⟩ := open_at 4 (show fieldAt Tryz.prog 71 4 = some (66, 4) by kernel_rfl) h (opSis n)
  obtain ⟨rc, k5, s5⟩ := open_at 5 (show fieldAt Tryz.prog 71 5 = some (9, 5) by kernel_rfl) h (opStr n)
  obtain ⟨vs, k6, s6⟩ := open_at 6 (show fieldAt Tryz.prog 71 6 = some (67, 6) by kernel_rfl) h (opStrs n)
  obtain ⟨si, k7, s7⟩ := open_at 7 (show fieldAt Tryz.prog 71 7 = some (69, 7) by kernel_rfl) h (opSi n)
  obtain ⟨bd, k8, s8⟩ := open_at 8 (show fieldAt Tryz.prog 71 8 = some (28, 14) by kernel_rfl) h (opEx n)
  obtain ⟨ps, _, s9⟩ := open_at 9 (show fieldAt Tryz.prog 71 9 = some (3, 22) by kernel_rfl) h (opInt n)
  refine ⟨⟨kd, nm, fm, fd, sg, rc, vs, si, bd, ps⟩, ⟨k1, k2, k3, k4, k5, k6, k7, k8⟩, (open_len (by kernel_rfl) h).trans (by kernel_rfl), ?_⟩
  exact ((((((((s0.app s1 rfl).app s2 rfl).app s3 rfl).app s4 rfl).app s5 rfl).app s6 rfl).app s7 rfl).app s8 rfl).app s9 rfl
theorem opDes (n : Nat) : Opens enc Tryz.prog w 22 (fun l : List Dec => [slDe l]) (fun l => l.length ≤ 9223372036854775807 ∧ ∀ a ∈ l, okDe a) n :=
 opens_slb (e := 71) (k := 23) (f := encDe) (by kernel_rfl) (by kernel_rfl) (by decide) (fun a => rfl) (fun m _ => opDe m)
theorem opPr (n : Nat) : Opens enc Tryz.prog w 30 prC okPr n := by
 cases n with
 | zero => exact Opens.zero
 | succ n =>
  intro cs x h
  obtain ⟨ds, k0, s0⟩ := open_at 0 (show fieldAt Tryz.prog 30 0 = some (22, 0) by kernel_rfl) h (opDes n)
  obtain ⟨mn, k1, s1⟩ := open_at 1 (show fieldAt Tryz.prog 30 1 = some (28, 1) by kernel_rfl) h (opEx n)
  exact ⟨⟨ds, mn⟩, ⟨k0, k1⟩, (open_len (by kernel_rfl) h).trans (by kernel_rfl), s0.app s1 rfl⟩
set_option maxRecDepth 100000
variable {b0 : Nat} {v : Value} {d : DataW H} {ps : List MemPlace}
theorem argPr (hval : Value.okWide Tryz.prog w .any b0 30 v) (h : DataW.Trod enc Tryz.prog w 0 (fun _ => true) true 30 v d ps) : ∃ s, okPr s ∧ V (G0 w) w v (encPr s) := open_agg (by kernel_rfl) opPr hval h
def zPrg : Value := .agg #[.slice none 0 0, .int .i64 0, .string ByteArray.empty, .string ByteArray.empty, .slice none 0 0, .int .i64 0, .slice none 0 0, .slice none 0 0, .int .i64 0]
end Go.Proofs.T
namespace Go.Proofs.T
open Go Go.Ab Go.RowKit
variable {H : Type} {enc : TypeId × Value → H} {w : World}
variable {b0 : Nat} {v : Value} {d : DataW H} {ps : List MemPlace}
end Go.Proofs.T
namespace Go.Proofs.T
open Go Go.Ab Go.RowKit
theorem oneRow : ((List.range Tryz.prog.types.size).filter fun t => Tryz.prog.rowNamed t [101, 114, 114, 111, 114]) = [54] := by kernel_rfl
theorem rtRow : (Tryz.prog.cutTypes.find? (·.1 == "internal/reflectlite.rtype")).map (·.2) = some 172 := by kernel_rfl
theorem laidE_of {W : World} (hh : handlesMet Tryz.prog [("errors.errorType", .iface "internal/reflectlite.rtype" (.agg [.ptr (.lit (.string [101, 114, 114, 111, 114]))]))] W) : LaidE W := by
 obtain ⟨name, u, ty, e1, e2, e3, e4, e5⟩ := hh _ (List.mem_singleton.2 rfl)
 have en : name = [101, 114, 114, 111, 114] := (Option.some.inj e1).symm
 subst en
 obtain rfl := Option.some.inj (rtRow.symm.trans e2)
 have hm : ty ∈ (List.range Tryz.prog.types.size).filter fun t => Tryz.prog.rowNamed t [101, 114, 114, 111, 114] := List.mem_filter.2 ⟨List.mem_range.2 e3, e4⟩
 rw [oneRow] at hm
 obtain rfl := List.mem_singleton.1 hm
 have hx : typeHandle Tryz.prog 54 = errT := by kernel_rfl
 rw [hx] at e5
 exact World.var?_cell (by kernel_rfl) e5 0
variable {H : Type} {enc : TypeId × Value → H} {w : World}
def okNd3 (x : Nd) : Prop := x.name.size ≤ 9223372036854775807
theorem opNd3 (n : Nat) : Opens enc Tryz.prog w 32 ndC okNd3 n := by
 cases n with
 | zero => exact Opens.zero
 | succ n =>
  intro cs x h
  obtain ⟨b, _, s0⟩ := open_at 0 (show fieldAt Tryz.prog 32 0 = some (4, 0) by kernel_rfl) h (opens_bool (by kernel_rfl) n)
  obtain ⟨nm, k1, s1⟩ := open_at 1 (show fieldAt Tryz.prog 32 1 = some (9, 1) by kernel_rfl) h (opStr n)
  obtain ⟨i, _, s2⟩ := open_at 2 (show fieldAt Tryz.prog 32 2 = some (3, 2) by kernel_rfl) h (opInt n)
  exact ⟨⟨b, nm, i⟩, k1, (open_len (by kernel_rfl) h).trans (by kernel_rfl), (s0.app s1 rfl).app s2 rfl⟩
set_option maxRecDepth 100000
variable {b0 : Nat} {v : Value} {d : DataW H} {ps : List MemPlace}
theorem argNd3 (hval : Value.okWide Tryz.prog w .any b0 32 v) (h : DataW.Trod enc Tryz.prog w 0 (fun _ => true) true 32 v d ps) : ∃ s, okNd3 s ∧ V (G0 w) w v (encNd s) := open_agg (by kernel_rfl) opNd3 hval h
def zNode : Value := .agg #[.bool false, .string ByteArray.empty, .int .i64 0]
end Go.Proofs.T
namespace Go.Ab
open Go Go.RowKit
variable {H : Type} {enc : TypeId × Value → H} {P : Program} {W W' : World}
end Go.Ab
namespace Go.Proofs.YtjicgnbcelhoiaaGreatDoor
open Go Go.Ab Go.RowKit Go.ChangeShapes Go.WideShapes Go.Proofs.T
theorem own : ownKnob Tryz.prog.godebug = none := by kernel_rfl
theorem laidOut : laidOutB Tryz.prog = true := by kernel_rfl
theorem isBool : Tryz.prog.underlying 4 = some .bool := by kernel_rfl
def laid : List (String × DataW Unit) := [("errors.errorType", Rows.laid_errors_errorType)]
theorem laid_met (os : Os) (args : Array Value) : laidMetH Tryz.prog laid ((World.doorLaid Tryz.prog 400 os).forCall (fun _ _ => 0) ⟨#[], args, []⟩).memory :=
 laidMetH_of_parts3 (fuel := 8) (laidMet_of_run3 8 (by kernel_rfl) (by kernel_rfl) (by kernel_rfl)) (by kernel_rfl) (by kernel_rfl)
theorem laid_tab {W : World} (h : laidMetH Tryz.prog laid W) : E.A W := by
 have h2 : laidMet Tryz.prog [] W ∧ handlesMet Tryz.prog [("errors.errorType", Rows.laid_errors_errorType)] W := h
 exact laidE_of h2.2
set_option maxRecDepth 100000 in
theorem nomonoReaches_lifted (os : Os) (started : os.Started) (H : Type) (enc : TypeId × Value → H) :
  ReturnsInHanded {} Tryz.checked os 3 .any (fun w args => (Rows.nomonoReachesSpec.pre enc Tryz.prog Tryz.f3 [] false w args ∧ laidMetH Tryz.prog laid w) ∧ sizedMet enc Tryz.prog Tryz.f3 (OpenSpec.ofChange Rows.nomonoReachesSpec) false w args)
   (Rows.nomonoReachesSpec.post enc Tryz.prog Tryz.f3 false true false false) :=
 lifted (C := Tryz.checked) (E := E) rfl (fun _ h => laid_tab h) own started (by kernel_rfl) Tryz.func3
  (ChangeSpec.witness_shaped (enc := enc) (C := Tryz.checked) (os := os) (X := fun w _ => laidMetH Tryz.prog laid w) false (World.doorLaid Tryz.prog 400 os) #[zPrg, zNode] 8 rfl (World.shaped_of_RefB (by kernel_rfl) (by kernel_rfl)) (by kernel_rfl) (by kernel_rfl) (by kernel_rfl) (laid_met os _))
  rfl (by kernel_rfl) isBool laidOut (by kernel_rfl) (fun W base args ds p hval hA => by
   rw [show Tryz.f3.params.toList = [30, 32] from rfl] at hA
   rw [show Tryz.f3.params = #[30, 32] from rfl] at hval
   obtain ⟨v0, v1, d0, d1, p0, p1, rfl, rfl, rfl, h0, h1⟩ := trodAll_two hA
   obtain ⟨a0, k0, q0⟩ := argPr (hval 0 30 v0 rfl rfl) h0
   obtain ⟨a1, k1, q1⟩ := argNd3 (hval 1 32 v1 rfl rfl) h1
   exact ⟨⟨_, .two q0 q1, fun g d => nomonoReaches_calls a0 k0 a1 g d⟩, rfl⟩)
theorem nomonoReaches_holds : Rows.NomonoReachesSaid :=
 OpenClaim.holds_of_wide 3 Tryz.f3 rfl rfl rfl rfl rfl rfl rfl ⟨rfl, rfl, rfl, rfl, rfl⟩ rfl rfl rfl rfl rfl (by kernel_rfl) Tryz.func3 (by kernel_rfl)
  (of_decide_eq_true (by kernel_rfl)) (by unfold Func.isWrapper; rw [if_neg (of_decide_eq_false (by kernel_rfl))]; exact ⟨rfl, rfl⟩)
  (fun os started H enc _ => nomonoReaches_lifted os started H enc)
set_option maxRecDepth 100000 in
theorem nomonoCycles_lifted (os : Os) (started : os.Started) (H : Type) (enc : TypeId × Value → H) :
  ReturnsInHanded {} Tryz.checked os 4 .any (fun w args => (Rows.nomonoCyclesSpec.pre enc Tryz.prog Tryz.f4 [] false w args ∧ laidMetH Tryz.prog laid w) ∧ sizedMet enc Tryz.prog Tryz.f4 (OpenSpec.ofChange Rows.nomonoCyclesSpec) false w args)
   (Rows.nomonoCyclesSpec.post enc Tryz.prog Tryz.f4 false true false false) :=
 lifted (C := Tryz.checked) (E := E) rfl (fun _ h => laid_tab h) own started (by kernel_rfl) Tryz.func4
  (ChangeSpec.witness_shaped (enc := enc) (C := Tryz.checked) (os := os) (X := fun w _ => laidMetH Tryz.prog laid w) false (World.doorLaid Tryz.prog 400 os) #[zPrg] 8 rfl (World.shaped_of_RefB (by kernel_rfl) (by kernel_rfl)) (by kernel_rfl) (by kernel_rfl) (by kernel_rfl) (laid_met os _))
  rfl (by kernel_rfl) isBool laidOut (by kernel_rfl) (fun W base args ds p hval hA => by
   rw [show Tryz.f4.params.toList = [30] from rfl] at hA
   rw [show Tryz.f4.params = #[30] from rfl] at hval
   obtain ⟨v0, d0, rfl, rfl, h0⟩ := trodAll_one hA
   obtain ⟨a0, k0, q0⟩ := argPr (hval 0 30 v0 rfl rfl) h0
   exact ⟨⟨_, .one1 q0, fun g d => nomonoCycles_calls a0 k0 g d⟩, rfl⟩)
theorem nomonoCycles_holds : Rows.NomonoCyclesSaid :=
 OpenClaim.holds_of_wide 4 Tryz.f4 rfl rfl rfl rfl rfl rfl rfl ⟨rfl, rfl, rfl, rfl, rfl⟩ rfl rfl rfl rfl rfl (by kernel_rfl) Tryz.func4 (by kernel_rfl)
  (of_decide_eq_true (by kernel_rfl)) (by unfold Func.isWrapper; rw [if_neg (of_decide_eq_false (by kernel_rfl))]; exact ⟨rfl, rfl⟩)
  (fun os started H enc _ => nomonoCycles_lifted os started H enc)
end Go.Proofs.YtjicgnbcelhoiaaGreatDoor
