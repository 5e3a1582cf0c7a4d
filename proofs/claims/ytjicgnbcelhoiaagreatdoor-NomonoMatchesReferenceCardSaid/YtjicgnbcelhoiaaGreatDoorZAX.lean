/- A part of the proof, under no conditions of its own: ZAX. -/
import Derived.Test.YtjicgnbcelhoiaaGreatDoorZAW
import Derived.Test.YtjicgnbcelhoiaaGreatDoorZAS
import Derived.Test.YtjicgnbcelhoiaaGreatDoorZAI
import Derived.Test.YtjicgnbcelhoiaaGreatDoorZAF
import Derived.OpenShut
import Derived.LaidSub
import Derived.LaidHandle
import Derived.Test.YtjicgnbcelhoiaaGreatDoorRows
import Derived.JoinedOf
import Derived.MakeChecks
import Derived.Deep.DeepLaidRun
namespace Go.Proofs.T
open Go Go.Ab Go.RowKit
noncomputable def fewB (p : Prg) : Bool := decide (cntPr p ≤ 600) && rightPr p
theorem few19_calls (p : Prg) (hp : okPr p) (g d : Nat) : ACalls E 8 [encPr p] [] g d (dB (fewB p)) [] := by
 refine acalls_of_awp (fn := Tryz.f8) (N := 9) Tryz.call8 Tryz.func8 rfl rfl (by simp) ?_
 simp only [go_sem]
 refine awp_seq_k (fun K1 hK1 => ?_)
 refine awp_plain 2 (by kernel_rfl) rfl (fun g0 hg0 => ?_)
 simp only [go_sem]
 refine hK1 _ ?_
 refine awp_seq_k (fun K2 hK2 => ?_)
 refine awp_ops (by kernel_rfl) rfl (fun g1 hg1 ops1 KR1 hops1 hKR1 => ?_)
 refine aops_eval 1 hops1 ?_
 simp only [go_sem]
 by_cases hf : cntPr p ≤ 600
 ·have hs := (cntPr_sm p hf).1
  have hw := cntPr_w p hf
  refine aops_pure hops1 rfl rfl rfl (few06_calls p hp _ _) (CoL.refl _) ?_
  refine aops_eval 2 hops1 ?_
  simp only [go_sem, hf, decide_true]
  refine aops_pure hops1 rfl rfl rfl (rightPr_calls p hs (by omega) _ _) (CoL.refl _) ?_
  refine aops_last 2 hops1 ?_
  simp only [go_sem]
  refine hKR1 _ ?_
  refine hK2 _ ?_
  refine awp_ret ?_
  refine ends_ev rfl ?_
  simp only [go_sem]
  exact Co.of_eq (by simp [fewB, hf])
 ·refine aops_pure hops1 rfl rfl rfl (few06_calls p hp _ _) (CoL.refl _) ?_
  refine aops_last 5 hops1 ?_
  simp only [go_sem, hf, decide_false]
  refine hKR1 _ ?_
  refine hK2 _ ?_
  refine awp_ret ?_
  refine ends_ev rfl ?_
  simp only [go_sem]
  exact Co.of_eq (by simp [fewB, hf])
theorem fewB_spec {p : Prg} (h : fewB p = true) : smPr p ∧ rightPr p = true ∧ wN (prTys p) ≤ 600 := by
 unfold fewB at h
 rw [Bool.and_eq_true, decide_eq_true_eq] at h
 exact ⟨(cntPr_sm p h.1).1, h.2, cntPr_w p h.1⟩
set_option maxRecDepth 100000 in
theorem plain19_calls (l : List Ed) (hl : l.length ≤ 2000000) (g d : Nat) : ACalls E 15 [slEd l] [] g d (slEd l) [] := by
 refine acalls_of_awp (fn := Tryz.f15) (N := 31) Tryz.call15 Tryz.func15 rfl rfl (by simp) ?_
 simp only [go_sem]
 refine awp_seq_k (fun K1 hK1 => ?_)
 refine awp_plain 1 (by kernel_rfl) rfl (fun g0 hg0 => ?_)
 simp only [go_sem]
 refine hK1 _ ?_
 refine awp_seq_k (fun K2 hK2 => ?_)
 refine awp_plain 1 (by kernel_rfl) rfl (fun g1 hg1 => ?_)
 simp only [go_sem]
 refine hK2 _ ?_
 refine awp_seq_k (fun K3 hK3 => ?_)
 refine awp_seq_k (fun K4 hK4 => ?_)
 refine awp_plain 1 (by kernel_rfl) rfl (fun g2 hg2 => ?_)
 simp only [go_sem]
 refine hK4 _ ?_
 refine awp_block ?_
 refine awp_nil 3 50 7 rfl fun gn hgn => ?_
 refine awp_loop (fun m st => ∃ k a i, k ≤ l.length ∧ m = l.length - k ∧ Le { env := [(0, slEd l), (3, .own ⟨a, i, 0⟩ k), (4, dN k)], σ := [(⟨a, i, 0⟩, .arr 50 7 ((l.take k).map encEd))] } st) l.length ?_ ?_
 ·refine ⟨0, gn, 0, Nat.zero_le _, rfl, le_of ?_⟩
  simp only [go_sem, List.take_zero, List.map_nil]
  all_goals first | done | exact rfl | exact ⟨rfl, rfl⟩ | trivial | omega
 ·rintro m st ⟨k, a, i, hk, rfl, hle⟩
  refine awp_keep hle ?_
  clear hle
  refine awp_seq_k (fun K5 hK5 => ?_)
  refine awp_seq_k (fun K6 hK6 => ?_)
  by_cases hlt : k < l.length
  ·have hgm := getM (f := encEd) hlt
   have htm := takeM encEd hlt
   generalize l[k] = X at *
   refine awp_plain 4 (by kernel_rfl) rfl (fun g3 hg3 => ?_)
   simp only [go_sem, hlt, decide_true]
   refine hK6 _ ?_
   refine awp_t rfl ?_
   refine awp_skip ?_
   refine hK5 _ ?_
   refine awp_seq_k (fun K7 hK7 => ?_)
   refine awp_block ?_
   refine awp_any 18 (by kernel_rfl) (by kernel_rfl) rfl (fun g5 hg5 ops5 KR5 hops5 hKR5 => ?_)
   refine qrun_last 18 hops5 ?_
   simp only [go_sem, hgm]
   refine aops_eval 0 hops5 ?_
   simp only [go_sem]
   refine aops_app hops5 rfl rfl rfl rfl rfl es40 sz50 by50 ze50 rfl (by decide) ?_
   simp only [go_sem, List.length_take_of_le (Nat.le_of_lt hlt)]
   first | refine ⟨⟨by omega, by omega⟩, ?_⟩ | skip
   refine aops_last 1 hops5 ?_
   simp only [go_sem]
   refine hKR5 _ ?_
   refine hK7 _ ?_
   refine awp_plain 3 (by kernel_rfl) rfl (fun g4 hg4 => ?_)
   simp only [go_sem]
   try simp (disch := omega) only [wrapN]
   refine ⟨_, ?_, k + 1, g5, 29, hlt, rfl, le_of ?_⟩
   ·omega
   simp only [go_sem, ← htm]
   all_goals first | done | exact rfl | exact ⟨rfl, rfl⟩ | trivial | omega
  ·have : k = l.length := by omega
   subst this
   refine awp_plain 4 (by kernel_rfl) rfl (fun g3 hg3 => ?_)
   simp only [go_sem, hlt, decide_false]
   refine hK6 _ ?_
   refine awp_f rfl ?_
   refine awp_exit ?_
   refine hK3 _ ?_
   refine awp_seq_k (fun K8 hK8 => ?_)
   refine awp_plain 2 (by kernel_rfl) rfl (fun g6 hg6 => ?_)
   simp only [go_sem]
   refine hK8 _ ?_
   refine awp_ret ?_
   refine ret_frz ⟨a, i, 0⟩ ?_
   simp only [go_sem]
   refine ends_ev rfl ?_
   simp only [go_sem]
   exact Co.refl _
theorem edP_mem {p : Prg} {e : Ed} (h : e ∈ edP p) : ∃ d ∈ p.decls, e ∈ stE d := by
 have h1 := (setE_mem (prE p) e).1 h
 unfold prE at h1
 obtain ⟨d, hd, h2⟩ := List.mem_flatMap.1 h1
 exact ⟨d, hd, (setE_mem _ _).2 h2⟩
theorem bad_some {p : Prg} (h : exL (edP p) ≠ []) : ∃ a, badAt (exL (edP p)) p.decls = some a := by
 cases hb : badAt (exL (edP p)) p.decls with
 | some a => exact ⟨a, rfl⟩
 | none =>
  exfalso
  cases hx : exL (edP p) with
  | nil => exact h hx
  | cons e r =>
   obtain ⟨d, hd, he⟩ := edP_mem (exL_head hx).2
   have := badAt_none hb d hd
   rw [List.any_eq_false] at this
   refine this e he ?_
   rw [hx]
   simp [eqE_iff.2]
set_option maxHeartbeats 1000000 in
set_option maxRecDepth 100000 in
theorem nomonoRef_calls (p : Prg) (hp : okPr p) (g d : Nat) : ACalls E 6 [encPr p] [] g d (dB true) [] := by
 refine acalls_of_awp (fn := Tryz.f6) (N := 65) Tryz.call6 Tryz.func6 rfl rfl (by simp) ?_
 simp only [go_sem]
 refine awp_seq_k (fun K1 hK1 => ?_)
 refine awp_plain 2 (by kernel_rfl) rfl (fun g0 hg0 => ?_)
 simp only [go_sem]
 refine hK1 _ ?_
 refine awp_seq_k (fun K2 hK2 => ?_)
 refine awp_seq_k (fun K3 hK3 => ?_)
 refine awp_ops (by kernel_rfl) rfl (fun g1 hg1 ops1 KR1 hops1 hKR1 => ?_)
 refine aops_eval 0 hops1 ?_
 simp only [go_sem]
 refine aops_pure hops1 rfl rfl rfl (awake19_calls _ _) (CoL.refl _) ?_
 refine aops_eval 3 hops1 ?_
 simp only [go_sem, Bool.not_true]
 cases hb : fewB p with
 | false =>
  refine aops_pure hops1 rfl rfl rfl (few19_calls p hp _ _) (CoL.refl _) ?_
  refine aops_last 2 hops1 ?_
  simp only [go_sem, hb, Bool.not_false]
  refine hKR1 _ ?_
  refine hK3 _ ?_
  refine awp_t rfl ?_
  refine awp_seq_k (fun K4 hK4 => ?_)
  refine awp_ops (by kernel_rfl) rfl (fun g2 hg2 ops2 KR2 hops2 hKR2 => ?_)
  refine aops_eval 0 hops2 ?_
  simp only [go_sem]
  refine aops_pure hops2 rfl rfl rfl (awake19_calls _ _) (CoL.refl _) ?_
  refine aops_last 1 hops2 ?_
  simp only [go_sem]
  refine hKR2 _ ?_
  refine hK4 _ ?_
  refine awp_ret ?_
  refine ends_ev rfl ?_
  simp only [go_sem]
  exact Co.refl _
 | true =>
  obtain ⟨hs, hr, hw⟩ := fewB_spec hb
  have hE := prE_cnt hw
  have hl := edP_len hE
  have c1 := refEdP hs hr hw
  have c2 := refExpansive_calls (edP p) hl
  have c3 := nExp_calls p hs hE
  have hBl := Nat.le_trans (exL_len (edP p)) hl
  have c4 := plain19_calls (exL (edP p)) (by omega)
  have c5 := sameEd_calls (exL (edP p)) hBl
  have c6 := nIs_calls p hs hE
  have c7 := nCheck_calls p hs hE
  have c8 := refCheck_calls p hs hr hw
  have hbs := bad_some (p := p)
  generalize exL (edP p) = B at *
  refine aops_pure hops1 rfl rfl rfl (few19_calls p hp _ _) (CoL.refl _) ?_
  refine aops_last 2 hops1 ?_
  simp only [go_sem, hb, Bool.not_true]
  refine hKR1 _ ?_
  refine hK3 _ ?_
  refine awp_f rfl ?_
  refine awp_skip ?_
  refine hK2 _ ?_
  refine awp_seq_k (fun K5 hK5 => ?_)
  refine awp_ops (by kernel_rfl) rfl (fun g3 hg3 ops3 KR3 hops3 hKR3 => ?_)
  refine aops_eval 1 hops3 ?_
  simp only [go_sem]
  refine aops_pure hops3 rfl rfl rfl (c1 _ _) (CoL.refl _) ?_
  refine aops_pure hops3 rfl rfl rfl (c2 _ _) (CoL.refl _) ?_
  refine aops_last 1 hops3 ?_
  simp only [go_sem]
  refine hKR3 _ ?_
  refine hK5 _ ?_
  refine awp_seq_k (fun K6 hK6 => ?_)
  refine awp_seq_k (fun K7 hK7 => ?_)
  cases B with
  | nil =>
   rw [if_pos (show ([] : List Ed).length = 0 from rfl)] at c7
   change ∀ g d, ACalls E _ _ _ g d (dB true) _ at c6
   change ∀ g d, ACalls E _ _ _ g d (.val .nilIface) _ at c7
   refine awp_ops (by kernel_rfl) rfl (fun g4 hg4 ops4 KR4 hops4 hKR4 => ?_)
   refine aops_eval 1 hops4 ?_
   simp only [go_sem, List.map_nil, List.length_nil]
   refine aops_pure hops4 rfl rfl rfl (c3 _ _) (CoL.refl _) ?_
   refine aops_pure hops4 rfl rfl rfl (c4 _ _) (CoL.refl _) ?_
   refine aops_eval 1 hops4 ?_
   simp only [go_sem, List.map_nil]
   refine aops_pure hops4 rfl rfl rfl (c5 _ _) (CoL.refl _) ?_
   refine aops_eval 3 hops4 ?_
   simp only [go_sem, Bool.not_true, List.map_nil, List.length_nil]
   refine aops_pure hops4 rfl rfl rfl (c6 _ _) (CoL.refl _) ?_
   refine aops_last 5 hops4 ?_
   simp only [go_sem, List.map_nil, List.length_nil, show ((0 : Nat) : Int) = 0 from rfl, decide_true]
   refine hKR4 _ ?_
   refine hK7 _ ?_
   refine awp_f rfl ?_
   refine awp_skip ?_
   refine hK6 _ ?_
   refine awp_seq_k (fun K8 hK8 => ?_)
   refine awp_ops (by kernel_rfl) rfl (fun g6 hg6 ops6 KR6 hops6 hKR6 => ?_)
   refine aops_eval 1 hops6 ?_
   simp only [go_sem, List.length_nil]
   refine aops_pure hops6 rfl rfl rfl (c7 _ _) (CoL.refl _) ?_
   refine aops_last 1 hops6 ?_
   simp only [go_sem]
   refine hKR6 _ ?_
   refine hK8 _ ?_
   refine awp_seq_k (fun K9 hK9 => ?_)
   refine awp_seq_k (fun K10 hK10 => ?_)
   refine awp_plain 3 (by kernel_rfl) rfl (fun g7 hg7 => ?_)
   simp only [go_sem, List.length_nil, show ((0 : Nat) : Int) = 0 from rfl, decide_true]
   refine hK10 _ ?_
   refine awp_t rfl ?_
   refine awp_seq_k (fun K11 hK11 => ?_)
   refine awp_plain 3 (by kernel_rfl) rfl (fun g8 hg8 => ?_)
   simp only [go_sem]
   refine hK11 _ ?_
   refine awp_ret ?_
   refine ends_ev rfl ?_
   simp only [go_sem]
   exact Co.refl _
  | cons X r =>
   obtain ⟨a, ha⟩ := hbs (by simp)
   obtain ⟨B, hB⟩ : ∃ B, B = X :: r := ⟨_, rfl⟩
   have hne : ¬ B.length = 0 := by rw [hB]; simp
   have hne' : ¬ (B.length : Int) = 0 := by omega
   rw [← hB] at c3 c4 c5 c6 c7 c8 ha ⊢
   rw [if_neg hne, ha] at c7
   rw [ha] at c8
   change ∀ g d, ACalls E _ _ _ g d (dI a) _ at c8
   change ∀ g d, ACalls E _ _ _ g d (fD 5 a) _ at c7
   rw [decide_eq_false hne] at c6
   refine awp_ops (by kernel_rfl) rfl (fun g4 hg4 ops4 KR4 hops4 hKR4 => ?_)
   refine aops_eval 1 hops4 ?_
   simp only [go_sem]
   refine aops_pure hops4 rfl rfl rfl (c3 _ _) (CoL.refl _) ?_
   refine aops_pure hops4 rfl rfl rfl (c4 _ _) (CoL.refl _) ?_
   refine aops_eval 1 hops4 ?_
   simp only [go_sem]
   refine aops_pure hops4 rfl rfl rfl (c5 _ _) (CoL.refl _) ?_
   refine aops_eval 3 hops4 ?_
   simp only [go_sem, Bool.not_true]
   refine aops_pure hops4 rfl rfl rfl (c6 _ _) (CoL.refl _) ?_
   refine aops_last 5 hops4 ?_
   simp only [go_sem, hne', decide_false, decide_true, Bool.not_true]
   refine hKR4 _ ?_
   refine hK7 _ ?_
   refine awp_f rfl ?_
   refine awp_skip ?_
   refine hK6 _ ?_
   refine awp_seq_k (fun K12 hK12 => ?_)
   refine awp_ops (by kernel_rfl) rfl (fun g6 hg6 ops6 KR6 hops6 hKR6 => ?_)
   refine aops_eval 1 hops6 ?_
   simp only [go_sem]
   refine aops_pure hops6 rfl rfl rfl (c7 _ _) (CoL.refl _) ?_
   refine aops_last 1 hops6 ?_
   simp only [go_sem]
   refine hKR6 _ ?_
   refine hK12 _ ?_
   refine awp_seq_k (fun K13 hK13 => ?_)
   refine awp_seq_k (fun K14 hK14 => ?_)
   refine awp_plain 3 (by kernel_rfl) rfl (fun g7 hg7 => ?_)
   simp only [go_sem, hne', decide_false]
   refine hK14 _ ?_
   refine awp_f rfl ?_
   refine awp_skip ?_
   refine hK13 _ ?_
   refine awp_seq_k (fun K15 hK15 => ?_)
   refine awp_ops (by kernel_rfl) rfl (fun g9 hg9 ops9 KR9 hops9 hKR9 => ?_)
   refine aops_eval 1 hops9 ?_
   simp only [go_sem]
   refine aops_pure hops9 rfl rfl rfl (codeF_calls 5 a _ _) (CoL.refl _) ?_
   refine aops_last 5 hops9 ?_
   simp only [go_sem]
   refine hKR9 _ ?_
   refine hK15 _ ?_
   refine awp_seq_k (fun K16 hK16 => ?_)
   refine awp_ops (by kernel_rfl) rfl (fun g10 hg10 ops10 KR10 hops10 hKR10 => ?_)
   refine aops_eval 1 hops10 ?_
   simp only [go_sem]
   refine aops_pure hops10 rfl rfl rfl (atF_calls 5 a _ _) (CoL.refl _) ?_
   refine aops_last 5 hops10 ?_
   simp only [go_sem]
   refine hKR10 _ ?_
   refine hK16 _ ?_
   refine awp_seq_k (fun K17 hK17 => ?_)
   refine awp_ops (by kernel_rfl) rfl (fun g11 hg11 ops11 KR11 hops11 hKR11 => ?_)
   refine aops_eval 11 hops11 ?_
   simp only [go_sem, decide_true]
   refine aops_pure hops11 rfl rfl rfl (c8 _ _) (CoL.refl _) ?_
   refine aops_last 3 hops11 ?_
   simp only [go_sem, decide_true]
   refine hKR11 _ ?_
   refine hK17 _ ?_
   refine awp_ret ?_
   refine ends_ev rfl ?_
   simp only [go_sem]
   exact Co.refl _
end Go.Proofs.T
namespace Go.Proofs.T
open Go Go.Ab Go.RowKit
def Fwd : Nd → List Ed → Nd → Prop
 | a, [], b => a = b
 | a, e :: r, b => e.frm = a ∧ Fwd e.to r b
end Go.Proofs.T
namespace Go.Proofs.T
open Go Go.Ab Go.RowKit
def lessP (p : Prg) (j : Nat) : Prg := ⟨p.decls.take j ++ p.decls.drop (j + 1), p.main⟩
end Go.Proofs.T
namespace Go.Proofs.T
open Go Go.Ab Go.RowKit
variable {H : Type} {enc : TypeId × Value → H} {w : World}
theorem opStr (n : Nat) : Opens enc Tryz.prog w 9 (fun s : Str => [.val (.string s)]) (fun s => s.size ≤ 9223372036854775807) n := opens_str (by kernel_rfl) n
theorem opInt (n : Nat) : Opens enc Tryz.prog w 3 (fun i : Int => [.val (.int .i64 i)]) (fun i => -9223372036854775808 ≤ i ∧ i ≤ 9223372036854775807) n := opens_int (by kernel_rfl) n
theorem encTy_cellsF : (fun a => (encTy a).cells) = tyC := funext fun a => by rw [encTy_agg]; rfl
theorem opTy : ∀ n : Nat, Opens enc Tryz.prog w 25 tyC okTy n := by
 intro n
 induction n using Nat.strongRecOn with
 | _ n ih =>
  cases n with
  | zero => exact Opens.zero
  | succ n =>
   intro cs x h
   obtain ⟨nm, k1, s1⟩ := open_at 0 (show fieldAt Tryz.prog 25 0 = some (9, 0) by kernel_rfl) h (opStr n)
   obtain ⟨ars, k2, s2⟩ := open_at 1 (show fieldAt Tryz.prog 25 1 = some (23, 1) by kernel_rfl) h
    (opens_slb (e := 25) (k := 3) (f := encTy) (by kernel_rfl) (by kernel_rfl) (by decide) (fun a => by rw [encTy_agg]; rfl)
     (fun m hm => by rw [encTy_cellsF]; exact ih m (by omega)))
   obtain ⟨ps, _, s3⟩ := open_at 2 (show fieldAt Tryz.prog 25 2 = some (3, 2) by kernel_rfl) h (opInt n)
   refine ⟨.mk nm ars ps, (okTy_iff _).2 ⟨k1, k2.1, k2.2⟩, (open_len (by kernel_rfl) h).trans (by kernel_rfl), ?_⟩
   exact (s1.app s2 rfl).app s3 rfl
theorem opTys (n : Nat) : Opens enc Tryz.prog w 23 (fun l : List Ty => [slTy l]) (fun l => l.length ≤ 9223372036854775807 ∧ ∀ a ∈ l, okTy a) n :=
 opens_slb (e := 25) (k := 3) (f := encTy) (by kernel_rfl) (by kernel_rfl) (by decide) (fun a => by rw [encTy_agg]; rfl) (fun m _ => by rw [encTy_cellsF]; exact opTy m)
theorem opStrs (n : Nat) : Opens enc Tryz.prog w 67 (fun l : List Str => [slS l]) (fun l => l.length ≤ 9223372036854775807 ∧ ∀ a ∈ l, a.size ≤ 9223372036854775807) n :=
 opens_slb (e := 9) (k := 1) (f := encS) (by kernel_rfl) (by kernel_rfl) (by decide) (fun a => rfl) (fun m _ => opStr m)
theorem opFm (n : Nat) : Opens enc Tryz.prog w 63 (fun f => (encFm f).cells) okFm n := by
 cases n with
 | zero => exact Opens.zero
 | succ n =>
  intro cs x h
  obtain ⟨nm, k1, s1⟩ := open_at 0 (show fieldAt Tryz.prog 63 0 = some (9, 0) by kernel_rfl) h (opStr n)
  obtain ⟨t, k2, s2⟩ := open_at 1 (show fieldAt Tryz.prog 63 1 = some (25, 1) by kernel_rfl) h (opTy n)
  obtain ⟨ps, _, s3⟩ := open_at 2 (show fieldAt Tryz.prog 63 2 = some (3, 4) by kernel_rfl) h (opInt n)
  exact ⟨⟨nm, t, ps⟩, ⟨k1, k2⟩, (open_len (by kernel_rfl) h).trans (by kernel_rfl), (s1.app s2 rfl).app s3 rfl⟩
theorem opPa (n : Nat) : Opens enc Tryz.prog w 118 (fun f => (encPa f).cells) okPa n := by
 cases n with
 | zero => exact Opens.zero
 | succ n =>
  intro cs x h
  obtain ⟨nm, k1, s1⟩ := open_at 0 (show fieldAt Tryz.prog 118 0 = some (9, 0) by kernel_rfl) h (opStr n)
  obtain ⟨t, k2, s2⟩ := open_at 1 (show fieldAt Tryz.prog 118 1 = some (25, 1) by kernel_rfl) h (opTy n)
  obtain ⟨ps, _, s3⟩ := open_at 2 (show fieldAt Tryz.prog 118 2 = some (3, 4) by kernel_rfl) h (opInt n)
  exact ⟨⟨nm, t, ps⟩, ⟨k1, k2⟩, (open_len (by kernel_rfl) h).trans (by kernel_rfl), (s1.app s2 rfl).app s3 rfl⟩
theorem opFms (n : Nat) : Opens enc Tryz.prog w 64 (fun l : List Formal => [slFm l]) (fun l => l.length ≤ 9223372036854775807 ∧ ∀ a ∈ l, okFm a) n :=
 opens_slb (e := 63) (k := 5) (f := encFm) (by kernel_rfl) (by kernel_rfl) (by decide) (fun a => rfl) (fun m _ => opFm m)
theorem opPas (n : Nat) : Opens enc Tryz.prog w 65 (fun l : List Param => [slPa l]) (fun l => l.length ≤ 9223372036854775807 ∧ ∀ a ∈ l, okPa a) n :=
 opens_slb (e := 118) (k := 5) (f := encPa) (by kernel_rfl) (by kernel_rfl) (by decide) (fun a => rfl) (fun m _ => opPa m)
theorem opSi (n : Nat) : Opens enc Tryz.prog w 69 siC okSi n := by
 cases n with
 | zero => exact Opens.zero
 | succ n =>
  intro cs x h
  obtain ⟨nm, k1, s1⟩ := open_at 0 (show fieldAt Tryz.prog 69 0 = some (9, 0) by kernel_rfl) h (opStr n)
  obtain ⟨fs, k2, s2⟩ := open_at 1 (show fieldAt Tryz.prog 69 1 = some (64, 1) by kernel_rfl) h (opFms n)
  obtain ⟨ars, k3, s3⟩ := open_at 2 (show fieldAt Tryz.prog 69 2 = some (65, 2) by kernel_rfl) h (opPas n)
  obtain ⟨t, k4, s4⟩ := open_at 3 (show fieldAt Tryz.prog 69 3 = some (25, 3) by kernel_rfl) h (opTy n)
  obtain ⟨ps, _, s5⟩ := open_at 4 (show fieldAt Tryz.prog 69 4 = some (3, 6) by kernel_rfl) h (opInt n)
  exact ⟨⟨nm, fs, ars, t, ps⟩, ⟨k1, k2, k3, k4⟩, (open_len (by kernel_rfl) h).trans (by kernel_rfl), (((s1.app s2 rfl).app s3 rfl).app s4 rfl).app s5 rfl⟩
set_option maxRecDepth 100000
variable {b0 : Nat} {v : Value} {d : DataW H} {ps : List MemPlace}
end Go.Proofs.T
namespace Go.Proofs.T
open Go Go.Ab Go.RowKit
variable {H : Type} {enc : TypeId × Value → H} {w : World}
theorem encEx_cellsF : (fun a => (encEx a).cells) = exC := funext fun a => by rw [encEx_agg]; rfl
theorem opEx : ∀ n : Nat, Opens enc Tryz.prog w 28 exC okEx n := by
 intro n
 induction n using Nat.strongRecOn with
 | _ n ih =>
  cases n with
  | zero => exact Opens.zero
  | succ n =>
   intro cs x h
   obtain ⟨kd, _, s0⟩ := open_at 0 (show fieldAt Tryz.prog 28 0 = some (3, 0) by kernel_rfl) h (opInt n)
   obtain ⟨nm, k1, s1⟩ := open_at 1 (show fieldAt Tryz.prog 28 1 = some (9, 1) by kernel_rfl) h (opStr n)
   obtain ⟨ty, k2, s2⟩ := open_at 2 (show fieldAt Tryz.prog 28 2 = some (25, 2) by kernel_rfl) h (opTy n)
   obtain ⟨ars, k3, s3⟩ := open_at 3 (show fieldAt Tryz.prog 28 3 = some (23, 5) by kernel_rfl) h (opTys n)
   obtain ⟨kids, k4, s4⟩ := open_at 4 (show fieldAt Tryz.prog 28 4 = some (26, 6) by kernel_rfl) h
    (opens_slb (e := 28) (k := 8) (f := encEx) (by kernel_rfl) (by kernel_rfl) (by decide) (fun a => by rw [encEx_agg]; rfl)
     (fun m hm => by rw [encEx_cellsF]; exact ih m (by omega)))
   obtain ⟨ps, _, s5⟩ := open_at 5 (show fieldAt Tryz.prog 28 5 = some (3, 7) by kernel_rfl) h (opInt n)
   refine ⟨.mk kd nm ty ars kids ps, (okEx_iff _).2 ⟨k1, k2, k3, k4.1, k4.2⟩, (open_len (by kernel_rfl) h).trans (by kernel_rfl), ?_⟩
   exact ((((s0.app s1 rfl).app s2 rfl).app s3 rfl).app s4 rfl).app s5 rfl
theorem opSis (n : Nat) : Opens enc Tryz.prog w 66 (fun l : List Sig => [slSi l]) (fun l => l.length ≤ 9223372036854775807 ∧ ∀ a ∈ l, okSi a) n :=
 opens_slb (e := 69) (k := 7) (f := encSi) (by kernel_rfl) (by kernel_rfl) (by decide) (fun a => rfl) (fun m _ => opSi m)
theorem opDe (n : Nat) : Opens enc Tryz.prog w 71 (fun a => (encDe a).cells) okDe n := by
 cases n with
 | zero => exact Opens.zero
 | succ n =>
  intro cs x h
  obtain ⟨kd, _, s0⟩ := open_at 0 (show fieldAt Tryz.prog 71 0 = some (3, 0) by kernel_rfl) h (opInt n)
  obtain ⟨nm, k1, s1⟩ := open_at 1 (show fieldAt Tryz.prog 71 1 = some (9, 1) by kernel_rfl) h (opStr n)
  obtain ⟨fm, k2, s2⟩ := open_at 2 (show fieldAt Tryz.prog 71 2 = some (64, 2) by kernel_rfl) h (opFms n)
  obtain ⟨fd, k3, s3⟩ := open_at 3 (show fieldAt Tryz.prog 71 3 = some (65, 3) by kernel_rfl) h (opPas n)
  obtain ⟨sg, k4, s4⟩ := open_at 4 (show fieldAt Tryz.prog 71 4 = some (66, 4) by kernel_rfl) h (opSis n)
  obtain ⟨rc, k5, s5⟩ := open_at 5 (show fieldAt Tryz.prog 71 5 = some (9, 5) by kernel_rfl) h (opStr n)
  obtain ⟨vs, k6, s6⟩ := open_at 6 (show fieldAt Tryz.prog 71 6 = some (67, 6) by kernel_rfl) h (opStrs n)
  obtain ⟨si, k7, s7⟩ := open_at 7 (show fieldAt Tryz.prog 71 7 = some (69, 7) by kernel_rfl) h (opSi n)
  obtain ⟨bd, k8, s8⟩ := open_at 8 (show fieldAt Tryz.prog 71 8 = some (28, 14) by kernel_rfl) h (opEx n)
  obtain ⟨ps, _, s9⟩ := open_at 9 (show fieldAt Tryz.prog 71 9 = some (3, 22) by kernel_rfl) h (opInt n)
  refine ⟨⟨kd, nm, fm, fd, sg, rc, vs, si, bd, ps⟩, ⟨k1, k2, k3, k4, k5, k6, k7, k8⟩, (open_len (by kernel_rfl) h).trans (by kernel_rfl), ?_⟩
  exact ((((((((s0.app s1 rfl).app s2 rfl).app s3 rfl).app s4 rfl).app s5 rfl).app s6 rfl).app s7 rfl).app s8 rfl).app s9 rfl
theorem opDes (n : Nat) : Opens enc Tryz.prog w 22 (fun l : List Dec => [slDe l]) (fun l => l.length ≤ 9223372036854775807 ∧ ∀ a ∈ l, okDe a) n :=
 opens_slb (e := 71) (k := 23) (f := encDe) (by kernel_rfl) (by kernel_rfl) (by decide) (fun a => rfl) (fun m _ => opDe m)
theorem opPr (n : Nat) : Opens enc Tryz.prog w 30 prC okPr n := by
 cases n with
 | zero => exact Opens.zero
 | succ n =>
  intro cs x h
  obtain ⟨ds, k0, s0⟩ := open_at 0 (show fieldAt Tryz.prog 30 0 = some (22, 0) by kernel_rfl) h (opDes n)
  obtain ⟨mn, k1, s1⟩ := open_at 1 (show fieldAt Tryz.prog 30 1 = some (28, 1) by kernel_rfl) h (opEx n)
  exact ⟨⟨ds, mn⟩, ⟨k0, k1⟩, (open_len (by kernel_rfl) h).trans (by kernel_rfl), s0.app s1 rfl⟩
set_option maxRecDepth 100000
variable {b0 : Nat} {v : Value} {d : DataW H} {ps : List MemPlace}
theorem argPr (hval : Value.okWide Tryz.prog w .any b0 30 v) (h : DataW.Trod enc Tryz.prog w 0 (fun _ => true) true 30 v d ps) : ∃ s, okPr s ∧ V (G0 w) w v (encPr s) := open_agg (by kernel_rfl) opPr hval h
def zPrg : Value := .agg #[.slice none 0 0, .int .i64 0, .string ByteArray.empty, .string ByteArray.empty, .slice none 0 0, .int .i64 0, .slice none 0 0, .slice none 0 0, .int .i64 0]
end Go.Proofs.T
namespace Go.Proofs.T
open Go Go.Ab Go.RowKit
variable {H : Type} {enc : TypeId × Value → H} {w : World}
variable {b0 : Nat} {v : Value} {d : DataW H} {ps : List MemPlace}
end Go.Proofs.T
namespace Go.Proofs.T
open Go Go.Ab Go.RowKit
theorem oneRow : ((List.range Tryz.prog.types.size).filter fun t => Tryz.prog.rowNamed t [101, 114, 114, 111, 114]) = [54] := by kernel_rfl
theorem rtRow : (Tryz.prog.cutTypes.find? (·.1 == "internal/reflectlite.rtype")).map (·.2) = some 172 := by kernel_rfl
theorem laidE_of {W : World} (hh : handlesMet Tryz.prog [("errors.errorType", .iface "internal/reflectlite.rtype" (.agg [.ptr (.lit (.string [101, 114, 114, 111, 114]))]))] W) : LaidE W := by
 obtain ⟨name, u, ty, e1, e2, e3, e4, e5⟩ := hh _ (List.mem_singleton.2 rfl)
 have en : name = [101, 114, 114, 111, 114] := (Option.some.inj e1).symm
 subst en
 obtain rfl := Option.some.inj (rtRow.symm.trans e2)
 have hm : ty ∈ (List.range Tryz.prog.types.size).filter fun t => Tryz.prog.rowNamed t [101, 114, 114, 111, 114] := List.mem_filter.2 ⟨List.mem_range.2 e3, e4⟩
 rw [oneRow] at hm
 obtain rfl := List.mem_singleton.1 hm
 have hx : typeHandle Tryz.prog 54 = errT := by kernel_rfl
 rw [hx] at e5
 exact World.var?_cell (by kernel_rfl) e5 0
variable {H : Type} {enc : TypeId × Value → H} {w : World}
def okNd3 (x : Nd) : Prop := x.name.size ≤ 9223372036854775807
set_option maxRecDepth 100000
variable {b0 : Nat} {v : Value} {d : DataW H} {ps : List MemPlace}
def zNode : Value := .agg #[.bool false, .string ByteArray.empty, .int .i64 0]
end Go.Proofs.T
namespace Go.Ab
open Go Go.RowKit
variable {H : Type} {enc : TypeId × Value → H} {P : Program} {W W' : World}
end Go.Ab
namespace Go.Proofs.YtjicgnbcelhoiaaGreatDoor
open Go Go.Ab Go.RowKit Go.ChangeShapes Go.WideShapes Go.Proofs.T
theorem own : ownKnob Tryz.prog.godebug = none := by kernel_rfl
theorem laidOut : laidOutB Tryz.prog = true := by kernel_rfl
theorem isBool : Tryz.prog.underlying 4 = some .bool := by kernel_rfl
def laid : List (String × DataW Unit) := [("errors.errorType", Rows.laid_errors_errorType)]
theorem laid_met (os : Os) (args : Array Value) : laidMetH Tryz.prog laid ((World.doorLaid Tryz.prog 400 os).forCall (fun _ _ => 0) ⟨#[], args, []⟩).memory :=
 laidMetH_of_parts3 (fuel := 8) (laidMet_of_run3 8 (by kernel_rfl) (by kernel_rfl) (by kernel_rfl)) (by kernel_rfl) (by kernel_rfl)
theorem laid_tab {W : World} (h : laidMetH Tryz.prog laid W) : E.A W := by
 have h2 : laidMet Tryz.prog [] W ∧ handlesMet Tryz.prog [("errors.errorType", Rows.laid_errors_errorType)] W := h
 exact laidE_of h2.2
set_option maxRecDepth 100000 in
theorem nomonoMatchesReference_lifted (os : Os) (started : os.Started) (H : Type) (enc : TypeId × Value → H) :
  ReturnsInHanded {} Tryz.checked os 6 .any (fun w args => (Rows.nomonoMatchesReferenceSpec.pre enc Tryz.prog Tryz.f6 [] false w args ∧ laidMetH Tryz.prog laid w) ∧ sizedMet enc Tryz.prog Tryz.f6 (OpenSpec.ofChange Rows.nomonoMatchesReferenceSpec) false w args)
   (Rows.nomonoMatchesReferenceSpec.post enc Tryz.prog Tryz.f6 false true false false) :=
 lifted (C := Tryz.checked) (E := E) rfl (fun _ h => laid_tab h) own started (by kernel_rfl) Tryz.func6
  (ChangeSpec.witness_shaped (enc := enc) (C := Tryz.checked) (os := os) (X := fun w _ => laidMetH Tryz.prog laid w) false (World.doorLaid Tryz.prog 400 os) #[zPrg] 8 rfl (World.shaped_of_RefB (by kernel_rfl) (by kernel_rfl)) (by kernel_rfl) (by kernel_rfl) (by kernel_rfl) (laid_met os _))
  rfl (by kernel_rfl) isBool laidOut (by kernel_rfl) (fun W base args ds p hval hA => by
   rw [show Tryz.f6.params.toList = [30] from rfl] at hA
   rw [show Tryz.f6.params = #[30] from rfl] at hval
   obtain ⟨v0, d0, rfl, rfl, h0⟩ := trodAll_one hA
   obtain ⟨a0, k0, q0⟩ := argPr (hval 0 30 v0 rfl rfl) h0
   exact ⟨⟨_, .one1 q0, fun g d => nomonoRef_calls a0 k0 g d⟩, rfl⟩)
theorem nomonoMatchesReference_holds : Rows.NomonoMatchesReferenceSaid :=
 OpenClaim.holds_of_wide 6 Tryz.f6 rfl rfl rfl rfl rfl rfl rfl ⟨rfl, rfl, rfl, rfl, rfl⟩ rfl rfl rfl rfl rfl (by kernel_rfl) Tryz.func6 (by kernel_rfl)
  (of_decide_eq_true (by kernel_rfl)) (by unfold Func.isWrapper; rw [if_neg (of_decide_eq_false (by kernel_rfl))]; exact ⟨rfl, rfl⟩)
  (fun os started H enc _ => nomonoMatchesReference_lifted os started H enc)
end Go.Proofs.YtjicgnbcelhoiaaGreatDoor
