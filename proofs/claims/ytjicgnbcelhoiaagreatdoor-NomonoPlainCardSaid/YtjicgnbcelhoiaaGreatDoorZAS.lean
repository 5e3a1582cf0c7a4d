/- A part of the proof, under no conditions of its own: ZAS. -/
import Derived.Test.YtjicgnbcelhoiaaGreatDoorZAP
import Derived.Test.YtjicgnbcelhoiaaGreatDoorZAR
namespace Go.Proofs.T
open Go Go.Ab Go.RowKit
set_option maxRecDepth 100000 in
theorem types05z (l : List Ty) (hl : l.length ≤ 1000000) (g d : Nat) : ACalls E 112 [slTy l, slTy []] [] g d (dB (decide (l.length = 0))) [] := by
 refine acalls_of_awp (fn := Tryz.f112) (N := 27) Tryz.call112 Tryz.func112 rfl rfl (by simp) ?_
 simp only [go_sem]
 refine awp_seq_k (fun K1 hK1 => ?_)
 refine awp_plain 1 (by kernel_rfl) rfl (fun g0 hg0 => ?_)
 simp only [go_sem]
 refine hK1 _ ?_
 refine awp_seq_k (fun K2 hK2 => ?_)
 refine awp_seq_k (fun K3 hK3 => ?_)
 by_cases h0 : l.length = 0
 ·obtain rfl : l = [] := List.eq_nil_of_length_eq_zero h0
  refine awp_plain 5 (by kernel_rfl) rfl (fun g1 hg1 => ?_)
  simp only [go_sem, List.length_nil, decide_true, Bool.not_true]
  refine hK3 _ ?_
  refine awp_f rfl ?_
  refine awp_skip ?_
  refine hK2 _ ?_
  refine awp_seq_k (fun K4 hK4 => ?_)
  refine awp_seq_k (fun K5 hK5 => ?_)
  refine awp_plain 1 (by kernel_rfl) rfl (fun g3 hg3 => ?_)
  simp only [go_sem]
  refine hK5 _ ?_
  refine awp_block ?_
  refine awp_loop (fun m s => m = 0 ∧ Le { env := [(0, slTy []), (1, slTy []), (5, dN 0)], σ := [] } s) 0 ?_ ?_
  ·refine ⟨rfl, le_of ?_⟩
   simp only [go_sem]
   all_goals first | exact rfl | exact ⟨rfl, rfl⟩ | trivial
  ·rintro m s ⟨rfl, hle⟩
   refine awp_keep hle ?_
   clear hle
   refine awp_seq_k (fun K6 hK6 => ?_)
   refine awp_seq_k (fun K7 hK7 => ?_)
   refine awp_plain 4 (by kernel_rfl) rfl (fun g4 hg4 => ?_)
   simp only [go_sem, List.length_nil, show (((0 : Nat) : Int) < ((0 : Nat) : Int)) = False from eq_false (by decide), decide_false]
   refine hK7 _ ?_
   refine awp_f rfl ?_
   refine awp_exit ?_
   refine hK4 _ ?_
   refine awp_seq_k (fun K8 hK8 => ?_)
   refine awp_plain 1 (by kernel_rfl) rfl (fun g8 hg8 => ?_)
   simp only [go_sem]
   refine hK8 _ ?_
   refine awp_ret ?_
   refine ends_ev rfl ?_
   simp only [go_sem]
   exact Co.of_eq (by simp [])
 ·have h1 : ((l.length : Int) = ((0 : Nat) : Int)) = False := eq_false (by omega)
  refine awp_plain 5 (by kernel_rfl) rfl (fun g1 hg1 => ?_)
  simp only [go_sem, List.length_nil, h1, decide_false, Bool.not_false]
  refine hK3 _ ?_
  refine awp_t rfl ?_
  refine awp_seq_k (fun K9 hK9 => ?_)
  refine awp_plain 1 (by kernel_rfl) rfl (fun g2 hg2 => ?_)
  simp only [go_sem]
  refine hK9 _ ?_
  refine awp_ret ?_
  refine ends_ev rfl ?_
  simp only [go_sem]
  exact Co.of_eq (by simp [h0])
noncomputable def sameZ (e : Ex) : Bool := decide (e.kind = 0) && (decide (e.name = ByteArray.empty) && (decide (cmpTy e.type zeroTy = 0) && (decide (e.targs.length = 0) && decide (e.kids.length = 0))))
set_option maxRecDepth 100000 in
theorem same05z (e : Ex) (h : okEx e) (h2 : e.targs.length ≤ 1000000) (g d : Nat) : ACalls E 83 [encEx e, encEx zeroEx] [] g d (dB (sameZ e)) [] := by
 have hz := ((okEx_iff e).1 h).2.1
 refine acalls_of_awp (fn := Tryz.f83) (N := 62) Tryz.call83 Tryz.func83 rfl rfl (by simp) ?_
 simp only [go_sem]
 refine awp_seq_k (fun K1 hK1 => ?_)
 refine awp_plain 3 (by kernel_rfl) rfl (fun g0 hg0 => ?_)
 simp only [go_sem]
 refine hK1 _ ?_
 refine awp_seq_k (fun K2 hK2 => ?_)
 refine awp_seq_k (fun K3 hK3 => ?_)
 by_cases k0 : e.kind = 0
 ·have q0 : (e.kind = 0) = True := eq_true k0
  by_cases n0 : e.name = ByteArray.empty
  ·have m0 : (e.name = ByteArray.empty) = True := eq_true n0
   cases hb : decide (cmpTy e.type zeroTy = 0) with
   | true =>
    by_cases t0 : e.targs.length = 0
    ·by_cases c0 : e.kids.length = 0
     ·refine awp_ops (by kernel_rfl) rfl (fun g1 hg1 ops1 KR1 hops1 hKR1 => ?_)
      refine aops_eval 17 hops1 ?_
      simp only [go_sem, zeroEx, q0, m0, decide_true, Bool.not_true]
      refine aops_pure hops1 rfl rfl rfl (ref04Same_calls e.type zeroTy hz _ _) (CoL.refl _) ?_
      refine aops_eval 7 hops1 ?_
      simp only [go_sem, hb, Bool.not_true]
      refine aops_pure hops1 rfl rfl rfl (types05z e.targs h2 _ _) (CoL.refl _) ?_
      refine aops_last 11 hops1 ?_
      simp only [go_sem, t0, c0, decide_true, Bool.not_true, List.length_nil]
      refine hKR1 _ ?_
      refine hK3 _ ?_
      refine awp_f rfl ?_
      refine awp_skip ?_
      refine hK2 _ ?_
      refine awp_seq_k (fun K4 hK4 => ?_)
      refine awp_seq_k (fun K5 hK5 => ?_)
      refine awp_plain 1 (by kernel_rfl) rfl (fun g3 hg3 => ?_)
      simp only [go_sem]
      refine hK5 _ ?_
      refine awp_block ?_
      refine awp_loop (fun m s => m = 0 ∧ Le { env := [(2, .ptr ⟨g0, 2, 0⟩ 0), (5, dN 0)], σ := [(⟨g0, 2, 0⟩, .box 28 (exC e))] } s) 0 ?_ ?_
      ·refine ⟨rfl, le_of ?_⟩
       simp only [go_sem, exC]
       all_goals first | exact rfl | exact ⟨rfl, rfl⟩ | trivial
      ·rintro m s ⟨rfl, hle⟩
       refine awp_keep hle ?_
       clear hle
       refine awp_seq_k (fun K6 hK6 => ?_)
       refine awp_seq_k (fun K7 hK7 => ?_)
       refine awp_plain 5 (by kernel_rfl) rfl (fun g4 hg4 => ?_)
       simp only [go_sem, exC, c0, show (((0 : Nat) : Int) < ((0 : Nat) : Int)) = False from eq_false (by decide), decide_false]
       refine hK7 _ ?_
       refine awp_f rfl ?_
       refine awp_exit ?_
       refine hK4 _ ?_
       refine awp_seq_k (fun K8 hK8 => ?_)
       refine awp_plain 1 (by kernel_rfl) rfl (fun g8 hg8 => ?_)
       simp only [go_sem]
       refine hK8 _ ?_
       refine awp_ret ?_
       refine ends_ev rfl ?_
       simp only [go_sem]
       exact Co.of_eq (by simp [sameZ, k0, n0, hb, t0, c0])
     ·have c1 : ((e.kids.length : Int) = ((0 : Nat) : Int)) = False := eq_false (by omega)
      refine awp_ops (by kernel_rfl) rfl (fun g1 hg1 ops1 KR1 hops1 hKR1 => ?_)
      refine aops_eval 17 hops1 ?_
      simp only [go_sem, zeroEx, q0, m0, decide_true, Bool.not_true]
      refine aops_pure hops1 rfl rfl rfl (ref04Same_calls e.type zeroTy hz _ _) (CoL.refl _) ?_
      refine aops_eval 7 hops1 ?_
      simp only [go_sem, hb, Bool.not_true]
      refine aops_pure hops1 rfl rfl rfl (types05z e.targs h2 _ _) (CoL.refl _) ?_
      refine aops_last 11 hops1 ?_
      simp only [go_sem, t0, c1, decide_true, decide_false, Bool.not_true, Bool.not_false, List.length_nil]
      refine hKR1 _ ?_
      refine hK3 _ ?_
      refine awp_t rfl ?_
      refine awp_seq_k (fun K9 hK9 => ?_)
      refine awp_plain 1 (by kernel_rfl) rfl (fun g2 hg2 => ?_)
      simp only [go_sem]
      refine hK9 _ ?_
      refine awp_ret ?_
      refine ends_ev rfl ?_
      simp only [go_sem]
      exact Co.of_eq (by simp [sameZ, c0])
    ·refine awp_ops (by kernel_rfl) rfl (fun g1 hg1 ops1 KR1 hops1 hKR1 => ?_)
     refine aops_eval 17 hops1 ?_
     simp only [go_sem, zeroEx, q0, m0, decide_true, Bool.not_true]
     refine aops_pure hops1 rfl rfl rfl (ref04Same_calls e.type zeroTy hz _ _) (CoL.refl _) ?_
     refine aops_eval 7 hops1 ?_
     simp only [go_sem, hb, Bool.not_true]
     refine aops_pure hops1 rfl rfl rfl (types05z e.targs h2 _ _) (CoL.refl _) ?_
     refine aops_last 11 hops1 ?_
     simp only [go_sem, t0, decide_false, Bool.not_true, Bool.not_false]
     refine hKR1 _ ?_
     refine hK3 _ ?_
     refine awp_t rfl ?_
     refine awp_seq_k (fun K10 hK10 => ?_)
     refine awp_plain 1 (by kernel_rfl) rfl (fun g2 hg2 => ?_)
     simp only [go_sem]
     refine hK10 _ ?_
     refine awp_ret ?_
     refine ends_ev rfl ?_
     simp only [go_sem]
     exact Co.of_eq (by simp [sameZ, t0])
   | false =>
    refine awp_ops (by kernel_rfl) rfl (fun g1 hg1 ops1 KR1 hops1 hKR1 => ?_)
    refine aops_eval 17 hops1 ?_
    simp only [go_sem, zeroEx, q0, m0, decide_true, Bool.not_true]
    refine aops_pure hops1 rfl rfl rfl (ref04Same_calls e.type zeroTy hz _ _) (CoL.refl _) ?_
    refine aops_last 19 hops1 ?_
    simp only [go_sem, hb, Bool.not_false]
    refine hKR1 _ ?_
    refine hK3 _ ?_
    refine awp_t rfl ?_
    refine awp_seq_k (fun K11 hK11 => ?_)
    refine awp_plain 1 (by kernel_rfl) rfl (fun g2 hg2 => ?_)
    simp only [go_sem]
    refine hK11 _ ?_
    refine awp_ret ?_
    refine ends_ev rfl ?_
    simp only [go_sem]
    exact Co.of_eq (by simp [sameZ, of_decide_eq_false hb])
  ·have m0 : (e.name = ByteArray.empty) = False := eq_false n0
   refine awp_plain 37 (by kernel_rfl) rfl (fun g1 hg1 => ?_)
   simp only [go_sem, zeroEx, q0, m0, decide_true, decide_false, Bool.not_true, Bool.not_false]
   refine hK3 _ ?_
   refine awp_t rfl ?_
   refine awp_seq_k (fun K12 hK12 => ?_)
   refine awp_plain 1 (by kernel_rfl) rfl (fun g2 hg2 => ?_)
   simp only [go_sem]
   refine hK12 _ ?_
   refine awp_ret ?_
   refine ends_ev rfl ?_
   simp only [go_sem]
   exact Co.of_eq (by simp [sameZ, n0])
 ·have q0 : (e.kind = 0) = False := eq_false k0
  refine awp_plain 37 (by kernel_rfl) rfl (fun g1 hg1 => ?_)
  simp only [go_sem, zeroEx, q0, decide_false, Bool.not_true, Bool.not_false]
  refine hK3 _ ?_
  refine awp_t rfl ?_
  refine awp_seq_k (fun K13 hK13 => ?_)
  refine awp_plain 1 (by kernel_rfl) rfl (fun g2 hg2 => ?_)
  simp only [go_sem]
  refine hK13 _ ?_
  refine awp_ret ?_
  refine ends_ev rfl ?_
  simp only [go_sem]
  exact Co.of_eq (by simp [sameZ, k0])
end Go.Proofs.T
namespace Go.Proofs.T
open Go Go.Ab Go.RowKit
noncomputable def noneDe (d : Dec) : Bool := decide (d.recv = (⟨#[]⟩ : ByteArray)) && (decide ((d.vars.length : Int) = 0) && (refSi false d.sig zeroSi && sameZ d.body))
noncomputable def methDe (d : Dec) : Bool := nmOk d.recv && (decide ((d.formals.length : Int) + d.fields.length + d.sigs.length = 0) && (rightSi d.sig && rightEx d.body))
noncomputable def tailDe (d : Dec) : Bool := if d.kind = 3 then methDe d else noneDe d && ((decide (d.kind = 1) && decide ((d.sigs.length : Int) = 0)) || (decide (d.kind = 2) && decide ((d.fields.length : Int) = 0)))
noncomputable def rightDe (d : Dec) : Bool := nmOk d.name && (d.formals.all rightFm && (d.fields.all rightPa && (d.sigs.all rightSi && (d.vars.all nmOk && tailDe d))))
theorem siTys_len (s : Sig) : s.formals.length + s.params.length + 1 ≤ wN (siTys s) := by
 have h2 := wN_len (siTys s)
 have : (siTys s).length = s.formals.length + s.params.length + 1 := by simp [siTys]; omega
 omega
set_option maxRecDepth 100000 in
theorem rightDe_calls (d : Dec) (hd : smDe d) (hw : wN (deTys d) ≤ 1000000) (g q : Nat) : ACalls E 50 [encDe d] [] g q (dB (rightDe d)) [] := by
 obtain ⟨k1, ⟨k2, k3⟩, ⟨k4, k5⟩, ⟨k6, k7⟩, k8, ⟨k9, k10⟩, k11, k12⟩ := hd
 have w1 : ∀ t ∈ deTys d, (namesTy t).length ≤ 1000000 := fun t ht => Nat.le_trans (wN_mem ht) hw
 have w2 : ∀ f ∈ d.formals, (namesTy f.bound).length ≤ 1000000 := fun f hf => w1 _ (by unfold deTys; simp; exact .inl ⟨f, hf, rfl⟩)
 have w3 : ∀ f ∈ d.fields, (namesTy f.type).length ≤ 1000000 := fun f hf => w1 _ (by unfold deTys; simp; exact .inr (.inl ⟨f, hf, rfl⟩))
 have hw2 := hw
 unfold deTys at hw2
 rw [wN_app, wN_app, wN_app, wN_app, wN_flat] at hw2
 have w4 : ∀ s ∈ d.sigs, wN (siTys s) ≤ 1000000 := fun s hs => by
  have : wN (siTys s) ≤ (d.sigs.map (fun a => wN (siTys a))).sum := by
   clear hw2
   revert hs
   generalize d.sigs = l
   intro hs
   induction l with
   | nil => cases hs
   | cons x r ih =>
    rw [List.map_cons, List.sum_cons]
    rcases List.mem_cons.1 hs with rfl | h
    ·omega
    ·have := ih h; omega
  omega
 have w5 : wN (siTys d.sig) ≤ 1000000 := by omega
 have w6 : wN (exTys d.body) ≤ 1000000 := by omega
 have w7 : ∀ s ∈ d.sigs, s.formals.length ≤ 1000000 ∧ s.params.length ≤ 1000000 := fun s hs => by
  have := w4 s hs
  have h2 := siTys_len s
  omega
 have w8 : d.sig.formals.length ≤ 1000000 ∧ d.sig.params.length ≤ 1000000 := by
  have h2 := siTys_len d.sig
  omega
 refine acalls_of_awp (fn := Tryz.f50) (N := 124) Tryz.call50 Tryz.func50 rfl rfl (by simp) ?_
 simp only [go_sem]
 refine awp_seq_k (fun K1 hK1 => ?_)
 refine awp_plain 2 (by kernel_rfl) rfl (fun g0 hg0 => ?_)
 simp only [go_sem]
 refine hK1 _ ?_
 refine awp_seq_k (fun K2 hK2 => ?_)
 refine awp_seq_k (fun K3 hK3 => ?_)
 refine awp_ops (by kernel_rfl) rfl (fun g1 hg1 ops1 KR1 hops1 hKR1 => ?_)
 refine aops_eval 2 hops1 ?_
 simp only [go_sem]
 cases b1 : nmOk d.name with
 | false =>
  refine aops_pure hops1 rfl rfl rfl (is_calls d.name (by omega) _ _) (CoL.refl _) ?_
  refine aops_last 13 hops1 ?_
  simp only [go_sem, b1, Bool.not_false]
  refine hKR1 _ ?_
  refine hK3 _ ?_
  refine awp_t rfl ?_
  refine awp_seq_k (fun K4 hK4 => ?_)
  refine awp_plain 1 (by kernel_rfl) rfl (fun g2 hg2 => ?_)
  simp only [go_sem]
  refine hK4 _ ?_
  refine awp_ret ?_
  refine ends_ev rfl ?_
  simp only [go_sem]
  exact Co.of_eq (by simp only [rightDe, b1, Bool.false_and])
 | true =>
  refine aops_pure hops1 rfl rfl rfl (is_calls d.name (by omega) _ _) (CoL.refl _) ?_
  refine aops_eval 4 hops1 ?_
  simp only [go_sem, b1, Bool.not_true]
  cases b2 : d.formals.all rightFm with
  | false =>
   refine aops_pure hops1 rfl rfl rfl (rightFms_calls d.formals (by omega) (fun f hf => (k3 f hf).ok) w2 _ _) (CoL.refl _) ?_
   refine aops_last 8 hops1 ?_
   simp only [go_sem, b2, Bool.not_false]
   refine hKR1 _ ?_
   refine hK3 _ ?_
   refine awp_t rfl ?_
   refine awp_seq_k (fun K5 hK5 => ?_)
   refine awp_plain 1 (by kernel_rfl) rfl (fun g2 hg2 => ?_)
   simp only [go_sem]
   refine hK5 _ ?_
   refine awp_ret ?_
   refine ends_ev rfl ?_
   simp only [go_sem]
   exact Co.of_eq (by simp only [rightDe, b1, b2, Bool.false_and, Bool.and_false])
  | true =>
   refine aops_pure hops1 rfl rfl rfl (rightFms_calls d.formals (by omega) (fun f hf => (k3 f hf).ok) w2 _ _) (CoL.refl _) ?_
   refine aops_eval 5 hops1 ?_
   simp only [go_sem, b2, Bool.not_true]
   cases b3 : d.fields.all rightPa with
   | false =>
    refine aops_pure hops1 rfl rfl rfl (rightPas_calls d.fields k4 (fun f hf => (k5 f hf).ok) w3 _ _) (CoL.refl _) ?_
    refine aops_last 2 hops1 ?_
    simp only [go_sem, b3, Bool.not_false]
    refine hKR1 _ ?_
    refine hK3 _ ?_
    refine awp_t rfl ?_
    refine awp_seq_k (fun K6 hK6 => ?_)
    refine awp_plain 1 (by kernel_rfl) rfl (fun g2 hg2 => ?_)
    simp only [go_sem]
    refine hK6 _ ?_
    refine awp_ret ?_
    refine ends_ev rfl ?_
    simp only [go_sem]
    exact Co.of_eq (by simp only [rightDe, b1, b2, b3, Bool.false_and, Bool.and_false])
   | true =>
    refine aops_pure hops1 rfl rfl rfl (rightPas_calls d.fields k4 (fun f hf => (k5 f hf).ok) w3 _ _) (CoL.refl _) ?_
    refine aops_last 2 hops1 ?_
    simp only [go_sem, b3, Bool.not_true]
    refine hKR1 _ ?_
    refine hK3 _ ?_
    refine awp_f rfl ?_
    refine awp_skip ?_
    refine hK2 _ ?_
    refine awp_seq_k (fun K7 hK7 => ?_)
    refine awp_seq_k (fun K8 hK8 => ?_)
    refine awp_plain 1 (by kernel_rfl) rfl (fun g3 hg3 => ?_)
    simp only [go_sem]
    refine hK8 _ ?_
    refine awp_block ?_
    refine awp_loop (fun m s => ∃ k, k ≤ d.sigs.length ∧ m = d.sigs.length - k ∧ (d.sigs.take k).all rightSi = true ∧ Le { env := [(1, .ptr ⟨g0, 1, 0⟩ 0), (3, dN k)], σ := [(⟨g0, 1, 0⟩, .box 71 (deC d))] } s) d.sigs.length ?_ ?_
    ·refine ⟨0, Nat.zero_le _, rfl, rfl, le_of ?_⟩
     simp only [go_sem]
     trivial
    ·rintro m s ⟨k, hk, rfl, hall, hle⟩
     refine awp_keep hle ?_
     clear hle
     refine awp_seq_k (fun K9 hK9 => ?_)
     refine awp_seq_k (fun K10 hK10 => ?_)
     by_cases hlt : k < d.sigs.length
     ·have htake : (d.sigs.take (k + 1)).all rightSi = rightSi d.sigs[k] := by
       rw [List.take_add_one, List.getElem?_eq_getElem hlt, List.all_append, hall]
       simp
      have hmem := List.getElem_mem hlt
      refine awp_plain 5 (by kernel_rfl) rfl (fun g4 hg4 => ?_)
      simp only [go_sem, hlt]
      refine hK10 _ ?_
      refine awp_t rfl ?_
      refine awp_skip ?_
      refine hK9 _ ?_
      refine awp_seq_k (fun K11 hK11 => ?_)
      refine awp_block ?_
      refine awp_seq_k (fun K12 hK12 => ?_)
      refine awp_ops (by kernel_rfl) rfl (fun g6 hg6 ops6 KR6 hops6 hKR6 => ?_)
      refine aops_eval 5 hops6 ?_
      simp only [go_sem, getM hlt]
      cases hb : rightSi d.sigs[k] with
      | false =>
       have b4 : d.sigs.all rightSi = false := by
        rw [List.all_eq_false]
        exact ⟨_, hmem, by rw [hb]; decide⟩
       refine aops_pure hops6 rfl rfl rfl (rightSi_calls _ (k7 _ hmem) (w7 _ hmem).1 (w7 _ hmem).2 (w4 _ hmem) _ _) (CoL.refl _) ?_
       refine aops_last 1 hops6 ?_
       simp only [go_sem, hb, Bool.not_false]
       refine hKR6 _ ?_
       refine hK12 _ ?_
       refine awp_t rfl ?_
       refine awp_seq_k (fun K13 hK13 => ?_)
       refine awp_plain 1 (by kernel_rfl) rfl (fun g7 hg7 => ?_)
       simp only [go_sem]
       refine hK13 _ ?_
       refine awp_ret ?_
       refine ends_ev rfl ?_
       simp only [go_sem]
       exact Co.of_eq (by simp only [rightDe, b1, b2, b3, b4, Bool.false_and, Bool.and_false])
      | true =>
       refine aops_pure hops6 rfl rfl rfl (rightSi_calls _ (k7 _ hmem) (w7 _ hmem).1 (w7 _ hmem).2 (w4 _ hmem) _ _) (CoL.refl _) ?_
       refine aops_last 1 hops6 ?_
       simp only [go_sem, hb, Bool.not_true]
       refine hKR6 _ ?_
       refine hK12 _ ?_
       refine awp_f rfl ?_
       refine awp_skip ?_
       refine hK11 _ ?_
       refine awp_plain 3 (by kernel_rfl) rfl (fun g5 hg5 => ?_)
       simp only [go_sem]
       try simp (disch := omega) only [wrapN]
       refine ⟨_, ?_, k + 1, hlt, rfl, by rw [htake, hb], le_of ?_⟩
       ·omega
       simp only [go_sem]
       try omega
     ·have : k = d.sigs.length := by omega
      subst this
      rw [List.take_length] at hall
      refine awp_plain 5 (by kernel_rfl) rfl (fun g4 hg4 => ?_)
      simp only [go_sem, hlt]
      refine hK10 _ ?_
      refine awp_f rfl ?_
      refine awp_exit ?_
      refine hK7 _ ?_
      refine awp_seq_k (fun K14 hK14 => ?_)
      refine awp_seq_k (fun K15 hK15 => ?_)
      refine awp_plain 1 (by kernel_rfl) rfl (fun g8 hg8 => ?_)
      simp only [go_sem]
      refine hK15 _ ?_
      refine awp_block ?_
      refine awp_loop (fun m s => ∃ k, k ≤ d.vars.length ∧ m = d.vars.length - k ∧ (d.vars.take k).all nmOk = true ∧ Le { env := [(1, .ptr ⟨g0, 1, 0⟩ 0), (4, dN k)], σ := [(⟨g0, 1, 0⟩, .box 71 (deC d))] } s) d.vars.length ?_ ?_
      ·refine ⟨0, Nat.zero_le _, rfl, rfl, le_of ?_⟩
       simp only [go_sem]
       trivial
      ·rintro m s ⟨k, hk, rfl, hall2, hle⟩
       refine awp_keep hle ?_
       clear hle
       refine awp_seq_k (fun K16 hK16 => ?_)
       refine awp_seq_k (fun K17 hK17 => ?_)
       by_cases hlt : k < d.vars.length
       ·have htake : (d.vars.take (k + 1)).all nmOk = nmOk d.vars[k] := by
         rw [List.take_add_one, List.getElem?_eq_getElem hlt, List.all_append, hall2]
         simp
        have hmem := List.getElem_mem hlt
        have hvs : d.vars[k].size ≤ 9223372036854775807 := by have := k10 _ hmem; omega
        refine awp_plain 5 (by kernel_rfl) rfl (fun g9 hg9 => ?_)
        simp only [go_sem, hlt]
        refine hK17 _ ?_
        refine awp_t rfl ?_
        refine awp_skip ?_
        refine hK16 _ ?_
        refine awp_seq_k (fun K18 hK18 => ?_)
        refine awp_block ?_
        refine awp_seq_k (fun K19 hK19 => ?_)
        refine awp_ops (by kernel_rfl) rfl (fun g11 hg11 ops11 KR11 hops11 hKR11 => ?_)
        refine aops_eval 5 hops11 ?_
        simp only [go_sem, getM hlt]
        cases hb : nmOk d.vars[k] with
        | false =>
         have b5 : d.vars.all nmOk = false := by
          rw [List.all_eq_false]
          exact ⟨_, hmem, by rw [hb]; decide⟩
         refine aops_pure hops11 rfl rfl rfl (is_calls d.vars[k] hvs _ _) (CoL.refl _) ?_
         refine aops_last 1 hops11 ?_
         simp only [go_sem, hb, Bool.not_false]
         refine hKR11 _ ?_
         refine hK19 _ ?_
         refine awp_t rfl ?_
         refine awp_seq_k (fun K20 hK20 => ?_)
         refine awp_plain 1 (by kernel_rfl) rfl (fun g12 hg12 => ?_)
         simp only [go_sem]
         refine hK20 _ ?_
         refine awp_ret ?_
         refine ends_ev rfl ?_
         simp only [go_sem]
         exact Co.of_eq (by simp only [rightDe, b1, b2, b3, hall, b5, Bool.false_and, Bool.and_false])
        | true =>
         refine aops_pure hops11 rfl rfl rfl (is_calls d.vars[k] hvs _ _) (CoL.refl _) ?_
         refine aops_last 1 hops11 ?_
         simp only [go_sem, hb, Bool.not_true]
         refine hKR11 _ ?_
         refine hK19 _ ?_
         refine awp_f rfl ?_
         refine awp_skip ?_
         refine hK18 _ ?_
         refine awp_plain 3 (by kernel_rfl) rfl (fun g10 hg10 => ?_)
         simp only [go_sem]
         try simp (disch := omega) only [wrapN]
         refine ⟨_, ?_, k + 1, hlt, rfl, by rw [htake, hb], le_of ?_⟩
         ·omega
         simp only [go_sem]
         try omega
       ·have : k = d.vars.length := by omega
        subst this
        rw [List.take_length] at hall2
        refine awp_plain 5 (by kernel_rfl) rfl (fun g9 hg9 => ?_)
        simp only [go_sem, hlt]
        refine hK17 _ ?_
        refine awp_f rfl ?_
        refine awp_exit ?_
        refine hK14 _ ?_
        refine awp_seq_k (fun K21 hK21 => ?_)
        refine awp_seq_k (fun K22 hK22 => ?_)
        have hR : rightDe d = tailDe d := by
         unfold rightDe
         rw [b1, b2, b3, hall, hall2]
         rfl
        by_cases q3 : d.kind = 3
        ·refine awp_plain 3 (by kernel_rfl) rfl (fun g13 hg13 => ?_)
         simp only [go_sem, q3, decide_true]
         refine hK22 _ ?_
         refine awp_t rfl ?_
         refine awp_seq_k (fun K23 hK23 => ?_)
         refine awp_ops (by kernel_rfl) rfl (fun g14 hg14 ops14 KR14 hops14 hKR14 => ?_)
         refine aops_eval 2 hops14 ?_
         simp only [go_sem]
         cases c1 : nmOk d.recv with
         | false =>
          refine aops_pure hops14 rfl rfl rfl (is_calls d.recv (by omega) _ _) (CoL.refl _) ?_
          refine aops_last 25 hops14 ?_
          simp only [go_sem, c1]
          try simp (disch := omega) only [wrapN, wrapB, Int.tdiv_eq_ediv_of_nonneg, Int.tmod_eq_emod_of_nonneg]
          refine hKR14 _ ?_
          refine hK23 _ ?_
          refine awp_ret ?_
          refine ends_ev rfl ?_
          simp only [go_sem]
          exact Co.of_eq (by rw [hR]; simp [tailDe, methDe, q3, c1])
         | true =>
          by_cases c2 : (d.formals.length : Int) + d.fields.length + d.sigs.length = 0
          ·have r2 := eq_true c2
           refine aops_pure hops14 rfl rfl rfl (is_calls d.recv (by omega) _ _) (CoL.refl _) ?_
           refine aops_eval 17 hops14 ?_
           simp only [go_sem, c1]
           try simp (disch := omega) only [wrapN]
           try simp only [go_sem, r2, decide_true]
           try simp (disch := omega) only [wrapN, wrapB, Int.tdiv_eq_ediv_of_nonneg, Int.tmod_eq_emod_of_nonneg]
           cases c3 : rightSi d.sig with
           | false =>
            refine aops_pure hops14 rfl rfl rfl (rightSi_calls _ k11 w8.1 w8.2 w5 _ _) (CoL.refl _) ?_
            refine aops_last 7 hops14 ?_
            simp only [go_sem, c3]
            refine hKR14 _ ?_
            refine hK23 _ ?_
            refine awp_ret ?_
            refine ends_ev rfl ?_
            simp only [go_sem]
            exact Co.of_eq (by rw [hR]; simp [tailDe, methDe, q3, c1, c2, c3])
           | true =>
            refine aops_pure hops14 rfl rfl rfl (rightSi_calls _ k11 w8.1 w8.2 w5 _ _) (CoL.refl _) ?_
            refine aops_eval 4 hops14 ?_
            simp only [go_sem, c3]
            refine aops_pure hops14 rfl rfl rfl (rightEx_calls _ (smEx.ok _ k12) w6 _ _) (CoL.refl _) ?_
            refine aops_last 2 hops14 ?_
            simp only [go_sem]
            refine hKR14 _ ?_
            refine hK23 _ ?_
            refine awp_ret ?_
            refine ends_ev rfl ?_
            simp only [go_sem]
            exact Co.of_eq (by rw [hR]; simp [tailDe, methDe, q3, c1, c2, c3])
          ·have r2 := eq_false c2
           refine aops_pure hops14 rfl rfl rfl (is_calls d.recv (by omega) _ _) (CoL.refl _) ?_
           refine aops_last 25 hops14 ?_
           simp only [go_sem, c1]
           try simp (disch := omega) only [wrapN]
           try simp only [go_sem, r2, decide_false]
           try simp (disch := omega) only [wrapN, wrapB, Int.tdiv_eq_ediv_of_nonneg, Int.tmod_eq_emod_of_nonneg]
           refine hKR14 _ ?_
           refine hK23 _ ?_
           refine awp_ret ?_
           refine ends_ev rfl ?_
           simp only [go_sem]
           exact Co.of_eq (by rw [hR]; simp [tailDe, methDe, q3, c1, c2])
        ·have r3 : (d.kind = 3) = False := eq_false q3
         refine awp_plain 3 (by kernel_rfl) rfl (fun g13 hg13 => ?_)
         simp only [go_sem, r3, decide_false]
         refine hK22 _ ?_
         refine awp_f rfl ?_
         refine awp_skip ?_
         refine hK21 _ ?_
         refine awp_seq_k (fun K24 hK24 => ?_)
         have coZ : Co (.agg [dI 0, .val (.string ByteArray.empty), .val (.string ByteArray.empty), .val (.slice none 0 0), dI 0, .val (.slice none 0 0), .val (.slice none 0 0), dI 0]) (encEx zeroEx) := by
          rw [encEx_agg]
          exact .agg (.cons (.refl _) (.cons (.refl _) (.cons (.refl _) (.cons (.nil _) (.cons (.refl _) (.cons (.nil _) (.cons (.nil _) (.cons (.refl _) .nil))))))))
         by_cases n1 : d.recv = (⟨#[]⟩ : ByteArray)
         ·have m1 := eq_true n1
          by_cases n2 : (d.vars.length : Int) = 0
          ·have m2 := eq_true n2
           have n3 : d.vars = [] := List.eq_nil_of_length_eq_zero (by omega)
           refine awp_ops (by kernel_rfl) rfl (fun g15 hg15 ops15 KR15 hops15 hKR15 => ?_)
           refine aops_eval 13 hops15 ?_
           simp only [go_sem, m1, m2, decide_true]
           cases hr : refSi false d.sig zeroSi with
           | false =>
            refine aops_pure hops15 rfl rfl rfl (refSig_calls false d.sig zeroSi k11.ok _ _) (.cons (.refl _) (.cons coZeroSi (.cons (.refl _) .nil))) ?_
            refine aops_last 8 hops15 ?_
            simp only [go_sem, hr]
            refine hKR15 _ ?_
            refine hK24 _ ?_
            refine awp_seq_k (fun K25 hK25 => ?_)
            refine awp_plain 24 (by kernel_rfl) rfl (fun g16 hg16 => ?_)
            simp only [go_sem]
            refine hK25 _ ?_
            refine awp_ret ?_
            refine ends_ev rfl ?_
            simp only [go_sem]
            exact Co.of_eq (by rw [hR]; simp [tailDe, noneDe, q3, n1, n3, hr])
           | true =>
            refine aops_pure hops15 rfl rfl rfl (refSig_calls false d.sig zeroSi k11.ok _ _) (.cons (.refl _) (.cons coZeroSi (.cons (.refl _) .nil))) ?_
            refine aops_eval 5 hops15 ?_
            simp only [go_sem, hr]
            cases hz : sameZ d.body with
            | false =>
             refine aops_pure hops15 rfl rfl rfl (same05z d.body (smEx.ok _ k12) ((smEx_iff _).1 k12).2.2.1.1 _ _) (.cons (.refl _) (.cons coZ .nil)) ?_
             refine aops_last 2 hops15 ?_
             simp only [go_sem, hz]
             refine hKR15 _ ?_
             refine hK24 _ ?_
             refine awp_seq_k (fun K26 hK26 => ?_)
             refine awp_plain 24 (by kernel_rfl) rfl (fun g16 hg16 => ?_)
             simp only [go_sem]
             refine hK26 _ ?_
             refine awp_ret ?_
             refine ends_ev rfl ?_
             simp only [go_sem]
             exact Co.of_eq (by rw [hR]; simp [tailDe, noneDe, q3, n1, n3, hr, hz])
            | true =>
             refine aops_pure hops15 rfl rfl rfl (same05z d.body (smEx.ok _ k12) ((smEx_iff _).1 k12).2.2.1.1 _ _) (.cons (.refl _) (.cons coZ .nil)) ?_
             refine aops_last 2 hops15 ?_
             simp only [go_sem, hz]
             refine hKR15 _ ?_
             refine hK24 _ ?_
             refine awp_seq_k (fun K27 hK27 => ?_)
             by_cases q1 : d.kind = 1
             ·have r1 := eq_true q1
              by_cases s1 : (d.sigs.length : Int) = 0
              ·have t1 := eq_true s1
               have u1 : d.sigs = [] := List.eq_nil_of_length_eq_zero (by omega)
               refine awp_plain 24 (by kernel_rfl) rfl (fun g16 hg16 => ?_)
               simp only [go_sem, r1, t1, decide_true]
               refine hK27 _ ?_
               refine awp_ret ?_
               refine ends_ev rfl ?_
               simp only [go_sem]
               exact Co.of_eq (by rw [hR]; simp [tailDe, noneDe, n1, n3, hr, hz, q1, u1])
              ·have t1 := eq_false s1
               have r2 : (d.kind = 2) = False := eq_false (by omega)
               have u1 : ¬ d.sigs = [] := fun h => by rw [h] at s1; exact s1 rfl
               refine awp_plain 24 (by kernel_rfl) rfl (fun g16 hg16 => ?_)
               simp only [go_sem, r1, t1, r2, decide_true, decide_false]
               refine hK27 _ ?_
               refine awp_ret ?_
               refine ends_ev rfl ?_
               simp only [go_sem]
               exact Co.of_eq (by rw [hR]; simp [tailDe, noneDe, n1, n3, hr, hz, q1, u1])
             ·have r1 := eq_false q1
              by_cases q2 : d.kind = 2
              ·have r2 := eq_true q2
               refine awp_plain 24 (by kernel_rfl) rfl (fun g16 hg16 => ?_)
               simp only [go_sem, r1, r2, decide_true, decide_false]
               refine hK27 _ ?_
               refine awp_ret ?_
               refine ends_ev rfl ?_
               simp only [go_sem]
               exact Co.of_eq (by rw [hR]; simp [tailDe, noneDe, n1, n3, hr, hz, q2])
              ·have r2 := eq_false q2
               refine awp_plain 24 (by kernel_rfl) rfl (fun g16 hg16 => ?_)
               simp only [go_sem, r1, r2, decide_false]
               refine hK27 _ ?_
               refine awp_ret ?_
               refine ends_ev rfl ?_
               simp only [go_sem]
               exact Co.of_eq (by rw [hR]; simp [tailDe, noneDe, q3, n1, n3, hr, hz, q1, q2])
          ·have m2 := eq_false n2
           have n3 : ¬ d.vars = [] := fun h => by rw [h] at n2; exact n2 rfl
           refine awp_plain 22 (by kernel_rfl) rfl (fun g15 hg15 => ?_)
           simp only [go_sem, m1, m2, decide_true, decide_false]
           refine hK24 _ ?_
           refine awp_seq_k (fun K28 hK28 => ?_)
           refine awp_plain 24 (by kernel_rfl) rfl (fun g16 hg16 => ?_)
           simp only [go_sem]
           refine hK28 _ ?_
           refine awp_ret ?_
           refine ends_ev rfl ?_
           simp only [go_sem]
           exact Co.of_eq (by rw [hR]; simp [tailDe, noneDe, q3, n1, n3])
         ·have m1 := eq_false n1
          refine awp_plain 22 (by kernel_rfl) rfl (fun g15 hg15 => ?_)
          simp only [go_sem, m1, decide_false]
          refine hK24 _ ?_
          refine awp_seq_k (fun K29 hK29 => ?_)
          refine awp_plain 24 (by kernel_rfl) rfl (fun g16 hg16 => ?_)
          simp only [go_sem]
          refine hK29 _ ?_
          refine awp_ret ?_
          refine ends_ev rfl ?_
          simp only [go_sem]
          exact Co.of_eq (by rw [hR]; simp [tailDe, noneDe, q3, n1])
noncomputable def rightPr (p : Prg) : Bool := p.decls.all rightDe && rightEx p.main
theorem sum_mem {α : Type} (w : α → Nat) {a : α} : ∀ {l : List α}, a ∈ l → w a ≤ (l.map w).sum
 | [], h => by cases h
 | x :: l, h => by
  rw [List.map_cons, List.sum_cons]
  rcases List.mem_cons.1 h with rfl | h
  ·omega
  ·have := sum_mem w h; omega
theorem wN_dec {p : Prg} {d : Dec} (h : d ∈ p.decls) : wN (deTys d) ≤ wN (prTys p) := by
 unfold prTys
 rw [wN_app, wN_flat]
 have := sum_mem (fun a => wN (deTys a)) h
 omega
set_option maxRecDepth 100000 in
theorem rightPr_calls (p : Prg) (hp : smPr p) (hw : wN (prTys p) ≤ 1000000) (g q : Nat) : ACalls E 27 [encPr p] [] g q (dB (rightPr p)) [] := by
 obtain ⟨⟨k1, k2⟩, k3⟩ := hp
 have w2 : wN (exTys p.main) ≤ 1000000 := by
  unfold prTys at hw
  rw [wN_app] at hw
  omega
 refine acalls_of_awp (fn := Tryz.f27) (N := 21) Tryz.call27 Tryz.func27 rfl rfl (by simp) ?_
 simp only [go_sem]
 refine awp_seq_k (fun K1 hK1 => ?_)
 refine awp_plain 2 (by kernel_rfl) rfl (fun g0 hg0 => ?_)
 simp only [go_sem]
 refine hK1 _ ?_
 refine awp_seq_k (fun K2 hK2 => ?_)
 refine awp_seq_k (fun K3 hK3 => ?_)
 refine awp_plain 1 (by kernel_rfl) rfl (fun g1 hg1 => ?_)
 simp only [go_sem]
 refine hK3 _ ?_
 refine awp_block ?_
 refine awp_loop (fun m s => ∃ k, k ≤ p.decls.length ∧ m = p.decls.length - k ∧ (p.decls.take k).all rightDe = true ∧ Le { env := [(1, .ptr ⟨g0, 1, 0⟩ 0), (3, dN k)], σ := [(⟨g0, 1, 0⟩, .box 30 (prC p))] } s) p.decls.length ?_ ?_
 ·refine ⟨0, Nat.zero_le _, rfl, rfl, le_of ?_⟩
  simp only [go_sem]
  trivial
 ·rintro m s ⟨k, hk, rfl, hall, hle⟩
  refine awp_keep hle ?_
  clear hle
  refine awp_seq_k (fun K4 hK4 => ?_)
  refine awp_seq_k (fun K5 hK5 => ?_)
  by_cases hlt : k < p.decls.length
  ·have htake : (p.decls.take (k + 1)).all rightDe = rightDe p.decls[k] := by
    rw [List.take_add_one, List.getElem?_eq_getElem hlt, List.all_append, hall]
    simp
   have hmem := List.getElem_mem hlt
   refine awp_plain 5 (by kernel_rfl) rfl (fun g2 hg2 => ?_)
   simp only [go_sem, hlt]
   refine hK5 _ ?_
   refine awp_t rfl ?_
   refine awp_skip ?_
   refine hK4 _ ?_
   refine awp_seq_k (fun K6 hK6 => ?_)
   refine awp_block ?_
   refine awp_seq_k (fun K7 hK7 => ?_)
   refine awp_ops (by kernel_rfl) rfl (fun g4 hg4 ops4 KR4 hops4 hKR4 => ?_)
   refine aops_eval 5 hops4 ?_
   simp only [go_sem, getM hlt]
   cases hb : rightDe p.decls[k] with
   | false =>
    have b4 : p.decls.all rightDe = false := by
     rw [List.all_eq_false]
     exact ⟨_, hmem, by rw [hb]; decide⟩
    refine aops_pure hops4 rfl rfl rfl (rightDe_calls _ (k2 _ hmem) (Nat.le_trans (wN_dec hmem) hw) _ _) (CoL.refl _) ?_
    refine aops_last 1 hops4 ?_
    simp only [go_sem, hb, Bool.not_false]
    refine hKR4 _ ?_
    refine hK7 _ ?_
    refine awp_t rfl ?_
    refine awp_seq_k (fun K8 hK8 => ?_)
    refine awp_plain 1 (by kernel_rfl) rfl (fun g5 hg5 => ?_)
    simp only [go_sem]
    refine hK8 _ ?_
    refine awp_ret ?_
    refine ends_ev rfl ?_
    simp only [go_sem]
    exact Co.of_eq (by unfold rightPr; rw [b4]; rfl)
   | true =>
    refine aops_pure hops4 rfl rfl rfl (rightDe_calls _ (k2 _ hmem) (Nat.le_trans (wN_dec hmem) hw) _ _) (CoL.refl _) ?_
    refine aops_last 1 hops4 ?_
    simp only [go_sem, hb, Bool.not_true]
    refine hKR4 _ ?_
    refine hK7 _ ?_
    refine awp_f rfl ?_
    refine awp_skip ?_
    refine hK6 _ ?_
    refine awp_plain 3 (by kernel_rfl) rfl (fun g3 hg3 => ?_)
    simp only [go_sem]
    try simp (disch := omega) only [wrapN]
    refine ⟨_, ?_, k + 1, hlt, rfl, by rw [htake, hb], le_of ?_⟩
    ·omega
    simp only [go_sem]
    try omega
  ·have : k = p.decls.length := by omega
   subst this
   rw [List.take_length] at hall
   refine awp_plain 5 (by kernel_rfl) rfl (fun g2 hg2 => ?_)
   simp only [go_sem, hlt]
   refine hK5 _ ?_
   refine awp_f rfl ?_
   refine awp_exit ?_
   refine hK2 _ ?_
   refine awp_seq_k (fun K9 hK9 => ?_)
   refine awp_ops (by kernel_rfl) rfl (fun g6 hg6 ops6 KR6 hops6 hKR6 => ?_)
   refine aops_eval 2 hops6 ?_
   simp only [go_sem]
   refine aops_pure hops6 rfl rfl rfl (rightEx_calls _ (smEx.ok _ k3) w2 _ _) (CoL.refl _) ?_
   refine aops_last 1 hops6 ?_
   simp only [go_sem]
   refine hKR6 _ ?_
   refine hK9 _ ?_
   refine awp_ret ?_
   refine ends_ev rfl ?_
   simp only [go_sem]
   exact Co.of_eq (by unfold rightPr; rw [hall]; rfl)
end Go.Proofs.T
namespace Go.Proofs.T
open Go Go.Ab Go.RowKit
theorem okRowsEx : ∀ l : List Ex, okRows 8 (l.map encEx) := fun l => okRows_map 8 encEx l fun e => by rw [encEx_agg]; exact ⟨rfl, rfl⟩
theorem nodesExs_len (c : List Ex) (i : Nat) : (nodesExs (c.take i)).length ≤ (nodesExs c).length := by
 have := congrArg (fun l => (nodesExs l).length) (List.take_append_drop i c)
 simp only [nodesExs_app, List.length_append] at this
 omega
theorem nodesEx_pos (t : Ex) : 0 < (nodesEx t).length := by rw [nodesEx_eq]; simp
theorem nodesExs_get1 (c : List Ex) (i : Nat) (h : i < c.length) : (nodesEx c[i]).length ≤ (nodesExs c).length := by
 have h1 := nodesExs_take c i h
 have h2 := nodesExs_len c (i + 1)
 rw [h1, List.length_append] at h2
 omega
set_option maxRecDepth 100000 in
theorem list05_calls : ∀ t : Ex, okEx t → (nodesEx t).length ≤ 1000000 → ∀ g d, ACalls E 64 [encEx t] [] g d (slEx (nodesEx t)) [] := by
 intro t
 induction t using Ex.ind with
 | h t ih =>
 intro hok0 hlen g d
 have hok := (okEx_iff t).1 hok0
 have hn := nodesEx_eq t
 have hl1 : (nodesExs t.kids).length + 1 ≤ 1000000 := by rw [hn] at hlen; simpa using hlen
 refine acalls_of_awp (fn := Tryz.f64) (N := 23) Tryz.call64 Tryz.func64 rfl rfl (by simp) ?_
 simp only [go_sem]
 refine awp_seq_k (fun K1 hK1 => ?_)
 refine awp_plain 2 (by kernel_rfl) rfl (fun g0 hg0 => ?_)
 simp only [go_sem]
 refine hK1 _ ?_
 refine awp_seq_k (fun K2 hK2 => ?_)
 refine awp_plain 3 (by kernel_rfl) rfl (fun g1 hg1 => ?_)
 simp only [go_sem]
 refine hK2 _ ?_
 refine awp_seq_k (fun K3 hK3 => ?_)
 refine awp_seq_k (fun K4 hK4 => ?_)
 refine awp_plain 1 (by kernel_rfl) rfl (fun g2 hg2 => ?_)
 simp only [go_sem]
 refine hK4 _ ?_
 refine awp_block ?_
 refine awp_loop (fun m s => ∃ k, k ≤ t.kids.length ∧ m = t.kids.length - k ∧ ((k = 0 ∧ Le { env := [(1, .ptr ⟨g0, 1, 0⟩ 0), (4, dN 0), (3, .sl true [encEx t])], σ := [(⟨g0, 1, 0⟩, .box 28 (exC t))] } s) ∨
   ∃ a i, a ≠ g0 ∧ Le { env := [(1, .ptr ⟨g0, 1, 0⟩ 0), (4, dN k), (3, .own ⟨a, i, 0⟩ (1 + (nodesExs (t.kids.take k)).length))], σ := [(⟨g0, 1, 0⟩, .box 28 (exC t)), (⟨a, i, 0⟩, .arr 28 8 (encEx t :: (nodesExs (t.kids.take k)).map encEx))] } s)) t.kids.length ?_ ?_
 ·refine ⟨0, Nat.zero_le _, rfl, .inl ⟨rfl, le_of ?_⟩⟩
  simp only [go_sem, exC]
  all_goals first | exact rfl | exact ⟨rfl, rfl⟩ | trivial
 ·rintro m s ⟨k, hk, rfl, ⟨rfl, hle⟩ | ⟨a, i, ha, hle⟩⟩
  ·refine awp_keep hle ?_
   clear hle
   refine awp_seq_k (fun K5 hK5 => ?_)
   refine awp_seq_k (fun K6 hK6 => ?_)
   by_cases hlt : 0 < t.kids.length
   ·have hlt' : (((0 : Nat) : Int) < (t.kids.length : Int)) = True := eq_true (by omega)
    have hb := nodesExs_get1 t.kids 0 hlt
    have hp := nodesEx_pos t.kids[0]
    refine awp_plain 5 (by kernel_rfl) rfl (fun g3 hg3 => ?_)
    simp only [go_sem, hlt', decide_true, exC]
    refine hK6 _ ?_
    refine awp_t rfl ?_
    refine awp_skip ?_
    refine hK5 _ ?_
    refine awp_seq_k (fun K7 hK7 => ?_)
    refine awp_block ?_
    refine awp_ops (by kernel_rfl) rfl (fun g5 hg5 ops5 KR5 hops5 hKR5 => ?_)
    refine aops_eval 6 hops5 ?_
    simp only [go_sem, getM hlt]
    have hn5_g0 : g5 ≠ g0 := fresh_g hg5 1 0 (by simp [go_sem])
    refine aops_pure hops5 rfl rfl rfl (ih _ (List.getElem_mem hlt) (hok.2.2.2.2 _ (List.getElem_mem hlt)) (by omega) _ _) (CoL.refl _) ?_
    refine aops_appx hops5 rfl rfl rfl rfl rfl es26 sz28 by28 ze28 rfl (by decide) ?_
    simp only [go_sem, okRowsEx]
    refine ⟨hp, ⟨by omega, by omega⟩, ?_⟩
    refine aops_last 1 hops5 ?_
    simp only [go_sem]
    refine hKR5 _ ?_
    refine hK7 _ ?_
    refine awp_plain 3 (by kernel_rfl) rfl (fun g4 hg4 => ?_)
    simp only [go_sem, exC]
    try simp (disch := omega) only [wrapN]
    refine ⟨_, ?_, 1, hlt, rfl, .inr ⟨g5, 21, hn5_g0, le_of ?_⟩⟩
    ·omega
    have h1 := nodesExs_take t.kids 0 hlt
    rw [List.take_zero] at h1
    have h2 : nodesExs (t.kids.take 1) = nodesEx t.kids[0] := h1
    simp only [go_sem, h2, hn5_g0, Ne.symm hn5_g0]
    all_goals first | exact rfl | exact ⟨rfl, rfl⟩ | trivial
   ·have h0 : t.kids = [] := List.eq_nil_of_length_eq_zero (by omega)
    have hlt' : (((0 : Nat) : Int) < (t.kids.length : Int)) = False := eq_false (by omega)
    refine awp_plain 5 (by kernel_rfl) rfl (fun g3 hg3 => ?_)
    simp only [go_sem, hlt', decide_false, exC]
    refine hK6 _ ?_
    refine awp_f rfl ?_
    refine awp_exit ?_
    refine hK3 _ ?_
    refine awp_seq_k (fun K8 hK8 => ?_)
    refine awp_plain 2 (by kernel_rfl) rfl (fun g6 hg6 => ?_)
    simp only [go_sem]
    refine hK8 _ ?_
    refine awp_ret ?_
    refine ends_ev rfl ?_
    simp only [go_sem]
    exact by rw [hn, h0]; exact Co.inexact _ _
  ·refine awp_keep hle ?_
   clear hle
   refine awp_seq_k (fun K9 hK9 => ?_)
   refine awp_seq_k (fun K10 hK10 => ?_)
   by_cases hlt : k < t.kids.length
   ·have hb := nodesExs_get1 t.kids k hlt
    have hc := nodesExs_len t.kids (k + 1)
    have h1 := nodesExs_take t.kids k hlt
    rw [h1, List.length_append] at hc
    refine awp_plain 5 (by kernel_rfl) rfl (fun g3 hg3 => ?_)
    simp only [go_sem, hlt, exC, ha]
    refine hK10 _ ?_
    refine awp_t rfl ?_
    refine awp_skip ?_
    refine hK9 _ ?_
    refine awp_seq_k (fun K11 hK11 => ?_)
    refine awp_block ?_
    refine awp_ops (by kernel_rfl) rfl (fun g5 hg5 ops5 KR5 hops5 hKR5 => ?_)
    refine aops_eval 6 hops5 ?_
    simp only [go_sem, getM hlt, ha]
    refine aops_pure hops5 rfl rfl rfl (ih _ (List.getElem_mem hlt) (hok.2.2.2.2 _ (List.getElem_mem hlt)) (by omega) _ _) (CoL.refl _) ?_
    refine aops_app hops5 rfl rfl rfl rfl rfl es26 sz28 by28 ze28 rfl (by decide) ?_
    simp only [go_sem, okRowsEx, Ne.symm ha]
    first | refine ⟨⟨by omega, by omega⟩, ?_⟩ | skip
    have hn5_g0 : g5 ≠ g0 := fresh_g hg5 1 0 (by simp [go_sem])
    refine aops_last 1 hops5 ?_
    simp only [go_sem]
    refine hKR5 _ ?_
    refine hK11 _ ?_
    refine awp_plain 3 (by kernel_rfl) rfl (fun g4 hg4 => ?_)
    simp only [go_sem, exC]
    try simp (disch := omega) only [wrapN]
    refine ⟨_, ?_, k + 1, hlt, rfl, .inr ⟨g5, 21, hn5_g0, le_of ?_⟩⟩
    ·omega
    simp only [go_sem, h1, List.map_append, List.length_append, Nat.add_assoc, hn5_g0, Ne.symm hn5_g0]
    all_goals first | exact rfl | exact ⟨rfl, rfl⟩ | trivial | omega
   ·have : k = t.kids.length := by omega
    subst this
    refine awp_plain 5 (by kernel_rfl) rfl (fun g3 hg3 => ?_)
    simp only [go_sem, hlt, exC, ha]
    refine hK10 _ ?_
    refine awp_f rfl ?_
    refine awp_exit ?_
    refine hK3 _ ?_
    refine awp_seq_k (fun K12 hK12 => ?_)
    refine awp_plain 2 (by kernel_rfl) rfl (fun g6 hg6 => ?_)
    simp only [go_sem]
    refine hK12 _ ?_
    refine awp_ret ?_
    refine ret_frz ⟨a, i, 0⟩ ?_
    simp only [go_sem, Ne.symm ha]
    refine ends_ev rfl ?_
    simp only [go_sem]
    exact Co.of_eq (by rw [hn]; rfl)
end Go.Proofs.T
namespace Go.Proofs.T
open Go Go.Ab Go.RowKit
theorem smZeroTy : smTy zeroTy := (smTy_iff _).2 ⟨show (0 : Nat) ≤ 1000000 by decide, show (0 : Nat) ≤ 1000000 by decide, fun x hx => nomatch hx⟩
theorem okScN (b : Bool) (o : Str) (ns : List Str) (ho : o.size ≤ 9223372036854775807) : ∀ p ∈ scN b o ns, okNd p.2 := by
 intro p hp
 unfold scN at hp
 obtain ⟨i, hi, rfl⟩ := List.mem_mapIdx.1 hp
 exact ho
theorem okSc_app {s t : Sc} (hs : ∀ p ∈ s, okNd p.2) (ht : ∀ p ∈ t, okNd p.2) : ∀ p ∈ s ++ t, okNd p.2 := fun p hp => (List.mem_append.1 hp).elim (hs p) (ht p)
noncomputable abbrev fmN (b : Bool) (o : Str) (l : List Formal) : Sc := scN b o (l.map (·.name))
noncomputable def rxE (sc : Sc) (e : Ex) : List Ed := visE sc e.type ++ argsE sc e.targs true e.name 0
noncomputable def rmS (d : Dec) : Sc := scN false d.name d.vars ++ fmN true d.sig.name d.sig.formals
noncomputable def rmE (d : Dec) : List Ed := siE (rmS d) d.sig ++ (nodesEx d.body).flatMap (rxE (rmS d))
noncomputable def rsE (d : Dec) : List Ed := siE (fmN false d.name d.formals) ⟨ByteArray.empty, d.formals, d.fields, zeroTy, 0⟩ ++ d.sigs.flatMap fun x => siE (fmN false d.name d.formals ++ fmN true x.name x.formals) x
noncomputable def rdE (d : Dec) : List Ed := if d.kind = 3 then rmE d else rsE d
set_option maxRecDepth 100000 in
theorem refDec_calls (d : Dec) (hd : smDe d) (R : List Ed) (hse : SE R) (hL : R.length + (rdE d).length ≤ 1000000) (hN : (nodesEx d.body).length ≤ 1000000) (g r : Nat) :
  ACalls E 34 [slEd R, encDe d] [] g r (slEd ((rdE d).foldl putE R)) [] := by
 obtain ⟨k1, ⟨k2, k3⟩, ⟨k4, k5⟩, ⟨k6, k7⟩, k8, ⟨k9, k10⟩, k11, k12⟩ := hd
 by_cases h3 : d.kind = 3
 ·unfold rdE at hL ⊢
  rw [if_pos h3] at hL ⊢
  unfold rmE at hL ⊢
  rw [List.foldl_append]
  rw [List.length_append] at hL
  have hokS : ∀ p ∈ rmS d, okNd p.2 := okSc_app (okScN _ _ _ (Nat.le_trans k1 (by decide))) (okScN _ _ _ (Nat.le_trans k11.1 (by decide)))
  have hSl : (rmS d).length ≤ 2000000 := by
   unfold rmS fmN
   rw [List.length_append, scN_len, scN_len, List.length_map]
   have := k11.2.1.1
   omega
  have hv := fun g r => refVars_calls [] false d.name d.vars (by simp; omega) g r
  have hv2 := fun g r => refVars_calls (scN false d.name d.vars) true d.sig.name (d.sig.formals.map (·.name)) (by have := k11.2.1.1; rw [scN_len, List.length_map]; omega) g r
  have hres : (rmS d) = scN false d.name d.vars ++ scN true d.sig.name (d.sig.formals.map (·.name)) := rfl
  rw [← hres] at hv2
  rw [List.nil_append] at hv
  generalize rmS d = S at *
  generalize scN false d.name d.vars = S1 at *
  have hes := smNodes d.body k12
  have hsg := fun g r => refSg_calls S hokS (by omega) d.sig k11 R hse (by omega) g r
  have hq1 := putAll_len (siE S d.sig) R
  have hse1 := putAll_se (siE S d.sig) R hse
  generalize (siE S d.sig).foldl putE R = R1 at *
  have hb := fun g r => list05_calls d.body (smEx.ok _ k12) hN g r
  have hLb : R1.length + ((nodesEx d.body).flatMap (rxE S)).length ≤ 1000000 := by omega
  generalize nodesEx d.body = L at *
  refine acalls_of_awp (fn := Tryz.f34) (N := 113) Tryz.call34 Tryz.func34 rfl rfl (by simp) ?_
  simp only [go_sem]
  refine awp_seq_k (fun K1 hK1 => ?_)
  refine awp_plain 2 (by kernel_rfl) rfl (fun g0 hg0 => ?_)
  simp only [go_sem]
  refine hK1 _ ?_
  refine awp_seq_k (fun K2 hK2 => ?_)
  refine awp_seq_k (fun K3 hK3 => ?_)
  refine awp_plain 3 (by kernel_rfl) rfl (fun g1 hg1 => ?_)
  simp only [go_sem, h3, decide_true, List.nil_append]
  refine hK3 _ ?_
  refine awp_t rfl ?_
  refine awp_seq_k (fun K4 hK4 => ?_)
  refine awp_any 13 (by kernel_rfl) (by kernel_rfl) rfl (fun g2 hg2 ops2 KR2 hops2 hKR2 => ?_)
  refine qrun_eval 4 hops2 ?_
  simp only [go_sem, List.nil_append]
  refine qrun_pure hops2 rfl rfl rfl (hv _ _) (.cons (.nil _) (CoL.refl _)) (by simp [nwOk]) ?_
  refine qrun_eval 6 hops2 ?_
  simp only [go_sem, List.nil_append]
  refine qrun_pure hops2 rfl rfl rfl (refNames_calls d.sig.formals k11.2.1.1 _ _) (CoL.refl _) (by simp [nwOk]) ?_
  refine qrun_pure hops2 rfl rfl rfl (hv2 _ _) (CoL.refl _) (by simp [nwOk]) ?_
  refine qrun_last 0 hops2 ?_
  simp only [go_sem, List.nil_append]
  refine aops_last 1 hops2 ?_
  simp only [go_sem, List.nil_append]
  refine hKR2 _ ?_
  refine hK4 _ ?_
  refine awp_seq_k (fun K5 hK5 => ?_)
  refine awp_ops (by kernel_rfl) rfl (fun g3 hg3 ops3 KR3 hops3 hKR3 => ?_)
  refine aops_eval 4 hops3 ?_
  simp only [go_sem, List.nil_append]
  refine aops_pure hops3 rfl rfl rfl (hsg _ _) (CoL.refl _) ?_
  refine aops_last 1 hops3 ?_
  simp only [go_sem, List.nil_append]
  refine hKR3 _ ?_
  refine hK5 _ ?_
  refine awp_seq_k (fun K6 hK6 => ?_)
  refine awp_ops (by kernel_rfl) rfl (fun g4 hg4 ops4 KR4 hops4 hKR4 => ?_)
  refine aops_eval 2 hops4 ?_
  simp only [go_sem, List.nil_append]
  refine aops_pure hops4 rfl rfl rfl (hb _ _) (CoL.refl _) ?_
  refine aops_last 1 hops4 ?_
  simp only [go_sem, List.nil_append]
  refine hKR4 _ ?_
  refine hK6 _ ?_
  refine awp_seq_k (fun K7 hK7 => ?_)
  refine awp_seq_k (fun K8 hK8 => ?_)
  refine awp_plain 1 (by kernel_rfl) rfl (fun g5 hg5 => ?_)
  simp only [go_sem, List.nil_append]
  refine hK8 _ ?_
  refine awp_block ?_
  refine awp_loop (fun m st => ∃ k, k ≤ L.length ∧ m = L.length - k ∧ Le { env := [(0, slEd (((L.take k).flatMap (rxE S)).foldl putE R1)), (5, slVr S), (6, slEx L), (7, dN k)], σ := [] } st) L.length ?_ ?_
  ·refine ⟨0, Nat.zero_le _, rfl, le_of ?_⟩
   simp only [go_sem, List.take_zero, List.flatMap_nil, List.foldl_nil]
   all_goals first | done | exact rfl | exact ⟨rfl, rfl⟩ | trivial | omega
  ·rintro m st ⟨k, hk, rfl, hle⟩
   refine awp_keep hle ?_
   clear hle
   refine awp_seq_k (fun K9 hK9 => ?_)
   refine awp_seq_k (fun K10 hK10 => ?_)
   by_cases hlt : k < L.length
   ·have hfl : ((L.take (k + 1)).flatMap (rxE S)).foldl putE R1 = (argsE S L[k].targs true L[k].name 0).foldl putE ((visE S L[k].type).foldl putE (((L.take k).flatMap (rxE S)).foldl putE R1)) := by
     rw [flatTake _ hlt, List.foldl_append, rxE, List.foldl_append]
    have hgm := getM (f := encEx) hlt
    have hmem := (smEx_iff _).1 (hes _ (List.getElem_mem hlt))
    have hfm := flatMem (rxE S) hlt
    have hq := putAll_len ((L.take k).flatMap (rxE S)) R1
    have hse2 := putAll_se ((L.take k).flatMap (rxE S)) R1 hse1
    unfold rxE at hfm
    rw [List.length_append] at hfm
    change (((L.take k).flatMap (rxE S)).length + _ ≤ ((L.flatMap (rxE S))).length) at hfm
    generalize L[k] = X at *
    generalize ((L.take k).flatMap (rxE S)).foldl putE R1 = R2 at *
    have hq2 := putAll_len (visE S X.type) R2
    have hse3 := putAll_se (visE S X.type) R2 hse2
    refine awp_plain 4 (by kernel_rfl) rfl (fun g6 hg6 => ?_)
    simp only [go_sem, hlt, decide_true]
    refine hK10 _ ?_
    refine awp_t rfl ?_
    refine awp_skip ?_
    refine hK9 _ ?_
    refine awp_seq_k (fun K11 hK11 => ?_)
    refine awp_block ?_
    refine awp_seq_k (fun K12 hK12 => ?_)
    refine awp_any 15 (by kernel_rfl) (by kernel_rfl) rfl (fun g8 hg8 ops8 KR8 hops8 hKR8 => ?_)
    refine qrun_eval 14 hops8 ?_
    simp only [go_sem, hgm]
    refine qrun_pure hops8 rfl rfl rfl (refVis_calls S hokS (by omega) X.type (smTy.ok _ hmem.2.1) R2 hse2 (by omega) _ _) (CoL.refl _) rfl ?_
    refine qrun_last 0 hops8 ?_
    simp only [go_sem, List.nil_append]
    refine aops_last 1 hops8 ?_
    simp only [go_sem]
    refine hKR8 _ ?_
    refine hK12 _ ?_
    generalize (visE S X.type).foldl putE R2 = R3 at *
    refine awp_any 13 (by kernel_rfl) (by kernel_rfl) rfl (fun g9 hg9 ops9 KR9 hops9 hKR9 => ?_)
    refine qrun_eval 12 hops9 ?_
    simp only [go_sem, hgm]
    refine qrun_pure hops9 rfl rfl rfl (refArgs_calls S hokS (by omega) X.targs (Nat.le_trans hmem.2.2.1.1 (by decide)) (fun x hx => smTy.ok _ (hmem.2.2.1.2 x hx)) true X.name (Nat.le_trans hmem.1 (by decide)) R3 hse3 (by omega) _ _) (CoL.refl _) rfl ?_
    refine qrun_last 0 hops9 ?_
    simp only [go_sem, List.nil_append]
    refine aops_last 1 hops9 ?_
    simp only [go_sem]
    refine hKR9 _ ?_
    refine hK11 _ ?_
    refine awp_plain 3 (by kernel_rfl) rfl (fun g7 hg7 => ?_)
    simp only [go_sem]
    try simp (disch := omega) only [wrapN]
    refine ⟨_, ?_, k + 1, hlt, rfl, le_of ?_⟩
    ·omega
    simp only [go_sem, hfl]
    all_goals first | done | exact rfl | exact ⟨rfl, rfl⟩ | trivial | omega
   ·have : k = L.length := by omega
    subst this
    refine awp_plain 4 (by kernel_rfl) rfl (fun g6 hg6 => ?_)
    simp only [go_sem, hlt, decide_false]
    refine hK10 _ ?_
    refine awp_f rfl ?_
    refine awp_exit ?_
    refine hK7 _ ?_
    refine awp_seq_k (fun K13 hK13 => ?_)
    refine awp_plain 2 (by kernel_rfl) rfl (fun g10 hg10 => ?_)
    simp only [go_sem]
    refine hK13 _ ?_
    refine awp_ret ?_
    refine ends_ev rfl ?_
    simp only [go_sem]
    exact Co.refl _
 ·unfold rdE at hL ⊢
  rw [if_neg h3] at hL ⊢
  unfold rsE at hL ⊢
  rw [List.foldl_append]
  rw [List.length_append] at hL
  have hsm : smSi ⟨ByteArray.empty, d.formals, d.fields, zeroTy, 0⟩ := ⟨show (0 : Nat) ≤ 1000000 by decide, ⟨show d.formals.length ≤ 1000000 by omega, k3⟩, ⟨k4, k5⟩, smZeroTy⟩
  have hokS : ∀ p ∈ fmN false d.name d.formals, okNd p.2 := okScN _ _ _ (Nat.le_trans k1 (by decide))
  have hSl : (fmN false d.name d.formals).length ≤ 2000 := by
   unfold fmN
   rw [scN_len, List.length_map]
   exact k2
  have hv := fun g r => refVars_calls [] false d.name (d.formals.map (·.name)) (by simp; omega) g r
  rw [List.nil_append] at hv
  unfold fmN at *
  generalize scN false d.name (d.formals.map (·.name)) = S at *
  have hsg := fun g r => refSg_calls S hokS (by omega) _ hsm R hse (by omega) g r
  have hq1 := putAll_len (siE S ⟨ByteArray.empty, d.formals, d.fields, zeroTy, 0⟩) R
  have hse1 := putAll_se (siE S ⟨ByteArray.empty, d.formals, d.fields, zeroTy, 0⟩) R hse
  generalize (siE S ⟨ByteArray.empty, d.formals, d.fields, zeroTy, 0⟩).foldl putE R = R1 at *
  obtain ⟨F, hF⟩ : ∃ F : Sig → List Ed, F = fun x => siE (S ++ scN true x.name (x.formals.map (·.name))) x := ⟨_, rfl⟩
  rw [← hF] at hL ⊢
  have hLb : R1.length + (d.sigs.flatMap F).length ≤ 1000000 := by omega
  refine acalls_of_awp (fn := Tryz.f34) (N := 113) Tryz.call34 Tryz.func34 rfl rfl (by simp) ?_
  simp only [go_sem]
  refine awp_seq_k (fun K1 hK1 => ?_)
  refine awp_plain 2 (by kernel_rfl) rfl (fun g0 hg0 => ?_)
  simp only [go_sem]
  refine hK1 _ ?_
  refine awp_seq_k (fun K2 hK2 => ?_)
  refine awp_seq_k (fun K3 hK3 => ?_)
  refine awp_plain 3 (by kernel_rfl) rfl (fun g1 hg1 => ?_)
  simp only [go_sem, h3, decide_false, List.nil_append]
  refine hK3 _ ?_
  refine awp_f rfl ?_
  refine awp_skip ?_
  refine hK2 _ ?_
  refine awp_seq_k (fun K4 hK4 => ?_)
  refine awp_any 6 (by kernel_rfl) (by kernel_rfl) rfl (fun g11 hg11 ops11 KR11 hops11 hKR11 => ?_)
  refine qrun_eval 4 hops11 ?_
  simp only [go_sem, List.nil_append]
  refine qrun_pure hops11 rfl rfl rfl (refNames_calls d.formals (by omega) _ _) (CoL.refl _) (by simp [nwOk]) ?_
  refine qrun_pure hops11 rfl rfl rfl (hv _ _) (.cons (.nil _) (CoL.refl _)) (by simp [nwOk]) ?_
  refine qrun_last 0 hops11 ?_
  simp only [go_sem, List.nil_append]
  refine aops_last 1 hops11 ?_
  simp only [go_sem, List.nil_append]
  refine hKR11 _ ?_
  refine hK4 _ ?_
  refine awp_seq_k (fun K5 hK5 => ?_)
  refine awp_ops (by kernel_rfl) rfl (fun g12 hg12 ops12 KR12 hops12 hKR12 => ?_)
  refine aops_eval 7 hops12 ?_
  simp only [go_sem, List.cons_append, List.nil_append]
  refine aops_pure hops12 rfl rfl rfl (hsg _ _) (.cons (.refl _) (.cons (.refl _) (.cons (.agg (.cons (.refl _) (.cons (.refl _) (.cons (.refl _) (.cons (.refl _) (.cons (.nil _) (.cons (.refl _) (.cons (.refl _) .nil)))))))) .nil))) ?_
  refine aops_last 1 hops12 ?_
  simp only [go_sem, List.nil_append]
  refine hKR12 _ ?_
  refine hK5 _ ?_
  refine awp_seq_k (fun K6 hK6 => ?_)
  refine awp_seq_k (fun K7 hK7 => ?_)
  refine awp_plain 1 (by kernel_rfl) rfl (fun g13 hg13 => ?_)
  simp only [go_sem, List.nil_append]
  refine hK7 _ ?_
  refine awp_block ?_
  refine awp_loop (fun m st => ∃ k, k ≤ d.sigs.length ∧ m = d.sigs.length - k ∧ Le { env := [(0, slEd (((d.sigs.take k).flatMap F).foldl putE R1)), (3, .ptr ⟨g0, 3, 0⟩ 0), (8, slVr S), (9, dN k)], σ := [(⟨g0, 3, 0⟩, .box 71 (deC d))] } st) d.sigs.length ?_ ?_
  ·refine ⟨0, Nat.zero_le _, rfl, le_of ?_⟩
   simp only [go_sem, List.take_zero, List.flatMap_nil, List.foldl_nil, deC, siC, exC, List.cons_append, List.nil_append]
   all_goals first | done | exact rfl | exact ⟨rfl, rfl⟩ | trivial | omega
  ·rintro m st ⟨k, hk, rfl, hle⟩
   refine awp_keep hle ?_
   clear hle
   refine awp_seq_k (fun K8 hK8 => ?_)
   refine awp_seq_k (fun K9 hK9 => ?_)
   by_cases hlt : k < d.sigs.length
   ·have hfl : ((d.sigs.take (k + 1)).flatMap F).foldl putE R1 = (siE (S ++ scN true d.sigs[k].name (d.sigs[k].formals.map (·.name))) d.sigs[k]).foldl putE (((d.sigs.take k).flatMap F).foldl putE R1) := by
     rw [flatTake _ hlt, List.foldl_append, show F d.sigs[k] = siE (S ++ scN true d.sigs[k].name (d.sigs[k].formals.map (·.name))) d.sigs[k] by rw [hF]]
    have hgm := getM (f := encSi) hlt
    have hmem := k7 _ (List.getElem_mem hlt)
    have hfm := flatMem F hlt
    rw [show F d.sigs[k] = siE (S ++ scN true d.sigs[k].name (d.sigs[k].formals.map (·.name))) d.sigs[k] by rw [hF]] at hfm
    have hq := putAll_len ((d.sigs.take k).flatMap F) R1
    have hse2 := putAll_se ((d.sigs.take k).flatMap F) R1 hse1
    generalize d.sigs[k] = X at *
    generalize ((d.sigs.take k).flatMap F).foldl putE R1 = R2 at *
    have hv2 := fun g r => refVars_calls S true X.name (X.formals.map (·.name)) (by have := hmem.2.1.1; rw [List.length_map]; omega) g r
    have hokT : ∀ p ∈ S ++ scN true X.name (X.formals.map (·.name)), okNd p.2 := okSc_app hokS (okScN _ _ _ (Nat.le_trans hmem.1 (by decide)))
    have hTl : (S ++ scN true X.name (X.formals.map (·.name))).length ≤ 3000000 := by
     have := hmem.2.1.1
     rw [List.length_append, scN_len, List.length_map]
     omega
    generalize S ++ scN true X.name (X.formals.map (·.name)) = T at *
    refine awp_plain 5 (by kernel_rfl) rfl (fun g14 hg14 => ?_)
    simp only [go_sem, hlt, decide_true, deC, siC, exC, List.cons_append, List.nil_append]
    refine hK9 _ ?_
    refine awp_t rfl ?_
    refine awp_skip ?_
    refine hK8 _ ?_
    refine awp_seq_k (fun K10 hK10 => ?_)
    refine awp_block ?_
    refine awp_any 22 (by kernel_rfl) (by kernel_rfl) rfl (fun g16 hg16 ops16 KR16 hops16 hKR16 => ?_)
    refine qrun_eval 14 hops16 ?_
    simp only [go_sem, hgm, siC, List.nil_append]
    refine qrun_pure hops16 rfl rfl rfl (refNames_calls X.formals hmem.2.1.1 _ _) (CoL.refl _) (by simp [nwOk]) ?_
    refine qrun_pure hops16 rfl rfl rfl (hv2 _ _) (CoL.refl _) (by simp [nwOk]) ?_
    refine qrun_eval 5 hops16 ?_
    simp only [go_sem, hgm, siC, List.nil_append]
    refine qrun_pure hops16 rfl rfl rfl (refSg_calls T hokT hTl X hmem R2 hse2 (by omega) _ _) (CoL.refl _) (by simp [nwOk]) ?_
    refine qrun_last 0 hops16 ?_
    simp only [go_sem, List.nil_append]
    refine aops_last 1 hops16 ?_
    simp only [go_sem, List.nil_append]
    refine hKR16 _ ?_
    refine hK10 _ ?_
    refine awp_plain 3 (by kernel_rfl) rfl (fun g15 hg15 => ?_)
    simp only [go_sem, deC, siC, exC, List.cons_append, List.nil_append]
    try simp (disch := omega) only [wrapN]
    refine ⟨_, ?_, k + 1, hlt, rfl, le_of ?_⟩
    ·omega
    simp only [go_sem, hfl]
    all_goals first | done | exact rfl | exact ⟨rfl, rfl⟩ | trivial | omega
   ·have : k = d.sigs.length := by omega
    subst this
    refine awp_plain 5 (by kernel_rfl) rfl (fun g14 hg14 => ?_)
    simp only [go_sem, hlt, decide_false, deC, siC, exC, List.cons_append, List.nil_append]
    refine hK9 _ ?_
    refine awp_f rfl ?_
    refine awp_exit ?_
    refine hK6 _ ?_
    refine awp_seq_k (fun K11 hK11 => ?_)
    refine awp_plain 2 (by kernel_rfl) rfl (fun g17 hg17 => ?_)
    simp only [go_sem, List.nil_append]
    refine hK11 _ ?_
    refine awp_ret ?_
    refine ends_ev rfl ?_
    simp only [go_sem]
    exact Co.refl _
end Go.Proofs.T
namespace Go.Proofs.T
open Go Go.Ab Go.RowKit
noncomputable def rpE (p : Prg) : List Ed := p.decls.flatMap rdE
set_option maxRecDepth 100000 in
theorem refEdges_calls (p : Prg) (hp : smPr p) (hE : (rpE p).length ≤ 1000000) (hN : ∀ d ∈ p.decls, (nodesEx d.body).length ≤ 1000000) (g d : Nat) : ACalls E 11 [encPr p] [] g d (slEd (setE (rpE p))) [] := by
 obtain ⟨⟨k1, k2⟩, k3⟩ := hp
 unfold rpE at hE
 refine acalls_of_awp (fn := Tryz.f11) (N := 20) Tryz.call11 Tryz.func11 rfl rfl (by simp) ?_
 simp only [go_sem]
 refine awp_seq_k (fun K1 hK1 => ?_)
 refine awp_plain 2 (by kernel_rfl) rfl (fun g0 hg0 => ?_)
 simp only [go_sem]
 refine hK1 _ ?_
 refine awp_seq_k (fun K2 hK2 => ?_)
 refine awp_plain 1 (by kernel_rfl) rfl (fun g1 hg1 => ?_)
 simp only [go_sem]
 refine hK2 _ ?_
 refine awp_seq_k (fun K3 hK3 => ?_)
 refine awp_seq_k (fun K4 hK4 => ?_)
 refine awp_plain 1 (by kernel_rfl) rfl (fun g2 hg2 => ?_)
 simp only [go_sem]
 refine hK4 _ ?_
 refine awp_block ?_
 refine awp_co 3 (slEd []) ?_
 simp only [go_sem]
 refine ⟨.nil _, ?_⟩
 refine awp_loop (fun m st => ∃ k, k ≤ p.decls.length ∧ m = p.decls.length - k ∧ Le { env := [(1, .ptr ⟨g0, 1, 0⟩ 0), (3, slEd (((p.decls.take k).flatMap rdE).foldl putE [])), (4, dN k)], σ := [(⟨g0, 1, 0⟩, .box 30 (prC p))] } st) p.decls.length ?_ ?_
 ·refine ⟨0, Nat.zero_le _, rfl, le_of ?_⟩
  simp only [go_sem, List.take_zero, List.flatMap_nil, List.foldl_nil]
  all_goals first | done | exact rfl | exact ⟨rfl, rfl⟩ | trivial | omega
 ·rintro m st ⟨k, hk, rfl, hle⟩
  refine awp_keep hle ?_
  clear hle
  refine awp_seq_k (fun K5 hK5 => ?_)
  refine awp_seq_k (fun K6 hK6 => ?_)
  by_cases hlt : k < p.decls.length
  ·have hfl : ((p.decls.take (k + 1)).flatMap rdE).foldl putE [] = (rdE p.decls[k]).foldl putE (((p.decls.take k).flatMap rdE).foldl putE []) := by
    rw [flatTake _ hlt, List.foldl_append]
   have hgm := getM (f := encDe) hlt
   have hd := k2 _ (List.getElem_mem hlt)
   have hn := hN _ (List.getElem_mem hlt)
   have hfm := flatMem rdE hlt
   have hq := putAll_len ((p.decls.take k).flatMap rdE) []
   have hse2 := putAll_se ((p.decls.take k).flatMap rdE) [] List.Pairwise.nil
   generalize p.decls[k] = X at *
   generalize ((p.decls.take k).flatMap rdE).foldl putE [] = R2 at *
   rw [List.length_nil] at hq
   refine awp_plain 5 (by kernel_rfl) rfl (fun g3 hg3 => ?_)
   simp only [go_sem, hlt, decide_true]
   refine hK6 _ ?_
   refine awp_t rfl ?_
   refine awp_skip ?_
   refine hK5 _ ?_
   refine awp_seq_k (fun K7 hK7 => ?_)
   refine awp_block ?_
   refine awp_ops (by kernel_rfl) rfl (fun g5 hg5 ops5 KR5 hops5 hKR5 => ?_)
   refine aops_eval 6 hops5 ?_
   simp only [go_sem, hgm]
   refine aops_pure hops5 rfl rfl rfl (refDec_calls X hd R2 hse2 (by omega) hn _ _) (CoL.refl _) ?_
   refine aops_last 1 hops5 ?_
   simp only [go_sem]
   refine hKR5 _ ?_
   refine hK7 _ ?_
   refine awp_plain 3 (by kernel_rfl) rfl (fun g4 hg4 => ?_)
   simp only [go_sem]
   try simp (disch := omega) only [wrapN]
   refine ⟨_, ?_, k + 1, hlt, rfl, le_of ?_⟩
   ·omega
   simp only [go_sem, hfl]
   all_goals first | done | exact rfl | exact ⟨rfl, rfl⟩ | trivial | omega
  ·have : k = p.decls.length := by omega
   subst this
   refine awp_plain 5 (by kernel_rfl) rfl (fun g3 hg3 => ?_)
   simp only [go_sem, hlt, decide_false]
   refine hK6 _ ?_
   refine awp_f rfl ?_
   refine awp_exit ?_
   refine hK3 _ ?_
   refine awp_seq_k (fun K8 hK8 => ?_)
   refine awp_plain 2 (by kernel_rfl) rfl (fun g6 hg6 => ?_)
   simp only [go_sem]
   refine hK8 _ ?_
   refine awp_ret ?_
   refine ends_ev rfl ?_
   simp only [go_sem]
   exact Co.refl _
end Go.Proofs.T
