/- A part of the proof, under no conditions of its own: B1. -/
import Derived.Test.YtkddeobmfhchfaaDoorA18
import Derived.Test.YtkddeobmfhchfaaDoorP1
namespace Go.Proofs.T
open Go Go.Ab Go.RowKit

/-! ## What is compared with itself -/

theorem same05s (l : List Ty) (hl : l.length ≤ 9223372036854775807) (hl2 : ∀ t ∈ l, okTy t) (g d : Nat) : ACalls E 67 [slTy l, slTy l] [] g d (dB true) [] := by
  refine acalls_of_awp (fn := Tryd.f67) (N := 27) Tryd.call67 Tryd.func67 rfl rfl (by simp) ?_
  simp only [go_sem]
  refine awp_seq_k (fun K1 hK1 => ?_)
  refine awp_plain 1 (by kernel_rfl) rfl (fun g0 hg0 => ?_)
  simp only [go_sem]
  refine hK1 _ ?_
  refine awp_seq_k (fun K2 hK2 => ?_)
  refine awp_seq_k (fun K3 hK3 => ?_)
  refine awp_plain 5 (by kernel_rfl) rfl (fun g1 hg1 => ?_)
  simp only [go_sem, decide_true, Bool.not_true]
  refine hK3 _ ?_
  refine awp_f rfl ?_
  refine awp_skip ?_
  refine hK2 _ ?_
  refine awp_seq_k (fun K4 hK4 => ?_)
  refine awp_seq_k (fun K5 hK5 => ?_)
  refine awp_plain 1 (by kernel_rfl) rfl (fun g3 hg3 => ?_)
  simp only [go_sem]
  refine hK5 _ ?_
  refine awp_block ?_
  refine awp_loop (fun m s => ∃ k, k ≤ l.length ∧ m = l.length - k ∧ Le { env := [(0, slTy l), (1, slTy l), (5, dN k)], σ := [] } s) l.length ?_ ?_
  · refine ⟨0, Nat.zero_le _, rfl, le_of ?_⟩
    simp only [go_sem]
    trivial
  · rintro m s ⟨k, hk, rfl, hle⟩
    refine awp_keep hle ?_
    clear hle
    by_cases h : k < l.length
    · have hs : decide (cmpTy l[k] l[k] = 0) = true := same_self _
      refine awp_seq_k (fun K6 hK6 => ?_)
      refine awp_seq_k (fun K7 hK7 => ?_)
      refine awp_plain 4 (by kernel_rfl) rfl (fun g4 hg4 => ?_)
      simp only [go_sem, h]
      refine hK7 _ ?_
      refine awp_t rfl ?_
      refine awp_skip ?_
      refine hK6 _ ?_
      refine awp_seq_k (fun K8 hK8 => ?_)
      refine awp_block ?_
      refine awp_seq_k (fun K9 hK9 => ?_)
      refine awp_anyq (by kernel_rfl) rfl (fun g6 hg6 ops6 KR6 hops6 hKR6 => ?_)
      refine qrun_eval 8 hops6 ?_
      simp only [go_sem, getM h]
      refine qrun_pure hops6 rfl rfl rfl (ref04Same_calls _ l[k] (hl2 _ (List.getElem_mem h)) _ _) (CoL.refl _) rfl ?_
      refine qrun_last 1 hops6 ?_
      simp only [go_sem, hs, Bool.not_true]
      refine hKR6 _ ?_
      refine hK9 _ ?_
      refine awp_f rfl ?_
      refine awp_skip ?_
      refine hK8 _ ?_
      refine awp_plain 3 (by kernel_rfl) rfl (fun g5 hg5 => ?_)
      simp only [go_sem]
      try simp (disch := omega) only [wrapN]
      refine ⟨_, ?_, k + 1, h, rfl, le_of ?_⟩
      · omega
      simp only [go_sem]
      omega
    · refine awp_seq_k (fun K10 hK10 => ?_)
      refine awp_seq_k (fun K11 hK11 => ?_)
      refine awp_plain 4 (by kernel_rfl) rfl (fun g4 hg4 => ?_)
      simp only [go_sem, h]
      refine hK11 _ ?_
      refine awp_f rfl ?_
      refine awp_exit ?_
      refine hK4 _ ?_
      refine awp_seq_k (fun K12 hK12 => ?_)
      refine awp_plain 1 (by kernel_rfl) rfl (fun g8 hg8 => ?_)
      simp only [go_sem]
      refine hK12 _ ?_
      refine awp_ret ?_
      refine ends_ev rfl ?_
      simp only [go_sem]
      exact Co.refl _

theorem same05 : ∀ e : Ex, okEx e → ∀ g d, ACalls E 43 [encEx e, encEx e] [] g d (dB true) [] := by
  refine Ex.ind fun e ih => ?_
  intro he g d
  obtain ⟨h1, h2, ⟨h3, h4⟩, h5, h6⟩ := (okEx_iff e).1 he
  have hs : decide (cmpTy e.type e.type = 0) = true := same_self _
  refine acalls_of_awp (fn := Tryd.f43) (N := 62) Tryd.call43 Tryd.func43 rfl rfl (by simp) ?_
  simp only [go_sem]
  refine awp_seq_k (fun K1 hK1 => ?_)
  refine awp_plain 3 (by kernel_rfl) rfl (fun g0 hg0 => ?_)
  simp only [go_sem]
  refine hK1 _ ?_
  refine awp_seq_k (fun K2 hK2 => ?_)
  refine awp_seq_k (fun K3 hK3 => ?_)
  refine awp_ops (by kernel_rfl) rfl (fun g1 hg1 ops1 KR1 hops1 hKR1 => ?_)
  refine aops_eval 17 hops1 ?_
  simp only [go_sem, decide_true, Bool.not_true]
  refine aops_pure hops1 rfl rfl rfl (ref04Same_calls e.type e.type h2 _ _) (CoL.refl _) ?_
  refine aops_eval 7 hops1 ?_
  simp only [go_sem, hs, Bool.not_true]
  refine aops_pure hops1 rfl rfl rfl (same05s e.targs h3 h4 _ _) (CoL.refl _) ?_
  refine aops_last 11 hops1 ?_
  simp only [go_sem, decide_true, Bool.not_true]
  refine hKR1 _ ?_
  refine hK3 _ ?_
  refine awp_f rfl ?_
  refine awp_skip ?_
  refine hK2 _ ?_
  refine awp_seq_k (fun K4 hK4 => ?_)
  refine awp_seq_k (fun K5 hK5 => ?_)
  refine awp_plain 1 (by kernel_rfl) rfl (fun g3 hg3 => ?_)
  simp only [go_sem]
  refine hK5 _ ?_
  refine awp_block ?_
  refine awp_loop (fun m s => ∃ k, k ≤ e.kids.length ∧ m = e.kids.length - k ∧
      Le { env := [(2, .ptr ⟨g0, 2, 0⟩ 0), (3, .ptr ⟨g0, 3, 0⟩ 0), (5, dN k)], σ := [(⟨g0, 2, 0⟩, .box 28 (exC e)), (⟨g0, 3, 0⟩, .box 28 (exC e))] } s) e.kids.length ?_ ?_
  · refine ⟨0, Nat.zero_le _, rfl, le_of ?_⟩
    simp only [go_sem, exC]
    trivial
  · rintro m s ⟨k, hk, rfl, hle⟩
    refine awp_keep hle ?_
    clear hle
    by_cases h : k < e.kids.length
    · refine awp_seq_k (fun K6 hK6 => ?_)
      refine awp_seq_k (fun K7 hK7 => ?_)
      refine awp_plain 5 (by kernel_rfl) rfl (fun g4 hg4 => ?_)
      simp only [go_sem, h, exC]
      refine hK7 _ ?_
      refine awp_t rfl ?_
      refine awp_skip ?_
      refine hK6 _ ?_
      refine awp_seq_k (fun K8 hK8 => ?_)
      refine awp_block ?_
      refine awp_seq_k (fun K9 hK9 => ?_)
      refine awp_anyq (by kernel_rfl) rfl (fun g6 hg6 ops6 KR6 hops6 hKR6 => ?_)
      refine qrun_eval 10 hops6 ?_
      simp only [go_sem, getM h]
      refine qrun_pure hops6 rfl rfl rfl (ih _ (List.getElem_mem h) (h6 _ (List.getElem_mem h)) _ _) (CoL.refl _) rfl ?_
      refine qrun_last 1 hops6 ?_
      simp only [go_sem, Bool.not_true]
      refine hKR6 _ ?_
      refine hK9 _ ?_
      refine awp_f rfl ?_
      refine awp_skip ?_
      refine hK8 _ ?_
      refine awp_plain 3 (by kernel_rfl) rfl (fun g5 hg5 => ?_)
      simp only [go_sem]
      try simp (disch := omega) only [wrapN]
      refine ⟨_, ?_, k + 1, h, rfl, le_of ?_⟩
      · omega
      simp only [go_sem]
      omega
    · refine awp_seq_k (fun K10 hK10 => ?_)
      refine awp_seq_k (fun K11 hK11 => ?_)
      refine awp_plain 5 (by kernel_rfl) rfl (fun g4 hg4 => ?_)
      simp only [go_sem, h, exC]
      refine hK11 _ ?_
      refine awp_f rfl ?_
      refine awp_exit ?_
      refine hK4 _ ?_
      refine awp_seq_k (fun K12 hK12 => ?_)
      refine awp_plain 1 (by kernel_rfl) rfl (fun g8 hg8 => ?_)
      simp only [go_sem]
      refine hK12 _ ?_
      refine awp_ret ?_
      refine ends_ev rfl ?_
      simp only [go_sem]
      exact Co.refl _


theorem equal05 : ∀ e : Ex, okEx e → ∀ g d, ACalls E 44 [encEx e, encEx e] [] g d (dB true) [] := by
  refine Ex.ind fun e ih => ?_
  intro he g d
  obtain ⟨h1, h2, ⟨h3, h4⟩, h5, h6⟩ := (okEx_iff e).1 he
  have hs := eqTy_self e.type
  refine acalls_of_awp (fn := Tryd.f44) (N := 90) Tryd.call44 Tryd.func44 rfl rfl (by simp) ?_
  simp only [go_sem]
  refine awp_seq_k (fun K1 hK1 => ?_)
  refine awp_plain 3 (by kernel_rfl) rfl (fun g0 hg0 => ?_)
  simp only [go_sem]
  refine hK1 _ ?_
  refine awp_seq_k (fun K2 hK2 => ?_)
  refine awp_seq_k (fun K3 hK3 => ?_)
  refine awp_ops (by kernel_rfl) rfl (fun g1 hg1 ops1 KR1 hops1 hKR1 => ?_)
  refine aops_eval 24 hops1 ?_
  simp only [go_sem, decide_true, Bool.not_true]
  refine aops_pure hops1 rfl rfl rfl (ref04Equal_calls e.type h2 e.type _ _) (CoL.refl _) ?_
  refine aops_last 20 hops1 ?_
  simp only [go_sem, hs, Bool.not_true, decide_true]
  refine hKR1 _ ?_
  refine hK3 _ ?_
  refine awp_f rfl ?_
  refine awp_skip ?_
  refine hK2 _ ?_
  refine awp_seq_k (fun K4 hK4 => ?_)
  refine awp_seq_k (fun K5 hK5 => ?_)
  refine awp_plain 1 (by kernel_rfl) rfl (fun g3 hg3 => ?_)
  simp only [go_sem]
  refine hK5 _ ?_
  refine awp_block ?_
  refine awp_loop (fun m s => ∃ k, k ≤ e.targs.length ∧ m = e.targs.length - k ∧
      Le { env := [(2, .ptr ⟨g0, 2, 0⟩ 0), (3, .ptr ⟨g0, 3, 0⟩ 0), (5, dN k)], σ := [(⟨g0, 2, 0⟩, .box 28 (exC e)), (⟨g0, 3, 0⟩, .box 28 (exC e))] } s) e.targs.length ?_ ?_
  · refine ⟨0, Nat.zero_le _, rfl, le_of ?_⟩
    simp only [go_sem, exC]
    trivial
  · rintro m s ⟨k, hk, rfl, hle⟩
    refine awp_keep hle ?_
    clear hle
    by_cases h : k < e.targs.length
    · have hz := eqTy_self
      refine awp_seq_k (fun K6 hK6 => ?_)
      refine awp_seq_k (fun K7 hK7 => ?_)
      refine awp_plain 5 (by kernel_rfl) rfl (fun g4 hg4 => ?_)
      simp only [go_sem, h, exC]
      refine hK7 _ ?_
      refine awp_t rfl ?_
      refine awp_skip ?_
      refine hK6 _ ?_
      refine awp_seq_k (fun K8 hK8 => ?_)
      refine awp_block ?_
      refine awp_seq_k (fun K9 hK9 => ?_)
      refine awp_anyq (by kernel_rfl) rfl (fun g6 hg6 ops6 KR6 hops6 hKR6 => ?_)
      refine qrun_eval 10 hops6 ?_
      simp only [go_sem, getM h]
      refine qrun_pure hops6 rfl rfl rfl (ref04Equal_calls _ (h4 _ (List.getElem_mem h)) e.targs[k] _ _) (CoL.refl _) rfl ?_
      refine qrun_last 1 hops6 ?_
      simp only [go_sem, hz, Bool.not_true]
      refine hKR6 _ ?_
      refine hK9 _ ?_
      refine awp_f rfl ?_
      refine awp_skip ?_
      refine hK8 _ ?_
      refine awp_plain 3 (by kernel_rfl) rfl (fun g5 hg5 => ?_)
      simp only [go_sem]
      try simp (disch := omega) only [wrapN]
      refine ⟨_, ?_, k + 1, h, rfl, le_of ?_⟩
      · omega
      simp only [go_sem]
      omega
    · refine awp_seq_k (fun K10 hK10 => ?_)
      refine awp_seq_k (fun K11 hK11 => ?_)
      refine awp_plain 5 (by kernel_rfl) rfl (fun g4 hg4 => ?_)
      simp only [go_sem, h, exC]
      refine hK11 _ ?_
      refine awp_f rfl ?_
      refine awp_exit ?_
      refine hK4 _ ?_
      refine awp_seq_k (fun K12 hK12 => ?_)
      refine awp_seq_k (fun K13 hK13 => ?_)
      refine awp_plain 1 (by kernel_rfl) rfl (fun g8 hg8 => ?_)
      simp only [go_sem]
      refine hK13 _ ?_
      refine awp_block ?_
      refine awp_loop (fun m s => ∃ k, k ≤ e.kids.length ∧ m = e.kids.length - k ∧
          Le { env := [(2, .ptr ⟨g0, 2, 0⟩ 0), (3, .ptr ⟨g0, 3, 0⟩ 0), (6, dN k)], σ := [(⟨g0, 2, 0⟩, .box 28 (exC e)), (⟨g0, 3, 0⟩, .box 28 (exC e))] } s) e.kids.length ?_ ?_
      · refine ⟨0, Nat.zero_le _, rfl, le_of ?_⟩
        simp only [go_sem, exC]
        trivial
      · rintro m s ⟨k, hk, rfl, hle⟩
        refine awp_keep hle ?_
        clear hle
        by_cases h : k < e.kids.length
        · have hz := eqTy_self
          refine awp_seq_k (fun K14 hK14 => ?_)
          refine awp_seq_k (fun K15 hK15 => ?_)
          refine awp_plain 5 (by kernel_rfl) rfl (fun g9 hg9 => ?_)
          simp only [go_sem, h, exC]
          refine hK15 _ ?_
          refine awp_t rfl ?_
          refine awp_skip ?_
          refine hK14 _ ?_
          refine awp_seq_k (fun K16 hK16 => ?_)
          refine awp_block ?_
          refine awp_seq_k (fun K17 hK17 => ?_)
          refine awp_anyq (by kernel_rfl) rfl (fun g11 hg11 ops11 KR11 hops11 hKR11 => ?_)
          refine qrun_eval 10 hops11 ?_
          simp only [go_sem, getM h]
          refine qrun_pure hops11 rfl rfl rfl (ih _ (List.getElem_mem h) (h6 _ (List.getElem_mem h)) _ _) (CoL.refl _) rfl ?_
          refine qrun_last 1 hops11 ?_
          simp only [go_sem, Bool.not_true]
          refine hKR11 _ ?_
          refine hK17 _ ?_
          refine awp_f rfl ?_
          refine awp_skip ?_
          refine hK16 _ ?_
          refine awp_plain 3 (by kernel_rfl) rfl (fun g10 hg10 => ?_)
          simp only [go_sem]
          try simp (disch := omega) only [wrapN]
          refine ⟨_, ?_, k + 1, h, rfl, le_of ?_⟩
          · omega
          simp only [go_sem]
          omega
        · refine awp_seq_k (fun K18 hK18 => ?_)
          refine awp_seq_k (fun K19 hK19 => ?_)
          refine awp_plain 5 (by kernel_rfl) rfl (fun g9 hg9 => ?_)
          simp only [go_sem, h, exC]
          refine hK19 _ ?_
          refine awp_f rfl ?_
          refine awp_exit ?_
          refine hK12 _ ?_
          refine awp_seq_k (fun K20 hK20 => ?_)
          refine awp_plain 1 (by kernel_rfl) rfl (fun g13 hg13 => ?_)
          simp only [go_sem]
          refine hK20 _ ?_
          refine awp_ret ?_
          refine ends_ev rfl ?_
          simp only [go_sem]
          exact Co.refl _



theorem refFm_self (q : Bool) : ∀ a, refFm q a a = true := fun a => by simp [refFm, same_self, eqTy_self]
theorem refPa_self (q : Bool) : ∀ a, refPa q a a = true := fun a => by simp [refPa, same_self, eqTy_self]

theorem decl06 (q : Bool) (e : Dec) (he : okDe e) (g d : Nat) : ACalls E 17 [encDe e, encDe e, dB q] [] g d (dB true) [] := by
  obtain ⟨h1, ⟨h2, h3⟩, ⟨h4, h5⟩, ⟨h6, h7⟩, h8, ⟨h9, h10⟩, h11, h12⟩ := he
  have hf := allB_self (refFm_self q) e.formals
  have hp := allB_self (refPa_self q) e.fields
  have hsg := refSi_self q
  refine acalls_of_awp (fn := Tryd.f17) (N := 133) Tryd.call17 Tryd.func17 rfl rfl (by simp) ?_
  simp only [go_sem]
  refine awp_seq_k (fun K1 hK1 => ?_)
  refine awp_plain 3 (by kernel_rfl) rfl (fun g0 hg0 => ?_)
  simp only [go_sem]
  refine hK1 _ ?_
  refine awp_seq_k (fun K2 hK2 => ?_)
  refine awp_seq_k (fun K3 hK3 => ?_)
  refine awp_ops (by kernel_rfl) rfl (fun g1 hg1 ops1 KR1 hops1 hKR1 => ?_)
  refine aops_eval 25 hops1 ?_
  simp only [go_sem, decide_true, Bool.not_true, List.nil_append]
  refine aops_pure hops1 rfl rfl rfl (refFormals_calls q _ _ h2 h3 _ _) (CoL.refl _) ?_
  refine aops_eval 8 hops1 ?_
  simp only [go_sem, hf, Bool.not_true]
  refine aops_pure hops1 rfl rfl rfl (refParams_calls q _ _ h4 h5 _ _) (CoL.refl _) ?_
  refine aops_last 20 hops1 ?_
  simp only [go_sem, hp, Bool.not_true, decide_true]
  refine hKR1 _ ?_
  refine hK3 _ ?_
  refine awp_f rfl ?_
  refine awp_skip ?_
  refine hK2 _ ?_
  refine awp_seq_k (fun K4 hK4 => ?_)
  refine awp_seq_k (fun K5 hK5 => ?_)
  refine awp_plain 1 (by kernel_rfl) rfl (fun g3 hg3 => ?_)
  simp only [go_sem]
  refine hK5 _ ?_
  refine awp_block ?_
  refine awp_loop (fun m s => ∃ k, k ≤ e.sigs.length ∧ m = e.sigs.length - k ∧
      Le { env := [(2, dB q), (3, .ptr ⟨g0, 3, 0⟩ 0), (4, .ptr ⟨g0, 4, 0⟩ 0), (7, dN k)], σ := [(⟨g0, 3, 0⟩, .box 52 (deC e)), (⟨g0, 4, 0⟩, .box 52 (deC e))] } s) e.sigs.length ?_ ?_
  · refine ⟨0, Nat.zero_le _, rfl, le_of ?_⟩
    simp only [go_sem, deC, siC, exC, List.cons_append, List.nil_append]
    trivial
  · rintro m s ⟨k, hk, rfl, hle⟩
    refine awp_keep hle ?_
    clear hle
    by_cases h : k < e.sigs.length
    · refine awp_seq_k (fun K6 hK6 => ?_)
      refine awp_seq_k (fun K7 hK7 => ?_)
      refine awp_plain 5 (by kernel_rfl) rfl (fun g4 hg4 => ?_)
      simp only [go_sem, deC, siC, exC, List.cons_append, List.nil_append, h]
      refine hK7 _ ?_
      refine awp_t rfl ?_
      refine awp_skip ?_
      refine hK6 _ ?_
      refine awp_seq_k (fun K8 hK8 => ?_)
      refine awp_block ?_
      refine awp_seq_k (fun K9 hK9 => ?_)
      refine awp_anyq (by kernel_rfl) rfl (fun g6 hg6 ops6 KR6 hops6 hKR6 => ?_)
      refine qrun_eval 11 hops6 ?_
      simp only [go_sem, getM h, siC, List.nil_append]
      refine qrun_pure hops6 rfl rfl rfl (refSig_calls q _ _ (h7 _ (List.getElem_mem h)) _ _) (CoL.refl _) rfl ?_
      refine qrun_last 1 hops6 ?_
      simp only [go_sem, hsg, Bool.not_true, List.nil_append]
      refine hKR6 _ ?_
      refine hK9 _ ?_
      refine awp_f rfl ?_
      refine awp_skip ?_
      refine hK8 _ ?_
      refine awp_plain 3 (by kernel_rfl) rfl (fun g5 hg5 => ?_)
      simp only [go_sem, deC, siC, exC, List.cons_append, List.nil_append]
      try simp (disch := omega) only [wrapN]
      refine ⟨_, ?_, k + 1, h, rfl, le_of ?_⟩
      · omega
      simp only [go_sem]
      omega
    · refine awp_seq_k (fun K10 hK10 => ?_)
      refine awp_seq_k (fun K11 hK11 => ?_)
      refine awp_plain 5 (by kernel_rfl) rfl (fun g4 hg4 => ?_)
      simp only [go_sem, deC, siC, exC, List.cons_append, List.nil_append, h]
      refine hK11 _ ?_
      refine awp_f rfl ?_
      refine awp_exit ?_
      refine hK4 _ ?_
      refine awp_seq_k (fun K12 hK12 => ?_)
      refine awp_seq_k (fun K13 hK13 => ?_)
      refine awp_plain 1 (by kernel_rfl) rfl (fun g8 hg8 => ?_)
      simp only [go_sem, List.nil_append]
      refine hK13 _ ?_
      refine awp_block ?_
      refine awp_loop (fun m s => ∃ k, k ≤ e.vars.length ∧ m = e.vars.length - k ∧
          Le { env := [(2, dB q), (3, .ptr ⟨g0, 3, 0⟩ 0), (4, .ptr ⟨g0, 4, 0⟩ 0), (8, dN k)], σ := [(⟨g0, 3, 0⟩, .box 52 (deC e)), (⟨g0, 4, 0⟩, .box 52 (deC e))] } s) e.vars.length ?_ ?_
      · refine ⟨0, Nat.zero_le _, rfl, le_of ?_⟩
        simp only [go_sem, deC, siC, exC, List.cons_append, List.nil_append, deC, siC, exC, List.cons_append, List.nil_append]
        trivial
      · rintro m s ⟨k, hk, rfl, hle⟩
        refine awp_keep hle ?_
        clear hle
        by_cases h : k < e.vars.length
        · refine awp_seq_k (fun K14 hK14 => ?_)
          refine awp_seq_k (fun K15 hK15 => ?_)
          refine awp_plain 5 (by kernel_rfl) rfl (fun g9 hg9 => ?_)
          simp only [go_sem, deC, siC, exC, List.cons_append, List.nil_append, deC, siC, exC, List.cons_append, List.nil_append, h]
          refine hK15 _ ?_
          refine awp_t rfl ?_
          refine awp_skip ?_
          refine hK14 _ ?_
          refine awp_seq_k (fun K16 hK16 => ?_)
          refine awp_block ?_
          refine awp_seq_k (fun K17 hK17 => ?_)
          refine awp_anyq (by kernel_rfl) rfl (fun g11 hg11 ops11 KR11 hops11 hKR11 => ?_)
          refine qrun_last 11 hops11 ?_
          simp only [go_sem, getM h, decide_true, Bool.not_true, List.nil_append, List.nil_append]
          refine hKR11 _ ?_
          refine hK17 _ ?_
          skip
          refine awp_f rfl ?_
          refine awp_skip ?_
          refine hK16 _ ?_
          refine awp_plain 3 (by kernel_rfl) rfl (fun g10 hg10 => ?_)
          simp only [go_sem, deC, siC, exC, List.cons_append, List.nil_append, deC, siC, exC, List.cons_append, List.nil_append]
          try simp (disch := omega) only [wrapN]
          refine ⟨_, ?_, k + 1, h, rfl, le_of ?_⟩
          · omega
          simp only [go_sem]
          omega
        · refine awp_seq_k (fun K18 hK18 => ?_)
          refine awp_seq_k (fun K19 hK19 => ?_)
          refine awp_plain 5 (by kernel_rfl) rfl (fun g9 hg9 => ?_)
          simp only [go_sem, deC, siC, exC, List.cons_append, List.nil_append, deC, siC, exC, List.cons_append, List.nil_append, h]
          refine hK19 _ ?_
          refine awp_f rfl ?_
          refine awp_exit ?_
          refine hK12 _ ?_
          refine awp_seq_k (fun K20 hK20 => ?_)
          refine awp_seq_k (fun K21 hK21 => ?_)
          refine awp_ops (by kernel_rfl) rfl (fun g13 hg13 ops13 KR13 hops13 hKR13 => ?_)
          refine aops_eval 5 hops13 ?_
          simp only [go_sem, List.nil_append, List.nil_append]
          refine aops_pure hops13 rfl rfl rfl (refSig_calls q _ _ h11 _ _) (CoL.refl _) ?_
          refine aops_eval 6 hops13 ?_
          simp only [go_sem, hsg, Bool.not_true, List.nil_append, List.nil_append]
          refine aops_pure hops13 rfl rfl rfl (same05 e.body h12 _ _) (CoL.refl _) ?_
          refine aops_last 2 hops13 ?_
          simp only [go_sem, Bool.not_true, List.nil_append, List.nil_append]
          refine hKR13 _ ?_
          refine hK21 _ ?_
          refine awp_f rfl ?_
          refine awp_skip ?_
          refine hK20 _ ?_
          refine awp_seq_k (fun K22 hK22 => ?_)
          cases q with
          | false =>
            refine awp_plain 17 (by kernel_rfl) rfl (fun g15 hg15 => ?_)
            simp only [go_sem, Bool.not_false, List.nil_append, List.nil_append]
            refine hK22 _ ?_
            refine awp_ret ?_
            refine ends_ev rfl ?_
            simp only [go_sem]
            exact Co.refl _
          | true =>
            refine awp_ops (by kernel_rfl) rfl (fun g15 hg15 ops15 KR15 hops15 hKR15 => ?_)
            refine aops_eval 13 hops15 ?_
            simp only [go_sem, Bool.not_true, decide_true, List.nil_append, List.nil_append]
            refine aops_pure hops15 rfl rfl rfl (equal05 e.body h12 _ _) (CoL.refl _) ?_
            refine aops_last 3 hops15 ?_
            simp only [go_sem, List.nil_append, List.nil_append]
            refine hKR15 _ ?_
            refine hK22 _ ?_
            refine awp_ret ?_
            refine ends_ev rfl ?_
            simp only [go_sem]
            exact Co.refl _

theorem prog06 (q : Bool) (p : Prg) (hp : okPr p) (g d : Nat) : ACalls E 24 [encPr p, encPr p, dB q] [] g d (dB true) [] := by
  obtain ⟨⟨h1, h2⟩, h3⟩ := hp
  have fin : True := trivial
  refine acalls_of_awp (fn := Tryd.f24) (N := 54) Tryd.call24 Tryd.func24 rfl rfl (by simp) ?_
  simp only [go_sem]
  refine awp_seq_k (fun K1 hK1 => ?_)
  refine awp_plain 3 (by kernel_rfl) rfl (fun g0 hg0 => ?_)
  simp only [go_sem]
  refine hK1 _ ?_
  refine awp_seq_k (fun K2 hK2 => ?_)
  refine awp_seq_k (fun K3 hK3 => ?_)
  refine awp_ops (by kernel_rfl) rfl (fun g1 hg1 ops1 KR1 hops1 hKR1 => ?_)
  refine aops_eval 12 hops1 ?_
  simp only [go_sem, decide_true, Bool.not_true, List.nil_append]
  cases q with
  | false =>
    refine aops_pure hops1 rfl rfl rfl (same05 p.main h3 _ _) (CoL.refl _) ?_
    refine aops_last 13 hops1 ?_
    simp only [go_sem, Bool.not_true]
    refine hKR1 _ ?_
    refine hK3 _ ?_
    refine awp_f rfl ?_
    refine awp_skip ?_
    refine hK2 _ ?_
    refine awp_seq_k (fun K4 hK4 => ?_)
    refine awp_seq_k (fun K5 hK5 => ?_)
    refine awp_plain 1 (by kernel_rfl) rfl (fun g3 hg3 => ?_)
    simp only [go_sem]
    refine hK5 _ ?_
    refine awp_block ?_
    refine awp_loop (fun m s => ∃ k, k ≤ p.decls.length ∧ m = p.decls.length - k ∧
        Le { env := [(2, dB false), (3, .ptr ⟨g0, 3, 0⟩ 0), (4, .ptr ⟨g0, 4, 0⟩ 0), (7, dN k)], σ := [(⟨g0, 3, 0⟩, .box 30 (prC p)), (⟨g0, 4, 0⟩, .box 30 (prC p))] } s) p.decls.length ?_ ?_
    · refine ⟨0, Nat.zero_le _, rfl, le_of ?_⟩
      simp only [go_sem, prC, exC, List.cons_append, List.nil_append]
      trivial
    · rintro m s ⟨k, hk, rfl, hle⟩
      refine awp_keep hle ?_
      clear hle
      by_cases h : k < p.decls.length
      · refine awp_seq_k (fun K6 hK6 => ?_)
        refine awp_seq_k (fun K7 hK7 => ?_)
        refine awp_plain 5 (by kernel_rfl) rfl (fun g4 hg4 => ?_)
        simp only [go_sem, prC, exC, List.cons_append, List.nil_append, h]
        refine hK7 _ ?_
        refine awp_t rfl ?_
        refine awp_skip ?_
        refine hK6 _ ?_
        refine awp_seq_k (fun K8 hK8 => ?_)
        refine awp_block ?_
        refine awp_seq_k (fun K9 hK9 => ?_)
        refine awp_anyq (by kernel_rfl) rfl (fun g6 hg6 ops6 KR6 hops6 hKR6 => ?_)
        refine qrun_eval 11 hops6 ?_
        simp only [go_sem, getM h, exC, List.cons_append, List.nil_append]
        refine qrun_pure hops6 rfl rfl rfl (decl06 false _ (h2 _ (List.getElem_mem h)) _ _) (CoL.refl _) rfl ?_
        refine qrun_last 1 hops6 ?_
        simp only [go_sem, Bool.not_true, List.nil_append]
        refine hKR6 _ ?_
        refine hK9 _ ?_
        refine awp_f rfl ?_
        refine awp_skip ?_
        refine hK8 _ ?_
        refine awp_plain 3 (by kernel_rfl) rfl (fun g5 hg5 => ?_)
        simp only [go_sem, prC, exC, List.cons_append, List.nil_append]
        try simp (disch := omega) only [wrapN]
        refine ⟨_, ?_, k + 1, h, rfl, le_of ?_⟩
        · omega
        simp only [go_sem]
        omega
      · refine awp_seq_k (fun K10 hK10 => ?_)
        refine awp_seq_k (fun K11 hK11 => ?_)
        refine awp_plain 5 (by kernel_rfl) rfl (fun g4 hg4 => ?_)
        simp only [go_sem, prC, exC, List.cons_append, List.nil_append, h]
        refine hK11 _ ?_
        refine awp_f rfl ?_
        refine awp_exit ?_
        refine hK4 _ ?_
        refine awp_seq_k (fun K12 hK12 => ?_)
        refine awp_plain 1 (by kernel_rfl) rfl (fun g8 hg8 => ?_)
        simp only [go_sem, List.nil_append]
        refine hK12 _ ?_
        refine awp_ret ?_
        refine ends_ev rfl ?_
        simp only [go_sem]
        exact Co.refl _
  | true =>
    refine aops_pure hops1 rfl rfl rfl (same05 p.main h3 _ _) (CoL.refl _) ?_
    refine aops_eval 9 hops1 ?_
    simp only [go_sem, Bool.not_true]
    refine aops_pure hops1 rfl rfl rfl (equal05 p.main h3 _ _) (CoL.refl _) ?_
    refine aops_last 3 hops1 ?_
    simp only [go_sem, Bool.not_true]
    refine hKR1 _ ?_
    refine hK3 _ ?_
    refine awp_f rfl ?_
    refine awp_skip ?_
    refine hK2 _ ?_
    refine awp_seq_k (fun K13 hK13 => ?_)
    refine awp_seq_k (fun K14 hK14 => ?_)
    refine awp_plain 1 (by kernel_rfl) rfl (fun g3 hg3 => ?_)
    simp only [go_sem]
    refine hK14 _ ?_
    refine awp_block ?_
    refine awp_loop (fun m s => ∃ k, k ≤ p.decls.length ∧ m = p.decls.length - k ∧
        Le { env := [(2, dB true), (3, .ptr ⟨g0, 3, 0⟩ 0), (4, .ptr ⟨g0, 4, 0⟩ 0), (7, dN k)], σ := [(⟨g0, 3, 0⟩, .box 30 (prC p)), (⟨g0, 4, 0⟩, .box 30 (prC p))] } s) p.decls.length ?_ ?_
    · refine ⟨0, Nat.zero_le _, rfl, le_of ?_⟩
      simp only [go_sem, prC, exC, List.cons_append, List.nil_append]
      trivial
    · rintro m s ⟨k, hk, rfl, hle⟩
      refine awp_keep hle ?_
      clear hle
      by_cases h : k < p.decls.length
      · refine awp_seq_k (fun K15 hK15 => ?_)
        refine awp_seq_k (fun K16 hK16 => ?_)
        refine awp_plain 5 (by kernel_rfl) rfl (fun g4 hg4 => ?_)
        simp only [go_sem, prC, exC, List.cons_append, List.nil_append, h]
        refine hK16 _ ?_
        refine awp_t rfl ?_
        refine awp_skip ?_
        refine hK15 _ ?_
        refine awp_seq_k (fun K17 hK17 => ?_)
        refine awp_block ?_
        refine awp_seq_k (fun K18 hK18 => ?_)
        refine awp_anyq (by kernel_rfl) rfl (fun g6 hg6 ops6 KR6 hops6 hKR6 => ?_)
        refine qrun_eval 11 hops6 ?_
        simp only [go_sem, getM h, exC, List.cons_append, List.nil_append]
        refine qrun_pure hops6 rfl rfl rfl (decl06 true _ (h2 _ (List.getElem_mem h)) _ _) (CoL.refl _) rfl ?_
        refine qrun_last 1 hops6 ?_
        simp only [go_sem, Bool.not_true, List.nil_append]
        refine hKR6 _ ?_
        refine hK18 _ ?_
        refine awp_f rfl ?_
        refine awp_skip ?_
        refine hK17 _ ?_
        refine awp_plain 3 (by kernel_rfl) rfl (fun g5 hg5 => ?_)
        simp only [go_sem, prC, exC, List.cons_append, List.nil_append]
        try simp (disch := omega) only [wrapN]
        refine ⟨_, ?_, k + 1, h, rfl, le_of ?_⟩
        · omega
        simp only [go_sem]
        omega
      · refine awp_seq_k (fun K19 hK19 => ?_)
        refine awp_seq_k (fun K20 hK20 => ?_)
        refine awp_plain 5 (by kernel_rfl) rfl (fun g4 hg4 => ?_)
        simp only [go_sem, prC, exC, List.cons_append, List.nil_append, h]
        refine hK20 _ ?_
        refine awp_f rfl ?_
        refine awp_exit ?_
        refine hK13 _ ?_
        refine awp_seq_k (fun K21 hK21 => ?_)
        refine awp_plain 1 (by kernel_rfl) rfl (fun g8 hg8 => ?_)
        simp only [go_sem, List.nil_append]
        refine hK21 _ ?_
        refine awp_ret ?_
        refine ends_ev rfl ?_
        simp only [go_sem]
        exact Co.refl _

theorem zeroPr_calls (g d : Nat) (p : Prg) (hp : okPr p) : ACalls E 29 [encPr p, encPr p] [] g d (dB true) [] := by
  refine acalls_of_awp (fn := Tryd.f29) (N := 8) Tryd.call29 Tryd.func29 rfl rfl (by simp) ?_
  simp only [go_sem]
  refine awp_seq_k (fun K1 hK1 => ?_)
  refine awp_plain 3 (by kernel_rfl) rfl (fun g0 hg0 => ?_)
  simp only [go_sem]
  refine hK1 _ ?_
  refine awp_seq_k (fun K2 hK2 => ?_)
  refine awp_ops (by kernel_rfl) rfl (fun g1 hg1 ops1 KR1 hops1 hKR1 => ?_)
  refine aops_eval 2 hops1 ?_
  simp only [go_sem]
  refine aops_pure hops1 rfl rfl rfl (prog06 false p hp _ _) (CoL.refl _) ?_
  refine aops_last 1 hops1 ?_
  simp only [go_sem]
  refine hKR1 _ ?_
  refine hK2 _ ?_
  refine awp_ret ?_
  refine ends_ev rfl ?_
  simp only [go_sem]
  exact Co.refl _
end Go.Proofs.T

