/- A part of the proof, under no conditions of its own: B13. -/
import Derived.Test.YtjhencaobpihnaaGreatDoorB12
namespace Go.Proofs.T
open Go Go.Ab Go.RowKit

/-! ## The methods of a type: the reference -/

def mthI (p : Prg) (x : Ty) (k : Nat) : List Sig := if instOf p x 1 = true then mthTo p x k else []
def isMth (p : Prg) (x : Ty) (k : Nat) (e : Dec) : Bool := decide (mthIdx p x e.sig.name = some k)
theorem isMth_eq (p : Prg) (x : Ty) (k : Nat) (h : k < p.decls.length) : isMth p x k p.decls[k] = (instOf p x 1 && mPick p x k p.decls[k]) := by
  unfold isMth mthIdx mPick
  cases instOf p x 1 with
  | false => simp
  | true =>
    cases hf : meFind p x.name p.decls[k].sig.name with
    | none => simp
    | some q =>
      by_cases hq : q = k
      · subst hq
        by_cases hv : (p.decls[q].vars.length : Int) = x.args.length
        · simp [Option.filter, h, hv]
        · simp [Option.filter, h, hv]
      · simp [Option.filter, hq]
theorem mthI_succ (p : Prg) (x : Ty) (k : Nat) (h : k < p.decls.length) : mthI p x (k + 1) = if isMth p x k p.decls[k] = true then mthI p x k ++ [mSig x p.decls[k]] else mthI p x k := by
  rw [isMth_eq p x k h]
  unfold mthI
  rw [mthTo_succ p x k h]
  cases instOf p x 1 <;> simp
theorem mthI_len (p : Prg) (x : Ty) (k : Nat) : (mthI p x k).length ≤ k := by
  unfold mthI
  split
  · exact mthTo_len p x k
  · simp
theorem isMth_at {p : Prg} {x : Ty} {k : Nat} (h : k < p.decls.length) (hm : isMth p x k p.decls[k] = true) : p.decls[k].kind = 3 ∧ p.decls[k].name = x.name := by
  rw [isMth_eq p x k h] at hm
  simp only [mPick, Bool.and_eq_true, decide_eq_true_eq] at hm
  have := meFind_at h hm.2.1
  exact ⟨this.1, this.2.1⟩

theorem refMethods_calls (p : Prg) (h : smPr p) (x : Ty) (hx : smTy x) (g d : Nat) :
    ACalls E 29 [encPr p, encTy x] [] g d (slSi (mthsOf p x)) [] := by
  have hxa := ((smTy_iff x).1 hx)
  have hlen := h.1.1
  refine acalls_of_awp (fn := Tryz.f29) (N := 52) Tryz.call29 Tryz.func29 rfl rfl (by simp) ?_
  simp only [go_sem]
  refine awp_seq_k (fun K1 hK1 => ?_)
  refine awp_plain 3 (by kernel_rfl) rfl (fun g0 hg0 => ?_)
  simp only [go_sem, List.cons_append, List.nil_append]
  refine hK1 _ ?_
  refine awp_seq_k (fun K2 hK2 => ?_)
  refine awp_plain 1 (by kernel_rfl) rfl (fun g1 hg1 => ?_)
  simp only [go_sem, List.nil_append]
  refine hK2 _ ?_
  refine awp_seq_k (fun K3 hK3 => ?_)
  refine awp_seq_k (fun K4 hK4 => ?_)
  refine awp_plain 1 (by kernel_rfl) rfl (fun g2 hg2 => ?_)
  simp only [go_sem, List.nil_append]
  refine hK4 _ ?_
  refine awp_block ?_
  refine awp_nil 5 42 7 rfl fun gn hgn => ?_
  have hn0 : gn ≠ g0 := fresh_g hgn 3 0 (by simp [go_sem])
  refine awp_loop (fun m s => ∃ k a i n, k ≤ p.decls.length ∧ m = p.decls.length - k ∧ n = (mthI p x k).length ∧ a ≠ g0 ∧
      Le { env := [(2, .ptr ⟨g0, 2, 0⟩ 0), (3, .ptr ⟨g0, 3, 0⟩ 0), (6, dN k), (5, .own ⟨a, i, 0⟩ n)],
           σ := [(⟨g0, 2, 0⟩, .box 30 (prC p)), (⟨g0, 3, 0⟩, .box 25 (tyC x)), (⟨a, i, 0⟩, .arr 42 7 ((mthI p x k).map encSi))] } s) p.decls.length ?_ ?_
  · have h0 : mthI p x 0 = [] := by simp [mthI, mthTo]
    refine ⟨0, gn, 0, 0, Nat.zero_le _, rfl, by rw [h0]; rfl, hn0, le_of ?_⟩
    simp only [go_sem, h0, List.map_nil, hn0, Ne.symm hn0, prC, exC, List.cons_append, List.nil_append, tyC]
    trivial
  · rintro m s ⟨k, a, i, n, hk, rfl, hn, ha0, hle⟩
    refine awp_keep hle ?_
    clear hle
    by_cases hlt : k < p.decls.length
    · have hsl := mthI_len p x k
      have hss := mthI_succ p x k hlt
      have hgm := getM (f := encDe) hlt
      obtain ⟨hsg, hvl⟩ := smSi_of h hlt
      refine awp_seq_k (fun K5 hK5 => ?_)
      refine awp_seq_k (fun K6 hK6 => ?_)
      refine awp_plain 5 (by kernel_rfl) rfl (fun g3 hg3 => ?_)
      simp only [go_sem, prC, exC, List.cons_append, List.nil_append, tyC, hlt, ha0]
      refine hK6 _ ?_
      refine awp_t rfl ?_
      refine awp_skip ?_
      refine hK5 _ ?_
      refine awp_seq_k (fun K7 hK7 => ?_)
      refine awp_block ?_
      refine awp_seq_k (fun K8 hK8 => ?_)
      refine awp_plain 7 (by kernel_rfl) rfl (fun g5 hg5 => ?_)
      simp only [go_sem, hgm, encDe, deC, siC, exC, List.cons_append, List.nil_append, ha0]
      refine hK8 _ ?_
      refine awp_seq_k (fun K9 hK9 => ?_)
      have hn5_a : g5 ≠ a := fresh_g hg5 i 0 (by simp [go_sem, Ne.symm ha0])
      have hn5_g0 : g5 ≠ g0 := fresh_g hg5 3 0 (by simp [go_sem])
      have hn5_g0 : g5 ≠ g0 := fresh_g hg5 2 0 (by simp [go_sem])
      cases hm : isMth p x k p.decls[k] with
      | true =>
        obtain ⟨hk3, hkn⟩ := isMth_at hlt hm
        rw [hm, if_pos rfl] at hss
        have hmi : mthIdx p x p.decls[k].sig.name = some k := of_decide_eq_true hm
        refine awp_ops (by kernel_rfl) rfl (fun g6 hg6 ops6 KR6 hops6 hKR6 => ?_)
        refine aops_eval 16 hops6 ?_
        simp only [go_sem, hk3, hkn, decide_true, List.nil_append, ha0, Ne.symm hn5_a, hn5_g0, Ne.symm hn5_g0]
        refine aops_pure hops6 rfl rfl rfl (refMethod_calls p x p.decls[k].sig.name hlen _ _) (CoL.refl _) ?_
        refine aops_last 3 hops6 ?_
        simp only [go_sem, hmi, optI, decide_true, List.nil_append]
        refine hKR6 _ ?_
        refine hK9 _ ?_
        refine awp_t rfl ?_
        refine awp_any 10 (by kernel_rfl) (by kernel_rfl) rfl (fun g7 hg7 ops7 KR7 hops7 hKR7 => ?_)
        refine qrun_eval 3 hops7 ?_
        simp only [go_sem, List.nil_append, Ne.symm hn5_a, Ne.symm hn5_g0]
        refine qrun_pure hops7 rfl rfl rfl (refCanonF_calls _ hsg _ _) (CoL.refl _) rfl ?_
        refine qrun_eval 4 hops7 ?_
        simp only [go_sem, List.nil_append, ha0, Ne.symm hn5_a, hn5_g0, Ne.symm hn5_g0]
        refine qrun_pure hops7 rfl rfl rfl (refSubstSigF_calls p.decls[k].vars x.args hvl hxa.2.2 _ (smCanon _ hsg) _ _) (CoL.refl _) rfl ?_
        refine qrun_last 1 hops7 ?_
        simp only [go_sem, siC, List.nil_append]
        refine aops_eval 0 hops7 ?_
        simp only [go_sem]
        refine aops_app hops7 rfl rfl rfl rfl rfl es38 sz42 by42 ze42 rfl (by decide) ?_
        simp only [go_sem, siC, Ne.symm ha0, hn5_a]
        first | refine ⟨⟨by omega, by omega⟩, ?_⟩ | skip
        refine aops_last 1 hops7 ?_
        simp only [go_sem, List.nil_append]
        refine hKR7 _ ?_
        refine hK7 _ ?_
        have hn7_g0 : g7 ≠ g0 := fresh_g hg7 3 0 (by simp [go_sem, hn5_g0])
        have hn7_g0 : g7 ≠ g0 := fresh_g hg7 2 0 (by simp [go_sem, hn5_g0])
        refine awp_plain 3 (by kernel_rfl) rfl (fun g4 hg4 => ?_)
        simp only [go_sem, prC, exC, List.cons_append, List.nil_append, tyC]
        try simp (disch := omega) only [wrapN]
        refine ⟨_, ?_, k + 1, g7, 50, n + 1, hlt, rfl, by rw [hss, List.length_append, hn]; rfl, hn7_g0, le_of ?_⟩
        · omega
        simp only [go_sem, hss, List.map_append, List.map_cons, List.map_nil, hn5_g0, hn7_g0, Ne.symm hn7_g0]
        exact ⟨⟨by omega, hn.symm⟩, rfl⟩
      | false =>
        rw [hm, if_neg (by simp)] at hss
        have hmi : ¬ mthIdx p x p.decls[k].sig.name = some k := of_decide_eq_false hm
        by_cases hk3 : p.decls[k].kind = 3
        · by_cases hkn : p.decls[k].name = x.name
          · have ho : ¬ optI (mthIdx p x p.decls[k].sig.name) = (k : Int) := by
              cases hq : mthIdx p x p.decls[k].sig.name with
              | none => simp [optI]
              | some q => simp [optI]; rw [hq] at hmi; simp at hmi; omega
            refine awp_ops (by kernel_rfl) rfl (fun g6 hg6 ops6 KR6 hops6 hKR6 => ?_)
            refine aops_eval 16 hops6 ?_
            simp only [go_sem, hk3, hkn, decide_true, List.nil_append, ha0, Ne.symm hn5_a, hn5_g0, Ne.symm hn5_g0]
            refine aops_pure hops6 rfl rfl rfl (refMethod_calls p x p.decls[k].sig.name hlen _ _) (CoL.refl _) ?_
            refine aops_last 3 hops6 ?_
            simp only [go_sem, ho, decide_false, List.nil_append]
            refine hKR6 _ ?_
            refine hK9 _ ?_
            refine awp_f rfl ?_
            refine awp_skip ?_
            refine hK7 _ ?_
            refine awp_plain 3 (by kernel_rfl) rfl (fun g4 hg4 => ?_)
            simp only [go_sem, prC, exC, List.cons_append, List.nil_append, tyC]
            try simp (disch := omega) only [wrapN]
            refine ⟨_, ?_, k + 1, a, i, n, hlt, rfl, by rw [hss]; exact hn, ha0, le_of ?_⟩
            · omega
            simp only [go_sem, hss, ha0, Ne.symm ha0, hn5_a, hn5_g0]
            trivial
          · refine awp_plain 20 (by kernel_rfl) rfl (fun g6 hg6 => ?_)
            simp only [go_sem, hk3, hkn, decide_true, decide_false, List.nil_append, ha0, Ne.symm hn5_a, hn5_g0, Ne.symm hn5_g0]
            refine hK9 _ ?_
            refine awp_f rfl ?_
            refine awp_skip ?_
            refine hK7 _ ?_
            refine awp_plain 3 (by kernel_rfl) rfl (fun g4 hg4 => ?_)
            simp only [go_sem, prC, exC, List.cons_append, List.nil_append, tyC]
            try simp (disch := omega) only [wrapN]
            refine ⟨_, ?_, k + 1, a, i, n, hlt, rfl, by rw [hss]; exact hn, ha0, le_of ?_⟩
            · omega
            simp only [go_sem, hss, ha0, Ne.symm ha0, hn5_a, hn5_g0]
            trivial
        · refine awp_plain 20 (by kernel_rfl) rfl (fun g6 hg6 => ?_)
          simp only [go_sem, hk3, decide_false, List.nil_append, Ne.symm hn5_a, Ne.symm hn5_g0]
          refine hK9 _ ?_
          refine awp_f rfl ?_
          refine awp_skip ?_
          refine hK7 _ ?_
          refine awp_plain 3 (by kernel_rfl) rfl (fun g4 hg4 => ?_)
          simp only [go_sem, prC, exC, List.cons_append, List.nil_append, tyC]
          try simp (disch := omega) only [wrapN]
          refine ⟨_, ?_, k + 1, a, i, n, hlt, rfl, by rw [hss]; exact hn, ha0, le_of ?_⟩
          · omega
          simp only [go_sem, hss, ha0, Ne.symm ha0, hn5_a, hn5_g0]
          trivial
    · refine awp_seq_k (fun K10 hK10 => ?_)
      refine awp_seq_k (fun K11 hK11 => ?_)
      refine awp_plain 5 (by kernel_rfl) rfl (fun g3 hg3 => ?_)
      simp only [go_sem, hlt, prC, exC, List.cons_append, List.nil_append, tyC, ha0]
      refine hK11 _ ?_
      refine awp_f rfl ?_
      refine awp_exit ?_
      refine hK3 _ ?_
      refine awp_seq_k (fun K12 hK12 => ?_)
      have : k = p.decls.length := by omega
      subst this
      refine awp_plain 2 (by kernel_rfl) rfl (fun g8 hg8 => ?_)
      simp only [go_sem, List.nil_append]
      refine hK12 _ ?_
      refine awp_ret ?_
      refine ret_frz ⟨a, i, 0⟩ ?_
      simp only [go_sem, Ne.symm ha0]
      refine ends_ev rfl ?_
      simp only [go_sem]
      exact Co.of_eq (by simp [mthsOf, mthI])
end Go.Proofs.T

