/- A part of the proof, under no conditions of its own: B10. -/
import Derived.Test.YtjhencaobpihnaaGreatDoorB9
namespace Go.Proofs.T
open Go Go.Ab Go.RowKit

theorem seen_succ (l : List Sig) (j : Nat) (n : Str) (h : j < l.length) : seen l (j + 1) n = (seen l j n || decide (l[j].name = n)) := by
  unfold seen
  rw [List.take_add_one, List.getElem?_eq_getElem h, List.any_append]
  simp only [Option.toList_some, List.any_cons, List.any_nil, Bool.or_false]
theorem seen_zero (l : List Sig) (n : Str) : seen l 0 n = false := by simp [seen]

theorem refSpecs_calls (p : Prg) (h : smPr p) (x : Ty) (hx : smTy x) (j : Nat) (hj : tyFind p x.name = some j) (g d : Nat) :
    ACalls E 28 [encPr p, encTy x] [] g d (slSi (specsOf ((tyDe p x.name).getD zeroDe) x.args)) [] := by
  have hs := smDe_get h x.name
  obtain ⟨hjl, hd⟩ := tyFind_some hj
  rw [hd] at hs ⊢
  simp only [Option.getD_some] at hs ⊢
  have hxa := ((smTy_iff x).1 hx)
  have hgm := getM (f := encDe) hjl
  generalize p.decls[j] = e at hs hgm
  obtain ⟨-, ⟨f1, f2⟩, -, ⟨f3, f4⟩, -⟩ := hs
  refine acalls_of_awp (fn := Tryz.f28) (N := 60) Tryz.call28 Tryz.func28 rfl rfl (by simp) ?_
  simp only [go_sem]
  refine awp_seq_k (fun K1 hK1 => ?_)
  refine awp_plain 3 (by kernel_rfl) rfl (fun g0 hg0 => ?_)
  simp only [go_sem, List.cons_append, List.nil_append]
  refine hK1 _ ?_
  refine awp_seq_k (fun K2 hK2 => ?_)
  refine awp_any 9 (by kernel_rfl) (by kernel_rfl) rfl (fun g1 hg1 ops1 KR1 hops1 hKR1 => ?_)
  refine qrun_eval 5 hops1 ?_
  simp only [go_sem, List.nil_append]
  refine qrun_pure hops1 rfl rfl rfl (find11_calls p x.name h.1.1 _ _) (CoL.refl _) rfl ?_
  refine qrun_last 3 hops1 ?_
  simp only [go_sem, hj, optI, hgm, encDe, deC, siC, exC, List.cons_append, List.nil_append]
  refine aops_last 1 hops1 ?_
  simp only [go_sem, List.cons_append, List.nil_append]
  refine hKR1 _ ?_
  refine hK2 _ ?_
  refine awp_seq_k (fun K3 hK3 => ?_)
  refine awp_plain 1 (by kernel_rfl) rfl (fun g2 hg2 => ?_)
  simp only [go_sem, List.nil_append]
  refine hK3 _ ?_
  refine awp_seq_k (fun K4 hK4 => ?_)
  refine awp_seq_k (fun K5 hK5 => ?_)
  refine awp_plain 1 (by kernel_rfl) rfl (fun g3 hg3 => ?_)
  simp only [go_sem, List.nil_append]
  refine hK5 _ ?_
  refine awp_block ?_
  refine awp_nil 6 42 7 rfl fun gn hgn => ?_
  have hn0 : gn ≠ g0 := fresh_g hgn 3 0 (by simp [go_sem])
  have hn1 : gn ≠ g1 := fresh_g hgn 5 0 (by simp [go_sem])
  refine awp_loop (fun m s => ∃ k a i n, k ≤ e.sigs.length ∧ m = e.sigs.length - k ∧ n = (specsTo e x.args k).length ∧ a ≠ g0 ∧ a ≠ g1 ∧
      Le { env := [(3, .ptr ⟨g0, 3, 0⟩ 0), (5, .ptr ⟨g1, 5, 0⟩ 0), (7, dN k), (6, .own ⟨a, i, 0⟩ n)],
           σ := [(⟨g0, 3, 0⟩, .box 25 (tyC x)), (⟨g1, 5, 0⟩, .box 58 (deC e)), (⟨a, i, 0⟩, .arr 42 7 ((specsTo e x.args k).map encSi))] } s) e.sigs.length ?_ ?_
  · refine ⟨0, gn, 0, 0, Nat.zero_le _, rfl, rfl, hn0, hn1, le_of ?_⟩
    simp only [go_sem, specsTo, List.map_nil, deC, siC, exC, List.cons_append, List.nil_append, tyC, deC, siC, exC, List.cons_append, List.nil_append, tyC, hn0, hn1, Ne.symm hn0, Ne.symm hn1]
    trivial
  · rintro m s ⟨k, a, i, n, hk, rfl, hn, ha0, ha1, hle⟩
    refine awp_keep hle ?_
    clear hle
    by_cases hlt : k < e.sigs.length
    · have hsl := specsTo_len e x.args k
      have hss := specsTo_succ e x.args k hlt
      refine awp_seq_k (fun K6 hK6 => ?_)
      refine awp_seq_k (fun K7 hK7 => ?_)
      refine awp_plain 5 (by kernel_rfl) rfl (fun g4 hg4 => ?_)
      simp only [go_sem, deC, siC, exC, List.cons_append, List.nil_append, tyC, deC, siC, exC, List.cons_append, List.nil_append, tyC, deC, siC, exC, List.cons_append, List.nil_append, tyC, hlt, ha1]
      refine hK7 _ ?_
      refine awp_t rfl ?_
      refine awp_skip ?_
      refine hK6 _ ?_
      refine awp_seq_k (fun K8 hK8 => ?_)
      refine awp_block ?_
      refine awp_seq_k (fun K9 hK9 => ?_)
      refine awp_plain 1 (by kernel_rfl) rfl (fun g6 hg6 => ?_)
      simp only [go_sem, List.nil_append, List.nil_append, List.nil_append]
      refine hK9 _ ?_
      refine awp_seq_k (fun K10 hK10 => ?_)
      refine awp_seq_k (fun K11 hK11 => ?_)
      refine awp_plain 1 (by kernel_rfl) rfl (fun g7 hg7 => ?_)
      simp only [go_sem, List.nil_append, List.nil_append, List.nil_append]
      refine hK11 _ ?_
      refine awp_block ?_
      refine awp_loop (fun m s => ∃ j, j ≤ k ∧ m = k - j ∧
          Le { env := [(3, .ptr ⟨g0, 3, 0⟩ 0), (5, .ptr ⟨g1, 5, 0⟩ 0), (7, dN k), (6, .own ⟨a, i, 0⟩ n), (9, dN j), (8, dB (!seen e.sigs j e.sigs[k].name))],
               σ := [(⟨g0, 3, 0⟩, .box 25 (tyC x)), (⟨g1, 5, 0⟩, .box 58 (deC e)), (⟨a, i, 0⟩, .arr 42 7 ((specsTo e x.args k).map encSi))] } s) k ?_ ?_
      · refine ⟨0, Nat.zero_le _, rfl, le_of ?_⟩
        simp only [go_sem, seen_zero, Bool.not_false, deC, siC, exC, List.cons_append, List.nil_append, tyC, deC, siC, exC, List.cons_append, List.nil_append, tyC, deC, siC, exC, List.cons_append, List.nil_append, tyC, ha0, ha1, Ne.symm ha0, Ne.symm ha1]
        trivial
      · rintro m s ⟨j, hj, rfl, hle⟩
        refine awp_keep hle ?_
        clear hle
        by_cases hjk : j < k
        · have hjs : j < e.sigs.length := by omega
          have hsn := seen_succ e.sigs j e.sigs[k].name hjs
          refine awp_seq_k (fun K12 hK12 => ?_)
          refine awp_seq_k (fun K13 hK13 => ?_)
          refine awp_plain 3 (by kernel_rfl) rfl (fun g8 hg8 => ?_)
          simp only [go_sem, deC, siC, exC, List.cons_append, List.nil_append, tyC, deC, siC, exC, List.cons_append, List.nil_append, tyC, deC, siC, exC, List.cons_append, List.nil_append, tyC, deC, siC, exC, List.cons_append, List.nil_append, tyC, hjk]
          refine hK13 _ ?_
          refine awp_t rfl ?_
          refine awp_skip ?_
          refine hK12 _ ?_
          refine awp_seq_k (fun K14 hK14 => ?_)
          refine awp_block ?_
          refine awp_seq_k (fun K15 hK15 => ?_)
          by_cases hq : e.sigs[j].name = e.sigs[k].name
          · rw [decide_eq_true hq, Bool.or_true] at hsn
            refine awp_anyq (by kernel_rfl) rfl (fun g10 hg10 ops10 KR10 hops10 hKR10 => ?_)
            refine qrun_last 13 hops10 ?_
            simp only [go_sem, getM hlt, getM hjs, hq, decide_true, siC, List.nil_append, siC, List.nil_append, siC, List.nil_append, siC, List.nil_append, ha1]
            refine hKR10 _ ?_
            refine hK15 _ ?_
            refine awp_t rfl ?_
            refine awp_plain 1 (by kernel_rfl) rfl (fun g11 hg11 => ?_)
            simp only [go_sem, List.nil_append, List.nil_append, List.nil_append, List.nil_append]
            refine hK14 _ ?_
            refine awp_plain 3 (by kernel_rfl) rfl (fun g9 hg9 => ?_)
            simp only [go_sem, deC, siC, exC, List.cons_append, List.nil_append, tyC, deC, siC, exC, List.cons_append, List.nil_append, tyC, deC, siC, exC, List.cons_append, List.nil_append, tyC, deC, siC, exC, List.cons_append, List.nil_append, tyC]
            try simp (disch := omega) only [wrapN]
            refine ⟨_, ?_, j + 1, hjk, rfl, le_of ?_⟩
            · omega
            simp only [go_sem, hsn, Bool.not_true, ha0, ha1, Ne.symm ha0, Ne.symm ha1]
            omega
          · rw [decide_eq_false hq, Bool.or_false] at hsn
            refine awp_anyq (by kernel_rfl) rfl (fun g10 hg10 ops10 KR10 hops10 hKR10 => ?_)
            refine qrun_last 13 hops10 ?_
            simp only [go_sem, getM hlt, getM hjs, hq, decide_false, siC, List.nil_append, siC, List.nil_append, siC, List.nil_append, siC, List.nil_append, ha1]
            refine hKR10 _ ?_
            refine hK15 _ ?_
            refine awp_f rfl ?_
            refine awp_skip ?_
            refine hK14 _ ?_
            refine awp_plain 3 (by kernel_rfl) rfl (fun g9 hg9 => ?_)
            simp only [go_sem, deC, siC, exC, List.cons_append, List.nil_append, tyC, deC, siC, exC, List.cons_append, List.nil_append, tyC, deC, siC, exC, List.cons_append, List.nil_append, tyC, deC, siC, exC, List.cons_append, List.nil_append, tyC]
            try simp (disch := omega) only [wrapN]
            refine ⟨_, ?_, j + 1, hjk, rfl, le_of ?_⟩
            · omega
            simp only [go_sem, hsn, ha0, ha1, Ne.symm ha0, Ne.symm ha1]
            omega
        · refine awp_seq_k (fun K16 hK16 => ?_)
          refine awp_seq_k (fun K17 hK17 => ?_)
          refine awp_plain 3 (by kernel_rfl) rfl (fun g8 hg8 => ?_)
          simp only [go_sem, deC, siC, exC, List.cons_append, List.nil_append, tyC, deC, siC, exC, List.cons_append, List.nil_append, tyC, deC, siC, exC, List.cons_append, List.nil_append, tyC, deC, siC, exC, List.cons_append, List.nil_append, tyC, hjk]
          refine hK17 _ ?_
          refine awp_f rfl ?_
          refine awp_exit ?_
          refine hK10 _ ?_
          refine awp_seq_k (fun K18 hK18 => ?_)
          have : j = k := by omega
          subst this
          refine awp_plain 1 (by kernel_rfl) rfl (fun g12 hg12 => ?_)
          simp only [go_sem, List.nil_append, List.nil_append, List.nil_append, List.nil_append]
          refine hK18 _ ?_
          cases hse : seen e.sigs j e.sigs[j].name with
          | true =>
            rw [hse, if_pos rfl] at hss
            refine awp_f rfl ?_
            refine awp_skip ?_
            refine hK8 _ ?_
            refine awp_plain 3 (by kernel_rfl) rfl (fun g5 hg5 => ?_)
            simp only [go_sem, deC, siC, exC, List.cons_append, List.nil_append, tyC, deC, siC, exC, List.cons_append, List.nil_append, tyC, deC, siC, exC, List.cons_append, List.nil_append, tyC, deC, siC, exC, List.cons_append, List.nil_append, tyC, Bool.not_true]
            try simp (disch := omega) only [wrapN]
            refine ⟨_, ?_, j + 1, a, i, n, hlt, rfl, by rw [hss]; exact hn, ha0, ha1, le_of ?_⟩
            · omega
            simp only [go_sem, hss, ha0, ha1, Ne.symm ha0, Ne.symm ha1]
            trivial
          | false =>
            rw [hse, if_neg (by simp)] at hss
            refine awp_t rfl ?_
            refine awp_any 14 (by kernel_rfl) (by kernel_rfl) rfl (fun g13 hg13 ops13 KR13 hops13 hKR13 => ?_)
            refine qrun_eval 6 hops13 ?_
            simp only [go_sem, getM hlt, siC, List.nil_append, siC, List.nil_append, siC, List.nil_append, siC, List.nil_append, ha1, Bool.not_false]
            refine qrun_pure hops13 rfl rfl rfl (refCanonF_calls _ (f4 _ (List.getElem_mem hlt)) _ _) (CoL.refl _) rfl ?_
            refine qrun_eval 2 hops13 ?_
            simp only [go_sem, List.nil_append, List.nil_append, List.nil_append, List.nil_append, ha1]
            refine qrun_pure hops13 rfl rfl rfl (refNames_calls e.formals (by omega) _ _) (CoL.refl _) rfl ?_
            refine qrun_eval 2 hops13 ?_
            simp only [go_sem, List.nil_append, List.nil_append, List.nil_append, List.nil_append, ha0]
            refine qrun_pure hops13 rfl rfl rfl (refSubstSigF_calls (e.formals.map (·.name)) x.args (by simp; omega) hxa.2.2 _ (smCanon _ (f4 _ (List.getElem_mem hlt))) _ _) (CoL.refl _) rfl ?_
            refine qrun_last 1 hops13 ?_
            simp only [go_sem, siC, List.nil_append, siC, List.nil_append, siC, List.nil_append, siC, List.nil_append]
            refine aops_eval 0 hops13 ?_
            simp only [go_sem]
            refine aops_app hops13 rfl rfl rfl rfl rfl es38 sz42 by42 ze42 rfl (by decide) ?_
            simp only [go_sem, siC, siC, siC, siC, Ne.symm ha0, Ne.symm ha1]
            first | refine ⟨⟨by omega, by omega⟩, ?_⟩ | skip
            refine aops_last 1 hops13 ?_
            simp only [go_sem, List.nil_append, List.nil_append, List.nil_append, List.nil_append]
            refine hKR13 _ ?_
            refine hK8 _ ?_
            have hn13_g0 : g13 ≠ g0 := fresh_g hg13 3 0 (by simp [go_sem])
            have hn13_g1 : g13 ≠ g1 := fresh_g hg13 5 0 (by simp [go_sem])
            refine awp_plain 3 (by kernel_rfl) rfl (fun g5 hg5 => ?_)
            simp only [go_sem, deC, siC, exC, List.cons_append, List.nil_append, tyC, deC, siC, exC, List.cons_append, List.nil_append, tyC, deC, siC, exC, List.cons_append, List.nil_append, tyC, deC, siC, exC, List.cons_append, List.nil_append, tyC]
            try simp (disch := omega) only [wrapN]
            refine ⟨_, ?_, j + 1, g13, 58, n + 1, hlt, rfl, by rw [hss, List.length_append, hn]; rfl, hn13_g0, hn13_g1, le_of ?_⟩
            · omega
            simp only [go_sem, hss, List.map_append, List.map_cons, List.map_nil, hn13_g0, Ne.symm hn13_g0, hn13_g1, Ne.symm hn13_g1]
            exact ⟨⟨by omega, hn.symm⟩, rfl⟩
    · refine awp_seq_k (fun K19 hK19 => ?_)
      refine awp_seq_k (fun K20 hK20 => ?_)
      refine awp_plain 5 (by kernel_rfl) rfl (fun g4 hg4 => ?_)
      simp only [go_sem, hlt, deC, siC, exC, List.cons_append, List.nil_append, tyC, deC, siC, exC, List.cons_append, List.nil_append, tyC, deC, siC, exC, List.cons_append, List.nil_append, tyC, ha1]
      refine hK20 _ ?_
      refine awp_f rfl ?_
      refine awp_exit ?_
      refine hK4 _ ?_
      refine awp_seq_k (fun K21 hK21 => ?_)
      have : k = e.sigs.length := by omega
      subst this
      refine awp_plain 2 (by kernel_rfl) rfl (fun g14 hg14 => ?_)
      simp only [go_sem, List.nil_append, List.nil_append, List.nil_append]
      refine hK21 _ ?_
      refine awp_ret ?_
      refine ret_frz ⟨a, i, 0⟩ ?_
      simp only [go_sem, Ne.symm ha0, Ne.symm ha1]
      refine ends_ev rfl ?_
      simp only [go_sem]
      exact Co.of_eq (by simp [specsOf])
end Go.Proofs.T

