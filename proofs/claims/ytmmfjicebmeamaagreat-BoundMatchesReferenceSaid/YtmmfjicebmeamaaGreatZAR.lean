/- A part of the proof, under no conditions of its own: ZAR. -/
import Derived.Test.YtmmfjicebmeamaaGreatZAQ
import Derived.Test.YtmmfjicebmeamaaGreatZAP
import Derived.Test.YtmmfjicebmeamaaGreatZAJ
import Derived.Shelf.SlSortCmp.NoneTotal
namespace Go.Proofs.T
open Go Go.Ab Go.RowKit

/-! ## The bound of the reference -/

/-- The bound for a height. -/
noncomputable def ofV2 (p : Prg) (nm tg h : Nat) : Int :=
  addS (typS ((p.decls.foldl dcF 0 : Nat) : Int) (p.decls.foldl foF 0) h) (mulS (mulS (typS ((p.decls.foldl dcF 0 : Nat) : Int) (p.decls.foldl foF 0) h) nm) (powS (addS (typS ((p.decls.foldl dcF 0 : Nat) : Int) (p.decls.foldl foF 0) h) 1) tg))
theorem inN {n : Nat} (h : n ≤ 1000000) : inR (n : Int) := by unfold inR; omega
theorem exD_le (d : Dec) : (exD d).length ≤ (nodesEx d.body).length := by unfold exD; split <;> simp
theorem nodes_len (e : Ex) : (nodesEx e).length ≤ wN (exTys e) := by
  refine Nat.le_trans ?_ (wN_len _)
  unfold exTys
  generalize nodesEx e = l
  induction l with
  | nil => simp
  | cons x r ih =>
    rw [List.flatMap_cons, List.length_append, List.length_cons, List.length_cons]
    omega
theorem exB_len (l : List Dec) : (exB l).length ≤ (l.map (fun d => wN (deTys d))).sum := by
  induction l with
  | nil => simp [exB]
  | cons d l ih =>
    have h1 := exD_le d
    have h2 := nodes_len d.body
    have h3 : wN (exTys d.body) ≤ wN (deTys d) := by
      unfold deTys
      rw [wN_app]
      omega
    have e : exB (d :: l) = exD d ++ exB l := rfl
    rw [e, List.length_append, List.map_cons, List.sum_cons]
    omega
theorem all_len (p : Prg) : (nodesEx p.main ++ exB p.decls).length ≤ wN (prTys p) := by
  have h1 := exB_len p.decls
  have h2 := nodes_len p.main
  unfold prTys
  rw [wN_app, wN_flat, List.length_append]
  omega
theorem exB_le (l : List Dec) (k : Nat) : (exB (l.take k)).length ≤ (exB l).length := flat_le exD l k
theorem nodes_sm : ∀ e : Ex, smEx e → ∀ x ∈ nodesEx e, smEx x := by
  refine Ex.ind fun e ih he x hx => ?_
  rw [nodesEx_eq] at hx
  rcases List.mem_cons.1 hx with rfl | hx
  · exact he
  · rw [nodesExs_flat] at hx
    obtain ⟨y, hy, hx⟩ := List.mem_flatMap.1 hx
    exact ih y hy (((smEx_iff e).1 he).2.2.2.2 y hy) x hx
theorem all_sm {p : Prg} (hp : smPr p) : ∀ x ∈ nodesEx p.main ++ exB p.decls, smEx x := by
  intro x hx
  rcases List.mem_append.1 hx with hx | hx
  · exact nodes_sm _ hp.2 x hx
  · obtain ⟨d, hd, hx⟩ := List.mem_flatMap.1 hx
    unfold exD at hx
    split at hx
    · exact nodes_sm _ (hp.1.2 d hd).2.2.2.2.2.2.2 x hx
    · cases hx

def alE (p : Prg) (k : Nat) : List Ex := nodesEx p.main ++ exB (p.decls.take k)
theorem alE_succ (p : Prg) (k : Nat) (h : k < p.decls.length) : alE p (k + 1) = alE p k ++ exD p.decls[k] := by unfold alE; rw [exB_take _ _ h, List.append_assoc]
theorem alE_all (p : Prg) : alE p p.decls.length = nodesEx p.main ++ exB p.decls := by unfold alE; rw [List.take_length]
theorem alE_le (p : Prg) (k : Nat) : (alE p k).length ≤ (alE p p.decls.length).length := by
  have := exB_le p.decls k
  rw [alE_all]
  unfold alE
  simp only [List.length_append]
  omega
theorem alE_zero (p : Prg) : alE p 0 = nodesEx p.main := by unfold alE; simp [exB]

set_option maxRecDepth 100000 in
set_option maxHeartbeats 2000000 in
theorem of22_calls (p : Prg) (hp : smPr p) (hw : wN (prTys p) ≤ 600) (g q : Nat) :
    ACalls E 11 [encPr p] [] g q (dI (ofV2 p ((alE p p.decls.length).foldl nmR []).length ((alE p p.decls.length).foldl tgF 0) (hgt p ((tyKeys p).length + (meKeys p).length)))) [] := by
  have hal := all_len p
  have hLsm := all_sm hp
  have hp' := hp
  obtain ⟨⟨k1, k2⟩, k3⟩ := hp
  have hty := tyKeys_len p
  have hme := meKeys_len p
  have hhg := hgt_le (n := (tyKeys p).length + (meKeys p).length) hw (by omega)
  have hdc := dcF_le p.decls 0
  have hDC : inR ((p.decls.foldl dcF 0 : Nat) : Int) := inN (by omega)
  have hFO : p.decls.foldl foF 0 ≤ 1000000 := foF_le _ _ _ (Nat.zero_le _) fun d hd => Nat.le_trans (k2 d hd).2.1.1 (by omega)
  have hTG : (nodesEx p.main ++ exB p.decls).foldl tgF 0 ≤ 1000000 := tgF_le _ _ _ (Nat.zero_le _) fun e he => ((smEx_iff e).1 (hLsm e he)).2.2.1.1
  have hC := typS_in hDC (p.decls.foldl foF 0) (hgt p ((tyKeys p).length + (meKeys p).length))
  have hal0 := alE_le p 0
  rw [← alE_all] at hal hLsm hTG
  rw [alE_zero] at hal0
  refine acalls_of_awp (fn := Tryz.f11) (N := 91) Tryz.call11 Tryz.func11 rfl rfl (by simp) ?_
  simp only [go_sem]
  refine awp_seq_k (fun K1 hK1 => ?_)
  refine awp_plain 2 (by kernel_rfl) rfl (fun g0 hg0 => ?_)
  simp only [go_sem]
  refine hK1 _ ?_
  refine awp_seq_k (fun K2 hK2 => ?_)
  refine awp_plain 1 (by kernel_rfl) rfl (fun g1 hg1 => ?_)
  simp only [go_sem]
  refine hK2 _ ?_
  refine awp_seq_k (fun K3 hK3 => ?_)
  refine awp_plain 1 (by kernel_rfl) rfl (fun g2 hg2 => ?_)
  simp only [go_sem]
  refine hK3 _ ?_
  refine awp_seq_k (fun K4 hK4 => ?_)
  refine awp_plain 1 (by kernel_rfl) rfl (fun g3 hg3 => ?_)
  simp only [go_sem]
  refine hK4 _ ?_
  refine awp_seq_k (fun K5 hK5 => ?_)
  refine awp_plain 1 (by kernel_rfl) rfl (fun g4 hg4 => ?_)
  simp only [go_sem]
  refine hK5 _ ?_
  refine awp_seq_k (fun K6 hK6 => ?_)
  refine awp_nil 6 9 1 rfl fun gn hgn => ?_
  have hn : gn ≠ g0 := fresh_g hgn 1 0 (by simp [go_sem])
  refine awp_frz ⟨gn, 0, 0⟩ ?_
  simp only [go_sem, Ne.symm hn]
  by_cases h0 : 0 < p.main.kids.length
  · refine awp_ops (by kernel_rfl) rfl (fun g5 hg5 ops5 KR5 hops5 hKR5 => ?_)
    refine aops_eval 2 hops5 ?_
    simp only [go_sem]
    refine aops_pure hops5 rfl rfl rfl (list05o_calls p.main (smEx.ok _ k3) (by omega) h0 _ _) (CoL.refl _) ?_
    refine aops_last 1 hops5 ?_
    simp only [go_sem]
    refine hKR5 _ ?_
    refine hK6 _ ?_
    refine awp_seq_k (fun K7 hK7 => ?_)
    refine awp_seq_k (fun K8 hK8 => ?_)
    have hn5_g0 : g5 ≠ g0 := fresh_g hg5 1 0 (by simp [go_sem])
    refine awp_plain 1 (by kernel_rfl) rfl (fun g6 hg6 => ?_)
    simp only [go_sem]
    refine hK8 _ ?_
    refine awp_block ?_
    refine awp_loop (fun m s => ∃ k, k ≤ p.decls.length ∧ m = p.decls.length - k ∧
        ((alE p k = [p.main] ∧ Le { env := [(1, .ptr ⟨g0, 1, 0⟩ 0), (3, dN ((p.decls.take k).foldl dcF 0)), (4, dN ((p.decls.take k).foldl foF 0)), (5, dI 0), (6, slS []), (7, .sl true [encEx p.main]), (8, dN k)], σ := [(⟨g0, 1, 0⟩, .box 30 (prC p))] } s) ∨
        ∃ a i j, a ≠ g0 ∧ Le { env := [(1, .ptr ⟨g0, 1, 0⟩ 0), (3, dN ((p.decls.take k).foldl dcF 0)), (4, dN ((p.decls.take k).foldl foF 0)), (5, dI 0), (6, slS []), (7, .own ⟨a, i, j⟩ (alE p k).length), (8, dN k)], σ := [(⟨g0, 1, 0⟩, .box 30 (prC p)), (⟨a, i, j⟩, .arr 28 8 ((alE p k).map encEx))] } s)) p.decls.length ?_ ?_
    · refine ⟨0, Nat.zero_le _, rfl, .inr ⟨g5, 13, 1, hn5_g0, le_of ?_⟩⟩
      simp only [go_sem, List.foldl_nil, alE_zero, List.take_zero, hn5_g0, Ne.symm hn5_g0]
      all_goals first | exact rfl | exact ⟨rfl, rfl⟩ | trivial
    · rintro m s ⟨k, hk, rfl, ⟨hone, hle⟩ | ⟨a, i, j, ha, hle⟩⟩
      · refine awp_keep hle ?_
        clear hle
        refine awp_seq_k (fun K9 hK9 => ?_)
        refine awp_seq_k (fun K10 hK10 => ?_)
        by_cases hlt : k < p.decls.length
        · have hgm := getM (f := encDe) hlt
          have hde := k2 _ (List.getElem_mem hlt)
          have n1 := fold_take dcF 0 hlt
          have n2 := fold_take foF 0 hlt
          have n3 := alE_succ p k hlt
          have hxk := alE_le p (k + 1)
          have hdl := dcF_le (p.decls.take k) 0
          rw [List.length_take_of_le hk] at hdl
          refine awp_plain 5 (by kernel_rfl) rfl (fun g7 hg7 => ?_)
          simp only [go_sem, hlt]
          refine hK10 _ ?_
          refine awp_t rfl ?_
          refine awp_skip ?_
          refine hK9 _ ?_
          refine awp_seq_k (fun K11 hK11 => ?_)
          refine awp_block ?_
          refine awp_seq_k (fun K12 hK12 => ?_)
          generalize p.decls[k] = D at *
          generalize (p.decls.take k).foldl dcF 0 = DC at *
          generalize (p.decls.take k).foldl foF 0 = FO at *
          by_cases h3 : D.kind = 3
          · have e1 : dcF DC D = DC := by unfold dcF; rw [if_pos h3]
            have e2 : foF FO D = FO := by unfold foF; rw [if_pos h3]
            have e3 : exD D = nodesEx D.body := by unfold exD; rw [if_pos h3]
            rw [e1] at n1
            rw [e2] at n2
            rw [e3] at n3
            rw [n3, List.length_append] at hxk
            have hnp := nodesEx_pos D.body
            refine awp_plain 7 (by kernel_rfl) rfl (fun g9 hg9 => ?_)
            simp only [go_sem, hgm, h3, decide_true]
            refine hK12 _ ?_
            refine awp_t rfl ?_
            refine awp_ops (by kernel_rfl) rfl (fun g10 hg10 ops10 KR10 hops10 hKR10 => ?_)
            refine aops_eval 7 hops10 ?_
            simp only [go_sem, hgm]
            refine aops_pure hops10 rfl rfl rfl (list05_calls D.body (smEx.ok _ hde.2.2.2.2.2.2.2) (by omega) _ _) (CoL.refl _) ?_
            refine aops_appx hops10 rfl rfl rfl rfl rfl es26 sz28 by28 ze28 rfl (by decide) ?_
            simp only [go_sem, okRowsEx, okRowsEx]
            refine ⟨hnp, ⟨by omega, by omega⟩, ?_⟩
            refine aops_last 1 hops10 ?_
            simp only [go_sem]
            refine hKR10 _ ?_
            refine hK11 _ ?_
            have hn10_g0 : g10 ≠ g0 := fresh_g hg10 1 0 (by simp [go_sem])
            skip
            refine awp_plain 3 (by kernel_rfl) rfl (fun g8 hg8 => ?_)
            simp only [go_sem]
            try simp (disch := omega) only [wrapN]
            refine ⟨_, ?_, k + 1, hlt, rfl, .inr ⟨g10, 36, 0, hn10_g0, le_of ?_⟩⟩
            · omega
            simp only [go_sem, n1, n2, n3, hone, List.length_cons, List.map_cons, List.cons_append, List.nil_append, hn10_g0, Ne.symm hn10_g0]
            all_goals first | exact rfl | exact ⟨rfl, rfl⟩ | trivial | omega
          · have e1 : dcF DC D = DC + 1 := by unfold dcF; rw [if_neg h3]
            have e2 : foF FO D = max FO D.formals.length := by unfold foF; rw [if_neg h3]
            have e3 : exD D = [] := by unfold exD; rw [if_neg h3]
            rw [e1] at n1
            rw [e2] at n2
            rw [e3, List.append_nil] at n3
            refine awp_plain 7 (by kernel_rfl) rfl (fun g9 hg9 => ?_)
            simp only [go_sem, hgm, h3, decide_false]
            refine hK12 _ ?_
            refine awp_f rfl ?_
            refine awp_seq_k (fun K13 hK13 => ?_)
            refine awp_plain 3 (by kernel_rfl) rfl (fun g11 hg11 => ?_)
            simp only [go_sem]
            try simp (disch := omega) only [wrapN]
            refine hK13 _ ?_
            refine awp_plain 10 (by kernel_rfl) rfl (fun g12 hg12 => ?_)
            simp only [go_sem, hgm, mmN]
            refine hK11 _ ?_
            refine awp_plain 3 (by kernel_rfl) rfl (fun g8 hg8 => ?_)
            simp only [go_sem]
            try simp (disch := omega) only [wrapN]
            refine ⟨_, ?_, k + 1, hlt, rfl, .inl ⟨n3.trans hone, le_of ?_⟩⟩
            · omega
            simp only [go_sem, n1, n2]
            all_goals first | exact rfl | exact ⟨rfl, rfl⟩ | trivial | omega
        · have : k = p.decls.length := by omega
          subst this
          refine awp_plain 5 (by kernel_rfl) rfl (fun g7 hg7 => ?_)
          simp only [go_sem, hlt, List.take_length]
          refine hK10 _ ?_
          refine awp_f rfl ?_
          refine awp_exit ?_
          refine hK7 _ ?_
          refine awp_seq_k (fun K14 hK14 => ?_)
          refine awp_seq_k (fun K15 hK15 => ?_)
          refine awp_plain 1 (by kernel_rfl) rfl (fun g13 hg13 => ?_)
          simp only [go_sem]
          refine hK15 _ ?_
          refine awp_block ?_
          skip
          skip
          generalize alE p p.decls.length = L at *
          have hLm : L.map encEx = [encEx p.main] := by rw [hone]; rfl
          -- the second loop, over the expressions
          refine awp_loop (fun m s => ∃ k ns, k ≤ L.length ∧ m = L.length - k ∧ ns = (L.take k).foldl nmR [] ∧
              Le { env := [(1, .ptr ⟨g0, 1, 0⟩ 0), (3, dN (p.decls.foldl dcF 0)), (4, dN (p.decls.foldl foF 0)), (5, dN ((L.take k).foldl tgF 0)), (6, slS ns), (7, .sl true (L.map encEx)), (9, dN k)], σ := [(⟨g0, 1, 0⟩, .box 30 (prC p))] } s) L.length ?_ ?_
          · refine ⟨0, [], Nat.zero_le _, rfl, rfl, le_of ?_⟩
            simp only [go_sem, List.foldl_nil, hLm]
            all_goals first | exact rfl | exact ⟨rfl, rfl⟩ | trivial
          · rintro m s ⟨k, ns, hk, rfl, hns, hle⟩
            refine awp_keep hle ?_
            clear hle
            refine awp_seq_k (fun K16 hK16 => ?_)
            refine awp_seq_k (fun K17 hK17 => ?_)
            by_cases hlt : k < L.length
            · have hgm := getM (f := encEx) hlt
              have hsx := (smEx_iff _).1 (hLsm _ (List.getElem_mem hlt))
              have n1 := fold_take tgF 0 hlt
              have n2 := fold_take nmR [] hlt
              rw [← hns] at n2
              have hnl : ns.length ≤ k := by
                have := nmR_len (L.take k) []
                rw [← hns, List.length_take_of_le hk] at this
                simpa using this
              have hnm : ∀ x ∈ ns, x.size ≤ 9223372036854775807 := fun x hx => by
                rw [hns, nmR_mem] at hx
                rcases hx with ⟨e, he, _, rfl⟩ | hx
                · have := ((smEx_iff _).1 (hLsm e (List.mem_of_mem_take he))).1
                  omega
                · cases hx
              have hXs := hsx.1
              refine awp_plain 4 (by kernel_rfl) rfl (fun g14 hg14 => ?_)
              simp only [go_sem, hlt]
              refine hK17 _ ?_
              refine awp_t rfl ?_
              refine awp_skip ?_
              refine hK16 _ ?_
              refine awp_seq_k (fun K18 hK18 => ?_)
              refine awp_block ?_
              refine awp_seq_k (fun K19 hK19 => ?_)
              generalize L[k] = X at *
              generalize (L.take k).foldl tgF 0 = T at *
              by_cases h2 : X.kind = 2
              · have e1 : tgF T X = max T X.targs.length := by unfold tgF; rw [if_pos h2]
                have e2 : nmR ns X = putS ns X.name := by unfold nmR; rw [if_pos h2]
                rw [e1] at n1
                rw [e2] at n2
                refine awp_plain 6 (by kernel_rfl) rfl (fun g16 hg16 => ?_)
                simp only [go_sem, hgm, h2, decide_true]
                refine hK19 _ ?_
                refine awp_t rfl ?_
                refine awp_seq_k (fun K20 hK20 => ?_)
                refine awp_ops (by kernel_rfl) rfl (fun g17 hg17 ops17 KR17 hops17 hKR17 => ?_)
                refine aops_eval 6 hops17 ?_
                simp only [go_sem, hgm]
                refine aops_pure hops17 rfl rfl rfl (put14_calls ns (by omega) X.name (by omega) hnm _ _) (CoL.refl _) ?_
                refine aops_last 1 hops17 ?_
                simp only [go_sem]
                refine hKR17 _ ?_
                refine hK20 _ ?_
                refine awp_plain 9 (by kernel_rfl) rfl (fun g18 hg18 => ?_)
                simp only [go_sem, hgm, mmN]
                refine hK18 _ ?_
                refine awp_plain 3 (by kernel_rfl) rfl (fun g15 hg15 => ?_)
                simp only [go_sem]
                try simp (disch := omega) only [wrapN]
                refine ⟨_, ?_, k + 1, _, hlt, rfl, n2.symm, le_of ?_⟩
                · omega
                simp only [go_sem, n1]
                all_goals first | exact rfl | exact ⟨rfl, rfl⟩ | trivial | omega
              · have e1 : tgF T X = T := by unfold tgF; rw [if_neg h2]
                have e2 : nmR ns X = ns := by unfold nmR; rw [if_neg h2]
                rw [e1] at n1
                rw [e2] at n2
                refine awp_plain 6 (by kernel_rfl) rfl (fun g16 hg16 => ?_)
                simp only [go_sem, hgm, h2, decide_false]
                refine hK19 _ ?_
                refine awp_f rfl ?_
                refine awp_skip ?_
                refine hK18 _ ?_
                refine awp_plain 3 (by kernel_rfl) rfl (fun g15 hg15 => ?_)
                simp only [go_sem]
                try simp (disch := omega) only [wrapN]
                refine ⟨_, ?_, k + 1, _, hlt, rfl, n2.symm, le_of ?_⟩
                · omega
                simp only [go_sem, n1]
                all_goals first | exact rfl | exact ⟨rfl, rfl⟩ | trivial | omega
            · have : k = L.length := by omega
              subst this
              rw [List.take_length] at hns
              refine awp_plain 4 (by kernel_rfl) rfl (fun g14 hg14 => ?_)
              simp only [go_sem, hlt, List.take_length, List.take_length]
              refine hK17 _ ?_
              refine awp_f rfl ?_
              refine awp_exit ?_
              refine hK14 _ ?_
              refine awp_seq_k (fun K21 hK21 => ?_)
              have hnl : ns.length ≤ L.length := by
                have := nmR_len L []
                rw [← hns] at this
                simpa using this
              refine awp_ops (by kernel_rfl) rfl (fun g19 hg19 ops19 KR19 hops19 hKR19 => ?_)
              refine aops_eval 3 hops19 ?_
              simp only [go_sem]
              refine aops_pure hops19 rfl rfl rfl (height22_calls p hp' (by omega) _ _) (CoL.refl _) ?_
              refine aops_pure hops19 rfl rfl rfl (refTypes_calls _ (p.decls.foldl foF 0) hDC hFO (hgt p ((tyKeys p).length + (meKeys p).length)) hhg _ _) (CoL.refl _) ?_
              refine aops_last 1 hops19 ?_
              simp only [go_sem]
              refine hKR19 _ ?_
              refine hK21 _ ?_
              refine awp_seq_k (fun K22 hK22 => ?_)
              refine awp_ops (by kernel_rfl) rfl (fun g20 hg20 ops20 KR20 hops20 hKR20 => ?_)
              refine aops_eval 4 hops20 ?_
              simp only [go_sem]
              refine aops_pure hops20 rfl rfl rfl (refMul_calls _ _ hC (inN (n := ns.length) (by omega)) _ _) (CoL.refl _) ?_
              refine aops_eval 1 hops20 ?_
              simp only [go_sem]
              refine aops_pure hops20 rfl rfl rfl (refAdd_calls _ _ hC one_in _ _) (CoL.refl _) ?_
              refine aops_eval 1 hops20 ?_
              simp only [go_sem]
              refine aops_pure hops20 rfl rfl rfl (refPow_calls _ (addS_in hC one_in) (L.foldl tgF 0) hTG _ _) (CoL.refl _) ?_
              refine aops_pure hops20 rfl rfl rfl (refMul_calls _ _ (mulS_in hC (inN (n := ns.length) (by omega))) (powS_in (addS_in hC one_in) _) _ _) (CoL.refl _) ?_
              refine aops_pure hops20 rfl rfl rfl (refAdd_calls _ _ hC (mulS_in (mulS_in hC (inN (n := ns.length) (by omega))) (powS_in (addS_in hC one_in) _)) _ _) (CoL.refl _) ?_
              refine aops_last 1 hops20 ?_
              simp only [go_sem]
              refine hKR20 _ ?_
              refine hK22 _ ?_
              refine awp_ret ?_
              refine ends_ev rfl ?_
              simp only [go_sem]
              exact Co.of_eq (by rw [hns]; rfl)
      · refine awp_keep hle ?_
        clear hle
        refine awp_seq_k (fun K23 hK23 => ?_)
        refine awp_seq_k (fun K24 hK24 => ?_)
        by_cases hlt : k < p.decls.length
        · have hgm := getM (f := encDe) hlt
          have hde := k2 _ (List.getElem_mem hlt)
          have n1 := fold_take dcF 0 hlt
          have n2 := fold_take foF 0 hlt
          have n3 := alE_succ p k hlt
          have hxk := alE_le p (k + 1)
          have hdl := dcF_le (p.decls.take k) 0
          rw [List.length_take_of_le hk] at hdl
          refine awp_plain 5 (by kernel_rfl) rfl (fun g7 hg7 => ?_)
          simp only [go_sem, hlt, ha]
          refine hK24 _ ?_
          refine awp_t rfl ?_
          refine awp_skip ?_
          refine hK23 _ ?_
          refine awp_seq_k (fun K25 hK25 => ?_)
          refine awp_block ?_
          refine awp_seq_k (fun K26 hK26 => ?_)
          generalize p.decls[k] = D at *
          generalize (p.decls.take k).foldl dcF 0 = DC at *
          generalize (p.decls.take k).foldl foF 0 = FO at *
          by_cases h3 : D.kind = 3
          · have e1 : dcF DC D = DC := by unfold dcF; rw [if_pos h3]
            have e2 : foF FO D = FO := by unfold foF; rw [if_pos h3]
            have e3 : exD D = nodesEx D.body := by unfold exD; rw [if_pos h3]
            rw [e1] at n1
            rw [e2] at n2
            rw [e3] at n3
            rw [n3, List.length_append] at hxk
            have hnp := nodesEx_pos D.body
            refine awp_plain 7 (by kernel_rfl) rfl (fun g9 hg9 => ?_)
            simp only [go_sem, hgm, h3, decide_true, ha]
            refine hK26 _ ?_
            refine awp_t rfl ?_
            refine awp_ops (by kernel_rfl) rfl (fun g10 hg10 ops10 KR10 hops10 hKR10 => ?_)
            refine aops_eval 7 hops10 ?_
            simp only [go_sem, hgm, ha]
            refine aops_pure hops10 rfl rfl rfl (list05_calls D.body (smEx.ok _ hde.2.2.2.2.2.2.2) (by omega) _ _) (CoL.refl _) ?_
            refine aops_app hops10 rfl rfl rfl rfl rfl es26 sz28 by28 ze28 rfl (by decide) ?_
            simp only [go_sem, Ne.symm ha, okRowsEx]
            first | refine ⟨⟨by omega, by omega⟩, ?_⟩ | skip
            skip
            skip
            have hn10_g0 : g10 ≠ g0 := fresh_g hg10 1 0 (by simp [go_sem])
            refine aops_last 1 hops10 ?_
            simp only [go_sem]
            refine hKR10 _ ?_
            refine hK25 _ ?_
            refine awp_plain 3 (by kernel_rfl) rfl (fun g8 hg8 => ?_)
            simp only [go_sem]
            try simp (disch := omega) only [wrapN]
            refine ⟨_, ?_, k + 1, hlt, rfl, .inr ⟨g10, 36, 0, hn10_g0, le_of ?_⟩⟩
            · omega
            simp only [go_sem, n1, n2, n3, List.map_append, List.length_append, hn10_g0, Ne.symm hn10_g0]
            all_goals first | exact rfl | exact ⟨rfl, rfl⟩ | trivial | omega
          · have e1 : dcF DC D = DC + 1 := by unfold dcF; rw [if_neg h3]
            have e2 : foF FO D = max FO D.formals.length := by unfold foF; rw [if_neg h3]
            have e3 : exD D = [] := by unfold exD; rw [if_neg h3]
            rw [e1] at n1
            rw [e2] at n2
            rw [e3, List.append_nil] at n3
            refine awp_plain 7 (by kernel_rfl) rfl (fun g9 hg9 => ?_)
            simp only [go_sem, hgm, h3, decide_false, ha]
            refine hK26 _ ?_
            refine awp_f rfl ?_
            refine awp_seq_k (fun K27 hK27 => ?_)
            refine awp_plain 3 (by kernel_rfl) rfl (fun g11 hg11 => ?_)
            simp only [go_sem]
            try simp (disch := omega) only [wrapN]
            refine hK27 _ ?_
            refine awp_plain 10 (by kernel_rfl) rfl (fun g12 hg12 => ?_)
            simp only [go_sem, hgm, mmN, ha]
            refine hK25 _ ?_
            refine awp_plain 3 (by kernel_rfl) rfl (fun g8 hg8 => ?_)
            simp only [go_sem]
            try simp (disch := omega) only [wrapN]
            refine ⟨_, ?_, k + 1, hlt, rfl, .inr ⟨a, i, j, ha, le_of ?_⟩⟩
            · omega
            simp only [go_sem, n1, n2, n3, ha, Ne.symm ha]
            all_goals first | exact rfl | exact ⟨rfl, rfl⟩ | trivial | omega
        · have : k = p.decls.length := by omega
          subst this
          refine awp_plain 5 (by kernel_rfl) rfl (fun g7 hg7 => ?_)
          simp only [go_sem, hlt, ha, List.take_length]
          refine hK24 _ ?_
          refine awp_f rfl ?_
          refine awp_exit ?_
          refine hK7 _ ?_
          refine awp_seq_k (fun K28 hK28 => ?_)
          refine awp_seq_k (fun K29 hK29 => ?_)
          refine awp_plain 1 (by kernel_rfl) rfl (fun g13 hg13 => ?_)
          simp only [go_sem]
          refine hK29 _ ?_
          refine awp_block ?_
          refine awp_frz ⟨a, i, j⟩ ?_
          simp only [go_sem, Ne.symm ha]
          generalize alE p p.decls.length = L at *
          skip
          -- the second loop, over the expressions
          refine awp_loop (fun m s => ∃ k ns, k ≤ L.length ∧ m = L.length - k ∧ ns = (L.take k).foldl nmR [] ∧
              Le { env := [(1, .ptr ⟨g0, 1, 0⟩ 0), (3, dN (p.decls.foldl dcF 0)), (4, dN (p.decls.foldl foF 0)), (5, dN ((L.take k).foldl tgF 0)), (6, slS ns), (7, .sl false (L.map encEx)), (9, dN k)], σ := [(⟨g0, 1, 0⟩, .box 30 (prC p))] } s) L.length ?_ ?_
          · refine ⟨0, [], Nat.zero_le _, rfl, rfl, le_of ?_⟩
            simp only [go_sem, List.foldl_nil, List.take_zero]
            all_goals first | exact rfl | exact ⟨rfl, rfl⟩ | trivial
          · rintro m s ⟨k, ns, hk, rfl, hns, hle⟩
            refine awp_keep hle ?_
            clear hle
            refine awp_seq_k (fun K30 hK30 => ?_)
            refine awp_seq_k (fun K31 hK31 => ?_)
            by_cases hlt : k < L.length
            · have hgm := getM (f := encEx) hlt
              have hsx := (smEx_iff _).1 (hLsm _ (List.getElem_mem hlt))
              have n1 := fold_take tgF 0 hlt
              have n2 := fold_take nmR [] hlt
              rw [← hns] at n2
              have hnl : ns.length ≤ k := by
                have := nmR_len (L.take k) []
                rw [← hns, List.length_take_of_le hk] at this
                simpa using this
              have hnm : ∀ x ∈ ns, x.size ≤ 9223372036854775807 := fun x hx => by
                rw [hns, nmR_mem] at hx
                rcases hx with ⟨e, he, _, rfl⟩ | hx
                · have := ((smEx_iff _).1 (hLsm e (List.mem_of_mem_take he))).1
                  omega
                · cases hx
              have hXs := hsx.1
              refine awp_plain 4 (by kernel_rfl) rfl (fun g14 hg14 => ?_)
              simp only [go_sem, hlt]
              refine hK31 _ ?_
              refine awp_t rfl ?_
              refine awp_skip ?_
              refine hK30 _ ?_
              refine awp_seq_k (fun K32 hK32 => ?_)
              refine awp_block ?_
              refine awp_seq_k (fun K33 hK33 => ?_)
              generalize L[k] = X at *
              generalize (L.take k).foldl tgF 0 = T at *
              by_cases h2 : X.kind = 2
              · have e1 : tgF T X = max T X.targs.length := by unfold tgF; rw [if_pos h2]
                have e2 : nmR ns X = putS ns X.name := by unfold nmR; rw [if_pos h2]
                rw [e1] at n1
                rw [e2] at n2
                refine awp_plain 6 (by kernel_rfl) rfl (fun g16 hg16 => ?_)
                simp only [go_sem, hgm, h2, decide_true]
                refine hK33 _ ?_
                refine awp_t rfl ?_
                refine awp_seq_k (fun K34 hK34 => ?_)
                refine awp_ops (by kernel_rfl) rfl (fun g17 hg17 ops17 KR17 hops17 hKR17 => ?_)
                refine aops_eval 6 hops17 ?_
                simp only [go_sem, hgm]
                refine aops_pure hops17 rfl rfl rfl (put14_calls ns (by omega) X.name (by omega) hnm _ _) (CoL.refl _) ?_
                refine aops_last 1 hops17 ?_
                simp only [go_sem]
                refine hKR17 _ ?_
                refine hK34 _ ?_
                refine awp_plain 9 (by kernel_rfl) rfl (fun g18 hg18 => ?_)
                simp only [go_sem, hgm, mmN]
                refine hK32 _ ?_
                refine awp_plain 3 (by kernel_rfl) rfl (fun g15 hg15 => ?_)
                simp only [go_sem]
                try simp (disch := omega) only [wrapN]
                refine ⟨_, ?_, k + 1, _, hlt, rfl, n2.symm, le_of ?_⟩
                · omega
                simp only [go_sem, n1]
                all_goals first | exact rfl | exact ⟨rfl, rfl⟩ | trivial | omega
              · have e1 : tgF T X = T := by unfold tgF; rw [if_neg h2]
                have e2 : nmR ns X = ns := by unfold nmR; rw [if_neg h2]
                rw [e1] at n1
                rw [e2] at n2
                refine awp_plain 6 (by kernel_rfl) rfl (fun g16 hg16 => ?_)
                simp only [go_sem, hgm, h2, decide_false]
                refine hK33 _ ?_
                refine awp_f rfl ?_
                refine awp_skip ?_
                refine hK32 _ ?_
                refine awp_plain 3 (by kernel_rfl) rfl (fun g15 hg15 => ?_)
                simp only [go_sem]
                try simp (disch := omega) only [wrapN]
                refine ⟨_, ?_, k + 1, _, hlt, rfl, n2.symm, le_of ?_⟩
                · omega
                simp only [go_sem, n1]
                all_goals first | exact rfl | exact ⟨rfl, rfl⟩ | trivial | omega
            · have : k = L.length := by omega
              subst this
              rw [List.take_length] at hns
              refine awp_plain 4 (by kernel_rfl) rfl (fun g14 hg14 => ?_)
              simp only [go_sem, hlt, List.take_length, List.take_length]
              refine hK31 _ ?_
              refine awp_f rfl ?_
              refine awp_exit ?_
              refine hK28 _ ?_
              refine awp_seq_k (fun K35 hK35 => ?_)
              have hnl : ns.length ≤ L.length := by
                have := nmR_len L []
                rw [← hns] at this
                simpa using this
              refine awp_ops (by kernel_rfl) rfl (fun g19 hg19 ops19 KR19 hops19 hKR19 => ?_)
              refine aops_eval 3 hops19 ?_
              simp only [go_sem]
              refine aops_pure hops19 rfl rfl rfl (height22_calls p hp' (by omega) _ _) (CoL.refl _) ?_
              refine aops_pure hops19 rfl rfl rfl (refTypes_calls _ (p.decls.foldl foF 0) hDC hFO (hgt p ((tyKeys p).length + (meKeys p).length)) hhg _ _) (CoL.refl _) ?_
              refine aops_last 1 hops19 ?_
              simp only [go_sem]
              refine hKR19 _ ?_
              refine hK35 _ ?_
              refine awp_seq_k (fun K36 hK36 => ?_)
              refine awp_ops (by kernel_rfl) rfl (fun g20 hg20 ops20 KR20 hops20 hKR20 => ?_)
              refine aops_eval 4 hops20 ?_
              simp only [go_sem]
              refine aops_pure hops20 rfl rfl rfl (refMul_calls _ _ hC (inN (n := ns.length) (by omega)) _ _) (CoL.refl _) ?_
              refine aops_eval 1 hops20 ?_
              simp only [go_sem]
              refine aops_pure hops20 rfl rfl rfl (refAdd_calls _ _ hC one_in _ _) (CoL.refl _) ?_
              refine aops_eval 1 hops20 ?_
              simp only [go_sem]
              refine aops_pure hops20 rfl rfl rfl (refPow_calls _ (addS_in hC one_in) (L.foldl tgF 0) hTG _ _) (CoL.refl _) ?_
              refine aops_pure hops20 rfl rfl rfl (refMul_calls _ _ (mulS_in hC (inN (n := ns.length) (by omega))) (powS_in (addS_in hC one_in) _) _ _) (CoL.refl _) ?_
              refine aops_pure hops20 rfl rfl rfl (refAdd_calls _ _ hC (mulS_in (mulS_in hC (inN (n := ns.length) (by omega))) (powS_in (addS_in hC one_in) _)) _ _) (CoL.refl _) ?_
              refine aops_last 1 hops20 ?_
              simp only [go_sem]
              refine hKR20 _ ?_
              refine hK36 _ ?_
              refine awp_ret ?_
              refine ends_ev rfl ?_
              simp only [go_sem]
              exact Co.of_eq (by rw [hns]; rfl)
  · have hk0 : p.main.kids = [] := List.eq_nil_of_length_eq_zero (by omega)
    have hz : alE p 0 = [p.main] := by rw [alE_zero, nodesEx_eq, hk0]; rfl
    refine awp_ops (by kernel_rfl) rfl (fun g5 hg5 ops5 KR5 hops5 hKR5 => ?_)
    refine aops_eval 2 hops5 ?_
    simp only [go_sem]
    refine aops_pure hops5 rfl rfl rfl (list05x_calls p.main (smEx.ok _ k3) hk0 _ _) (CoL.refl _) ?_
    refine aops_last 1 hops5 ?_
    simp only [go_sem]
    refine hKR5 _ ?_
    refine hK6 _ ?_
    refine awp_seq_k (fun K37 hK37 => ?_)
    refine awp_seq_k (fun K38 hK38 => ?_)
    refine awp_plain 1 (by kernel_rfl) rfl (fun g6 hg6 => ?_)
    simp only [go_sem]
    refine hK38 _ ?_
    refine awp_block ?_
    refine awp_loop (fun m s => ∃ k, k ≤ p.decls.length ∧ m = p.decls.length - k ∧
        ((alE p k = [p.main] ∧ Le { env := [(1, .ptr ⟨g0, 1, 0⟩ 0), (3, dN ((p.decls.take k).foldl dcF 0)), (4, dN ((p.decls.take k).foldl foF 0)), (5, dI 0), (6, slS []), (7, .sl true [encEx p.main]), (8, dN k)], σ := [(⟨g0, 1, 0⟩, .box 30 (prC p))] } s) ∨
        ∃ a i j, a ≠ g0 ∧ Le { env := [(1, .ptr ⟨g0, 1, 0⟩ 0), (3, dN ((p.decls.take k).foldl dcF 0)), (4, dN ((p.decls.take k).foldl foF 0)), (5, dI 0), (6, slS []), (7, .own ⟨a, i, j⟩ (alE p k).length), (8, dN k)], σ := [(⟨g0, 1, 0⟩, .box 30 (prC p)), (⟨a, i, j⟩, .arr 28 8 ((alE p k).map encEx))] } s)) p.decls.length ?_ ?_
    · refine ⟨0, Nat.zero_le _, rfl, .inl ⟨hz, le_of ?_⟩⟩
      simp only [go_sem, List.foldl_nil, List.take_zero]
      all_goals first | exact rfl | exact ⟨rfl, rfl⟩ | trivial
    · rintro m s ⟨k, hk, rfl, ⟨hone, hle⟩ | ⟨a, i, j, ha, hle⟩⟩
      · refine awp_keep hle ?_
        clear hle
        refine awp_seq_k (fun K39 hK39 => ?_)
        refine awp_seq_k (fun K40 hK40 => ?_)
        by_cases hlt : k < p.decls.length
        · have hgm := getM (f := encDe) hlt
          have hde := k2 _ (List.getElem_mem hlt)
          have n1 := fold_take dcF 0 hlt
          have n2 := fold_take foF 0 hlt
          have n3 := alE_succ p k hlt
          have hxk := alE_le p (k + 1)
          have hdl := dcF_le (p.decls.take k) 0
          rw [List.length_take_of_le hk] at hdl
          refine awp_plain 5 (by kernel_rfl) rfl (fun g7 hg7 => ?_)
          simp only [go_sem, hlt]
          refine hK40 _ ?_
          refine awp_t rfl ?_
          refine awp_skip ?_
          refine hK39 _ ?_
          refine awp_seq_k (fun K41 hK41 => ?_)
          refine awp_block ?_
          refine awp_seq_k (fun K42 hK42 => ?_)
          generalize p.decls[k] = D at *
          generalize (p.decls.take k).foldl dcF 0 = DC at *
          generalize (p.decls.take k).foldl foF 0 = FO at *
          by_cases h3 : D.kind = 3
          · have e1 : dcF DC D = DC := by unfold dcF; rw [if_pos h3]
            have e2 : foF FO D = FO := by unfold foF; rw [if_pos h3]
            have e3 : exD D = nodesEx D.body := by unfold exD; rw [if_pos h3]
            rw [e1] at n1
            rw [e2] at n2
            rw [e3] at n3
            rw [n3, List.length_append] at hxk
            have hnp := nodesEx_pos D.body
            refine awp_plain 7 (by kernel_rfl) rfl (fun g9 hg9 => ?_)
            simp only [go_sem, hgm, h3, decide_true]
            refine hK42 _ ?_
            refine awp_t rfl ?_
            refine awp_ops (by kernel_rfl) rfl (fun g10 hg10 ops10 KR10 hops10 hKR10 => ?_)
            refine aops_eval 7 hops10 ?_
            simp only [go_sem, hgm]
            refine aops_pure hops10 rfl rfl rfl (list05_calls D.body (smEx.ok _ hde.2.2.2.2.2.2.2) (by omega) _ _) (CoL.refl _) ?_
            refine aops_appx hops10 rfl rfl rfl rfl rfl es26 sz28 by28 ze28 rfl (by decide) ?_
            simp only [go_sem, okRowsEx, okRowsEx]
            refine ⟨hnp, ⟨by omega, by omega⟩, ?_⟩
            refine aops_last 1 hops10 ?_
            simp only [go_sem]
            refine hKR10 _ ?_
            refine hK41 _ ?_
            have hn10_g0 : g10 ≠ g0 := fresh_g hg10 1 0 (by simp [go_sem])
            skip
            refine awp_plain 3 (by kernel_rfl) rfl (fun g8 hg8 => ?_)
            simp only [go_sem]
            try simp (disch := omega) only [wrapN]
            refine ⟨_, ?_, k + 1, hlt, rfl, .inr ⟨g10, 36, 0, hn10_g0, le_of ?_⟩⟩
            · omega
            simp only [go_sem, n1, n2, n3, hone, List.length_cons, List.map_cons, List.cons_append, List.nil_append, hn10_g0, Ne.symm hn10_g0]
            all_goals first | exact rfl | exact ⟨rfl, rfl⟩ | trivial | omega
          · have e1 : dcF DC D = DC + 1 := by unfold dcF; rw [if_neg h3]
            have e2 : foF FO D = max FO D.formals.length := by unfold foF; rw [if_neg h3]
            have e3 : exD D = [] := by unfold exD; rw [if_neg h3]
            rw [e1] at n1
            rw [e2] at n2
            rw [e3, List.append_nil] at n3
            refine awp_plain 7 (by kernel_rfl) rfl (fun g9 hg9 => ?_)
            simp only [go_sem, hgm, h3, decide_false]
            refine hK42 _ ?_
            refine awp_f rfl ?_
            refine awp_seq_k (fun K43 hK43 => ?_)
            refine awp_plain 3 (by kernel_rfl) rfl (fun g11 hg11 => ?_)
            simp only [go_sem]
            try simp (disch := omega) only [wrapN]
            refine hK43 _ ?_
            refine awp_plain 10 (by kernel_rfl) rfl (fun g12 hg12 => ?_)
            simp only [go_sem, hgm, mmN]
            refine hK41 _ ?_
            refine awp_plain 3 (by kernel_rfl) rfl (fun g8 hg8 => ?_)
            simp only [go_sem]
            try simp (disch := omega) only [wrapN]
            refine ⟨_, ?_, k + 1, hlt, rfl, .inl ⟨n3.trans hone, le_of ?_⟩⟩
            · omega
            simp only [go_sem, n1, n2]
            all_goals first | exact rfl | exact ⟨rfl, rfl⟩ | trivial | omega
        · have : k = p.decls.length := by omega
          subst this
          refine awp_plain 5 (by kernel_rfl) rfl (fun g7 hg7 => ?_)
          simp only [go_sem, hlt, List.take_length]
          refine hK40 _ ?_
          refine awp_f rfl ?_
          refine awp_exit ?_
          refine hK37 _ ?_
          refine awp_seq_k (fun K44 hK44 => ?_)
          refine awp_seq_k (fun K45 hK45 => ?_)
          refine awp_plain 1 (by kernel_rfl) rfl (fun g13 hg13 => ?_)
          simp only [go_sem]
          refine hK45 _ ?_
          refine awp_block ?_
          skip
          skip
          generalize alE p p.decls.length = L at *
          have hLm : L.map encEx = [encEx p.main] := by rw [hone]; rfl
          -- the second loop, over the expressions
          refine awp_loop (fun m s => ∃ k ns, k ≤ L.length ∧ m = L.length - k ∧ ns = (L.take k).foldl nmR [] ∧
              Le { env := [(1, .ptr ⟨g0, 1, 0⟩ 0), (3, dN (p.decls.foldl dcF 0)), (4, dN (p.decls.foldl foF 0)), (5, dN ((L.take k).foldl tgF 0)), (6, slS ns), (7, .sl true (L.map encEx)), (9, dN k)], σ := [(⟨g0, 1, 0⟩, .box 30 (prC p))] } s) L.length ?_ ?_
          · refine ⟨0, [], Nat.zero_le _, rfl, rfl, le_of ?_⟩
            simp only [go_sem, List.foldl_nil, hLm]
            all_goals first | exact rfl | exact ⟨rfl, rfl⟩ | trivial
          · rintro m s ⟨k, ns, hk, rfl, hns, hle⟩
            refine awp_keep hle ?_
            clear hle
            refine awp_seq_k (fun K46 hK46 => ?_)
            refine awp_seq_k (fun K47 hK47 => ?_)
            by_cases hlt : k < L.length
            · have hgm := getM (f := encEx) hlt
              have hsx := (smEx_iff _).1 (hLsm _ (List.getElem_mem hlt))
              have n1 := fold_take tgF 0 hlt
              have n2 := fold_take nmR [] hlt
              rw [← hns] at n2
              have hnl : ns.length ≤ k := by
                have := nmR_len (L.take k) []
                rw [← hns, List.length_take_of_le hk] at this
                simpa using this
              have hnm : ∀ x ∈ ns, x.size ≤ 9223372036854775807 := fun x hx => by
                rw [hns, nmR_mem] at hx
                rcases hx with ⟨e, he, _, rfl⟩ | hx
                · have := ((smEx_iff _).1 (hLsm e (List.mem_of_mem_take he))).1
                  omega
                · cases hx
              have hXs := hsx.1
              refine awp_plain 4 (by kernel_rfl) rfl (fun g14 hg14 => ?_)
              simp only [go_sem, hlt]
              refine hK47 _ ?_
              refine awp_t rfl ?_
              refine awp_skip ?_
              refine hK46 _ ?_
              refine awp_seq_k (fun K48 hK48 => ?_)
              refine awp_block ?_
              refine awp_seq_k (fun K49 hK49 => ?_)
              generalize L[k] = X at *
              generalize (L.take k).foldl tgF 0 = T at *
              by_cases h2 : X.kind = 2
              · have e1 : tgF T X = max T X.targs.length := by unfold tgF; rw [if_pos h2]
                have e2 : nmR ns X = putS ns X.name := by unfold nmR; rw [if_pos h2]
                rw [e1] at n1
                rw [e2] at n2
                refine awp_plain 6 (by kernel_rfl) rfl (fun g16 hg16 => ?_)
                simp only [go_sem, hgm, h2, decide_true]
                refine hK49 _ ?_
                refine awp_t rfl ?_
                refine awp_seq_k (fun K50 hK50 => ?_)
                refine awp_ops (by kernel_rfl) rfl (fun g17 hg17 ops17 KR17 hops17 hKR17 => ?_)
                refine aops_eval 6 hops17 ?_
                simp only [go_sem, hgm]
                refine aops_pure hops17 rfl rfl rfl (put14_calls ns (by omega) X.name (by omega) hnm _ _) (CoL.refl _) ?_
                refine aops_last 1 hops17 ?_
                simp only [go_sem]
                refine hKR17 _ ?_
                refine hK50 _ ?_
                refine awp_plain 9 (by kernel_rfl) rfl (fun g18 hg18 => ?_)
                simp only [go_sem, hgm, mmN]
                refine hK48 _ ?_
                refine awp_plain 3 (by kernel_rfl) rfl (fun g15 hg15 => ?_)
                simp only [go_sem]
                try simp (disch := omega) only [wrapN]
                refine ⟨_, ?_, k + 1, _, hlt, rfl, n2.symm, le_of ?_⟩
                · omega
                simp only [go_sem, n1]
                all_goals first | exact rfl | exact ⟨rfl, rfl⟩ | trivial | omega
              · have e1 : tgF T X = T := by unfold tgF; rw [if_neg h2]
                have e2 : nmR ns X = ns := by unfold nmR; rw [if_neg h2]
                rw [e1] at n1
                rw [e2] at n2
                refine awp_plain 6 (by kernel_rfl) rfl (fun g16 hg16 => ?_)
                simp only [go_sem, hgm, h2, decide_false]
                refine hK49 _ ?_
                refine awp_f rfl ?_
                refine awp_skip ?_
                refine hK48 _ ?_
                refine awp_plain 3 (by kernel_rfl) rfl (fun g15 hg15 => ?_)
                simp only [go_sem]
                try simp (disch := omega) only [wrapN]
                refine ⟨_, ?_, k + 1, _, hlt, rfl, n2.symm, le_of ?_⟩
                · omega
                simp only [go_sem, n1]
                all_goals first | exact rfl | exact ⟨rfl, rfl⟩ | trivial | omega
            · have : k = L.length := by omega
              subst this
              rw [List.take_length] at hns
              refine awp_plain 4 (by kernel_rfl) rfl (fun g14 hg14 => ?_)
              simp only [go_sem, hlt, List.take_length, List.take_length]
              refine hK47 _ ?_
              refine awp_f rfl ?_
              refine awp_exit ?_
              refine hK44 _ ?_
              refine awp_seq_k (fun K51 hK51 => ?_)
              have hnl : ns.length ≤ L.length := by
                have := nmR_len L []
                rw [← hns] at this
                simpa using this
              refine awp_ops (by kernel_rfl) rfl (fun g19 hg19 ops19 KR19 hops19 hKR19 => ?_)
              refine aops_eval 3 hops19 ?_
              simp only [go_sem]
              refine aops_pure hops19 rfl rfl rfl (height22_calls p hp' (by omega) _ _) (CoL.refl _) ?_
              refine aops_pure hops19 rfl rfl rfl (refTypes_calls _ (p.decls.foldl foF 0) hDC hFO (hgt p ((tyKeys p).length + (meKeys p).length)) hhg _ _) (CoL.refl _) ?_
              refine aops_last 1 hops19 ?_
              simp only [go_sem]
              refine hKR19 _ ?_
              refine hK51 _ ?_
              refine awp_seq_k (fun K52 hK52 => ?_)
              refine awp_ops (by kernel_rfl) rfl (fun g20 hg20 ops20 KR20 hops20 hKR20 => ?_)
              refine aops_eval 4 hops20 ?_
              simp only [go_sem]
              refine aops_pure hops20 rfl rfl rfl (refMul_calls _ _ hC (inN (n := ns.length) (by omega)) _ _) (CoL.refl _) ?_
              refine aops_eval 1 hops20 ?_
              simp only [go_sem]
              refine aops_pure hops20 rfl rfl rfl (refAdd_calls _ _ hC one_in _ _) (CoL.refl _) ?_
              refine aops_eval 1 hops20 ?_
              simp only [go_sem]
              refine aops_pure hops20 rfl rfl rfl (refPow_calls _ (addS_in hC one_in) (L.foldl tgF 0) hTG _ _) (CoL.refl _) ?_
              refine aops_pure hops20 rfl rfl rfl (refMul_calls _ _ (mulS_in hC (inN (n := ns.length) (by omega))) (powS_in (addS_in hC one_in) _) _ _) (CoL.refl _) ?_
              refine aops_pure hops20 rfl rfl rfl (refAdd_calls _ _ hC (mulS_in (mulS_in hC (inN (n := ns.length) (by omega))) (powS_in (addS_in hC one_in) _)) _ _) (CoL.refl _) ?_
              refine aops_last 1 hops20 ?_
              simp only [go_sem]
              refine hKR20 _ ?_
              refine hK52 _ ?_
              refine awp_ret ?_
              refine ends_ev rfl ?_
              simp only [go_sem]
              exact Co.of_eq (by rw [hns]; rfl)
      · refine awp_keep hle ?_
        clear hle
        refine awp_seq_k (fun K53 hK53 => ?_)
        refine awp_seq_k (fun K54 hK54 => ?_)
        by_cases hlt : k < p.decls.length
        · have hgm := getM (f := encDe) hlt
          have hde := k2 _ (List.getElem_mem hlt)
          have n1 := fold_take dcF 0 hlt
          have n2 := fold_take foF 0 hlt
          have n3 := alE_succ p k hlt
          have hxk := alE_le p (k + 1)
          have hdl := dcF_le (p.decls.take k) 0
          rw [List.length_take_of_le hk] at hdl
          refine awp_plain 5 (by kernel_rfl) rfl (fun g7 hg7 => ?_)
          simp only [go_sem, hlt, ha]
          refine hK54 _ ?_
          refine awp_t rfl ?_
          refine awp_skip ?_
          refine hK53 _ ?_
          refine awp_seq_k (fun K55 hK55 => ?_)
          refine awp_block ?_
          refine awp_seq_k (fun K56 hK56 => ?_)
          generalize p.decls[k] = D at *
          generalize (p.decls.take k).foldl dcF 0 = DC at *
          generalize (p.decls.take k).foldl foF 0 = FO at *
          by_cases h3 : D.kind = 3
          · have e1 : dcF DC D = DC := by unfold dcF; rw [if_pos h3]
            have e2 : foF FO D = FO := by unfold foF; rw [if_pos h3]
            have e3 : exD D = nodesEx D.body := by unfold exD; rw [if_pos h3]
            rw [e1] at n1
            rw [e2] at n2
            rw [e3] at n3
            rw [n3, List.length_append] at hxk
            have hnp := nodesEx_pos D.body
            refine awp_plain 7 (by kernel_rfl) rfl (fun g9 hg9 => ?_)
            simp only [go_sem, hgm, h3, decide_true, ha]
            refine hK56 _ ?_
            refine awp_t rfl ?_
            refine awp_ops (by kernel_rfl) rfl (fun g10 hg10 ops10 KR10 hops10 hKR10 => ?_)
            refine aops_eval 7 hops10 ?_
            simp only [go_sem, hgm, ha]
            refine aops_pure hops10 rfl rfl rfl (list05_calls D.body (smEx.ok _ hde.2.2.2.2.2.2.2) (by omega) _ _) (CoL.refl _) ?_
            refine aops_app hops10 rfl rfl rfl rfl rfl es26 sz28 by28 ze28 rfl (by decide) ?_
            simp only [go_sem, Ne.symm ha, okRowsEx]
            first | refine ⟨⟨by omega, by omega⟩, ?_⟩ | skip
            skip
            skip
            have hn10_g0 : g10 ≠ g0 := fresh_g hg10 1 0 (by simp [go_sem])
            refine aops_last 1 hops10 ?_
            simp only [go_sem]
            refine hKR10 _ ?_
            refine hK55 _ ?_
            refine awp_plain 3 (by kernel_rfl) rfl (fun g8 hg8 => ?_)
            simp only [go_sem]
            try simp (disch := omega) only [wrapN]
            refine ⟨_, ?_, k + 1, hlt, rfl, .inr ⟨g10, 36, 0, hn10_g0, le_of ?_⟩⟩
            · omega
            simp only [go_sem, n1, n2, n3, List.map_append, List.length_append, hn10_g0, Ne.symm hn10_g0]
            all_goals first | exact rfl | exact ⟨rfl, rfl⟩ | trivial | omega
          · have e1 : dcF DC D = DC + 1 := by unfold dcF; rw [if_neg h3]
            have e2 : foF FO D = max FO D.formals.length := by unfold foF; rw [if_neg h3]
            have e3 : exD D = [] := by unfold exD; rw [if_neg h3]
            rw [e1] at n1
            rw [e2] at n2
            rw [e3, List.append_nil] at n3
            refine awp_plain 7 (by kernel_rfl) rfl (fun g9 hg9 => ?_)
            simp only [go_sem, hgm, h3, decide_false, ha]
            refine hK56 _ ?_
            refine awp_f rfl ?_
            refine awp_seq_k (fun K57 hK57 => ?_)
            refine awp_plain 3 (by kernel_rfl) rfl (fun g11 hg11 => ?_)
            simp only [go_sem]
            try simp (disch := omega) only [wrapN]
            refine hK57 _ ?_
            refine awp_plain 10 (by kernel_rfl) rfl (fun g12 hg12 => ?_)
            simp only [go_sem, hgm, mmN, ha]
            refine hK55 _ ?_
            refine awp_plain 3 (by kernel_rfl) rfl (fun g8 hg8 => ?_)
            simp only [go_sem]
            try simp (disch := omega) only [wrapN]
            refine ⟨_, ?_, k + 1, hlt, rfl, .inr ⟨a, i, j, ha, le_of ?_⟩⟩
            · omega
            simp only [go_sem, n1, n2, n3, ha, Ne.symm ha]
            all_goals first | exact rfl | exact ⟨rfl, rfl⟩ | trivial | omega
        · have : k = p.decls.length := by omega
          subst this
          refine awp_plain 5 (by kernel_rfl) rfl (fun g7 hg7 => ?_)
          simp only [go_sem, hlt, ha, List.take_length]
          refine hK54 _ ?_
          refine awp_f rfl ?_
          refine awp_exit ?_
          refine hK37 _ ?_
          refine awp_seq_k (fun K58 hK58 => ?_)
          refine awp_seq_k (fun K59 hK59 => ?_)
          refine awp_plain 1 (by kernel_rfl) rfl (fun g13 hg13 => ?_)
          simp only [go_sem]
          refine hK59 _ ?_
          refine awp_block ?_
          refine awp_frz ⟨a, i, j⟩ ?_
          simp only [go_sem, Ne.symm ha]
          generalize alE p p.decls.length = L at *
          skip
          -- the second loop, over the expressions
          refine awp_loop (fun m s => ∃ k ns, k ≤ L.length ∧ m = L.length - k ∧ ns = (L.take k).foldl nmR [] ∧
              Le { env := [(1, .ptr ⟨g0, 1, 0⟩ 0), (3, dN (p.decls.foldl dcF 0)), (4, dN (p.decls.foldl foF 0)), (5, dN ((L.take k).foldl tgF 0)), (6, slS ns), (7, .sl false (L.map encEx)), (9, dN k)], σ := [(⟨g0, 1, 0⟩, .box 30 (prC p))] } s) L.length ?_ ?_
          · refine ⟨0, [], Nat.zero_le _, rfl, rfl, le_of ?_⟩
            simp only [go_sem, List.foldl_nil, List.take_zero]
            all_goals first | exact rfl | exact ⟨rfl, rfl⟩ | trivial
          · rintro m s ⟨k, ns, hk, rfl, hns, hle⟩
            refine awp_keep hle ?_
            clear hle
            refine awp_seq_k (fun K60 hK60 => ?_)
            refine awp_seq_k (fun K61 hK61 => ?_)
            by_cases hlt : k < L.length
            · have hgm := getM (f := encEx) hlt
              have hsx := (smEx_iff _).1 (hLsm _ (List.getElem_mem hlt))
              have n1 := fold_take tgF 0 hlt
              have n2 := fold_take nmR [] hlt
              rw [← hns] at n2
              have hnl : ns.length ≤ k := by
                have := nmR_len (L.take k) []
                rw [← hns, List.length_take_of_le hk] at this
                simpa using this
              have hnm : ∀ x ∈ ns, x.size ≤ 9223372036854775807 := fun x hx => by
                rw [hns, nmR_mem] at hx
                rcases hx with ⟨e, he, _, rfl⟩ | hx
                · have := ((smEx_iff _).1 (hLsm e (List.mem_of_mem_take he))).1
                  omega
                · cases hx
              have hXs := hsx.1
              refine awp_plain 4 (by kernel_rfl) rfl (fun g14 hg14 => ?_)
              simp only [go_sem, hlt]
              refine hK61 _ ?_
              refine awp_t rfl ?_
              refine awp_skip ?_
              refine hK60 _ ?_
              refine awp_seq_k (fun K62 hK62 => ?_)
              refine awp_block ?_
              refine awp_seq_k (fun K63 hK63 => ?_)
              generalize L[k] = X at *
              generalize (L.take k).foldl tgF 0 = T at *
              by_cases h2 : X.kind = 2
              · have e1 : tgF T X = max T X.targs.length := by unfold tgF; rw [if_pos h2]
                have e2 : nmR ns X = putS ns X.name := by unfold nmR; rw [if_pos h2]
                rw [e1] at n1
                rw [e2] at n2
                refine awp_plain 6 (by kernel_rfl) rfl (fun g16 hg16 => ?_)
                simp only [go_sem, hgm, h2, decide_true]
                refine hK63 _ ?_
                refine awp_t rfl ?_
                refine awp_seq_k (fun K64 hK64 => ?_)
                refine awp_ops (by kernel_rfl) rfl (fun g17 hg17 ops17 KR17 hops17 hKR17 => ?_)
                refine aops_eval 6 hops17 ?_
                simp only [go_sem, hgm]
                refine aops_pure hops17 rfl rfl rfl (put14_calls ns (by omega) X.name (by omega) hnm _ _) (CoL.refl _) ?_
                refine aops_last 1 hops17 ?_
                simp only [go_sem]
                refine hKR17 _ ?_
                refine hK64 _ ?_
                refine awp_plain 9 (by kernel_rfl) rfl (fun g18 hg18 => ?_)
                simp only [go_sem, hgm, mmN]
                refine hK62 _ ?_
                refine awp_plain 3 (by kernel_rfl) rfl (fun g15 hg15 => ?_)
                simp only [go_sem]
                try simp (disch := omega) only [wrapN]
                refine ⟨_, ?_, k + 1, _, hlt, rfl, n2.symm, le_of ?_⟩
                · omega
                simp only [go_sem, n1]
                all_goals first | exact rfl | exact ⟨rfl, rfl⟩ | trivial | omega
              · have e1 : tgF T X = T := by unfold tgF; rw [if_neg h2]
                have e2 : nmR ns X = ns := by unfold nmR; rw [if_neg h2]
                rw [e1] at n1
                rw [e2] at n2
                refine awp_plain 6 (by kernel_rfl) rfl (fun g16 hg16 => ?_)
                simp only [go_sem, hgm, h2, decide_false]
                refine hK63 _ ?_
                refine awp_f rfl ?_
                refine awp_skip ?_
                refine hK62 _ ?_
                refine awp_plain 3 (by kernel_rfl) rfl (fun g15 hg15 => ?_)
                simp only [go_sem]
                try simp (disch := omega) only [wrapN]
                refine ⟨_, ?_, k + 1, _, hlt, rfl, n2.symm, le_of ?_⟩
                · omega
                simp only [go_sem, n1]
                all_goals first | exact rfl | exact ⟨rfl, rfl⟩ | trivial | omega
            · have : k = L.length := by omega
              subst this
              rw [List.take_length] at hns
              refine awp_plain 4 (by kernel_rfl) rfl (fun g14 hg14 => ?_)
              simp only [go_sem, hlt, List.take_length, List.take_length]
              refine hK61 _ ?_
              refine awp_f rfl ?_
              refine awp_exit ?_
              refine hK58 _ ?_
              refine awp_seq_k (fun K65 hK65 => ?_)
              have hnl : ns.length ≤ L.length := by
                have := nmR_len L []
                rw [← hns] at this
                simpa using this
              refine awp_ops (by kernel_rfl) rfl (fun g19 hg19 ops19 KR19 hops19 hKR19 => ?_)
              refine aops_eval 3 hops19 ?_
              simp only [go_sem]
              refine aops_pure hops19 rfl rfl rfl (height22_calls p hp' (by omega) _ _) (CoL.refl _) ?_
              refine aops_pure hops19 rfl rfl rfl (refTypes_calls _ (p.decls.foldl foF 0) hDC hFO (hgt p ((tyKeys p).length + (meKeys p).length)) hhg _ _) (CoL.refl _) ?_
              refine aops_last 1 hops19 ?_
              simp only [go_sem]
              refine hKR19 _ ?_
              refine hK65 _ ?_
              refine awp_seq_k (fun K66 hK66 => ?_)
              refine awp_ops (by kernel_rfl) rfl (fun g20 hg20 ops20 KR20 hops20 hKR20 => ?_)
              refine aops_eval 4 hops20 ?_
              simp only [go_sem]
              refine aops_pure hops20 rfl rfl rfl (refMul_calls _ _ hC (inN (n := ns.length) (by omega)) _ _) (CoL.refl _) ?_
              refine aops_eval 1 hops20 ?_
              simp only [go_sem]
              refine aops_pure hops20 rfl rfl rfl (refAdd_calls _ _ hC one_in _ _) (CoL.refl _) ?_
              refine aops_eval 1 hops20 ?_
              simp only [go_sem]
              refine aops_pure hops20 rfl rfl rfl (refPow_calls _ (addS_in hC one_in) (L.foldl tgF 0) hTG _ _) (CoL.refl _) ?_
              refine aops_pure hops20 rfl rfl rfl (refMul_calls _ _ (mulS_in hC (inN (n := ns.length) (by omega))) (powS_in (addS_in hC one_in) _) _ _) (CoL.refl _) ?_
              refine aops_pure hops20 rfl rfl rfl (refAdd_calls _ _ hC (mulS_in (mulS_in hC (inN (n := ns.length) (by omega))) (powS_in (addS_in hC one_in) _)) _ _) (CoL.refl _) ?_
              refine aops_last 1 hops20 ?_
              simp only [go_sem]
              refine hKR20 _ ?_
              refine hK66 _ ?_
              refine awp_ret ?_
              refine ends_ev rfl ?_
              simp only [go_sem]
              exact Co.of_eq (by rw [hns]; rfl)
end Go.Proofs.T


namespace Go.Ab
open Go Go.RowKit Go.Proofs Go.Shelf
open Go.Sort (flatK get_flatK size_flatK blk_iff HoldsK)

/-- An element as it lies: its cells and what it is. -/
structure Cell (β : Type) (k : Nat) (ok : List Value → β → Prop) where
  vs : List Value
  tag : β
  len : vs.length = k
  one : ∀ v ∈ vs, v.oneCell' = true
  fit : ok vs tag

/-- What a compared pair answers, in whatever world. -/
def CmpAt (P : Program) (cmp : FuncId) (β : Type) (k : Nat) (ok : List Value → β → Prop) (cf : β → β → Int) : Prop :=
  ∀ x y : Cell β k ok, ∀ w, Calls P cmp #[.agg x.vs.toArray, .agg y.vs.toArray] w fun e w' => e = .returned (.int .i64 (cf x.tag y.tag)) ∧ ∃ q os', w' = Sort.grow (w.drewN q) os'

theorem grownBy_sput {w : World} {g n : Nat} {os : Array Obj} (d : Array Value) : Gr w (Sort.grow (Sort.putRow id (Sort.ahead w n) g 0 d) os) (some g) := by
  refine ⟨⟨rfl, rfl, rfl, by simp, fun k hk hne => ?_⟩, Nat.le_add_right _ _⟩
  rw [Sort.heap_grow_old _ _ (by simpa using hk)]
  have : g ≠ k := fun e => hne (by rw [e])
  simp [Sort.putRow, Sort.mapBlock, Sort.ahead, Array.getElem?_modify, this]

theorem heap_put {w : World} {g n : Nat} {os : Array Obj} {cur : Array Value} {e : TypeId} {fr : Nat × Nat} (d : Array Value) (hb : w.heap[g]? = some (.cells cur e fr)) :
    (Sort.grow (Sort.putRow id (Sort.ahead w n) g 0 d) os).heap[g]? = some (.cells (Sort.putCells id 0 d cur) e fr) := by
  have hg : g < w.heap.size := (Array.getElem?_eq_some_iff.1 hb).1
  rw [Sort.heap_grow_old _ _ (by simpa using hg)]
  simp [Sort.putRow, Sort.mapBlock, Sort.ahead, Array.getElem?_modify, hb, Sort.onCells]

theorem take_put (cur d : Array Value) (h : d.size ≤ cur.size) : (Sort.putCells id 0 d cur).toList.take d.size = d.toList := by
  apply List.ext_getElem?
  intro j
  by_cases hj : j < d.size
  · rw [List.getElem?_take_of_lt hj, Array.getElem?_toList]
    simp [Sort.putCells, hj, show j < cur.size by omega]
  · rw [List.getElem?_take_eq_none (by omega), List.getElem?_eq_none (by simp; omega)]

theorem swo_pull {α β : Type} [Inhabited α] [Inhabited β] {lt : β → β → Bool} (h : Sort.SWO lt) (f : α → β) : Sort.SWO fun x y => lt (f x) (f y) :=
  ⟨fun _ => h.irrefl _, fun _ _ _ => h.trans _ _ _, fun _ _ _ => h.ntrans _ _ _⟩

variable {β : Type} {k : Nat} {ok : List Value → β → Prop}

theorem get_flat {α : Type} [Inhabited α] {enc : α → List Value} (hk : ∀ x, (enc x).length = k) (d : Array α) (i j : Nat) (hi : i < d.size) (hj : j < k) :
    (flatK enc k d)[i * k + j]? = (enc d[i]!)[j]? := by
  have h1 : i * k + j < d.size * k := by
    have := Nat.mul_le_mul_right k (show i + 1 ≤ d.size from hi); rw [Nat.add_mul, Nat.one_mul] at this; omega
  have h2 := get_flatK enc k d _ h1
  have e1 : (i * k + j) / k = i := (blk_iff k i _ (by omega)).1 ⟨by omega, by omega⟩
  have e2 : (i * k + j) % k = j := by rw [Nat.mod_eq_sub_div_mul, e1]; omega
  rw [e1, e2] at h2
  rw [Array.getElem?_eq_getElem (by simpa using h1), List.getElem?_eq_getElem (by rw [hk]; exact hj)]
  rw [getElem!_pos (flatK enc k d) _ (by simpa using h1)] at h2
  rw [h2, getElem!_pos _ _ (by rw [hk]; exact hj)]

theorem Vs.pair {G : Gh} {w : World} {vs : Array Value} {a b : D} (h : Vs G w vs [a, b]) : ∃ x y, vs = #[x, y] ∧ V G w x a ∧ V G w y b := by
  obtain ⟨l⟩ := vs
  obtain ⟨h1, h2⟩ := h
  have h1' : l.length = 2 := h1
  match l, h1' with
  | [x, y], _ => exact ⟨x, y, rfl, h2 0 x a rfl rfl, h2 1 y b rfl rfl⟩

theorem acalls_sort {E : Ctx} {f cmp : FuncId} {encB : β → D} {t : TypeId} {ρ : Ren} (L : SlLaysF0.n6 E.P ρ) (hf : ρ.f 6 = f) (ht : ρ.t 24 = t) (hcall : ∀ xs w, (callFunc f xs).run E.P w = .ok (.enter f xs) w)
    (hag : aggOf E.P t = some true) (hsz : szOf E.P t = some k) (hk0 : 0 < k) (henc : ∀ b, (encB b).cells.length = k ∧ (encB b).cells.all D.one = true)
    (hok : ∀ G w vs b, Vs G w vs (encB b).cells → ok vs.toList b) {cf : β → β → Int} [Inhabited β] (hO : Sort.SWO (ltOf cf)) (hcmp : CmpAt E.P cmp β k ok cf) (ecmp : ∀ xs w, (callFunc cmp xs).run E.P w = .ok (.enter cmp xs) w)
    {l l' : List β} (hlen : l.length < 4611686018427387904) (huniq : ∀ l2 : List β, l2.Perm l → l2.Pairwise (fun a b => ltOf cf b a = false) → l2 = l') (n : Nm) (g d : Nat) :
    ACalls E f [.own n l.length, .func (.func cmp) [] []] [(n, .arr t k (l.map encB))] g d (.tup []) [(n, .arr t k (l'.map encB))] where
  call := hcall
  run w0 hA G w vs hw hvs ho hfr := by
    obtain ⟨v, hρ, ⟨xs, hown, hfl⟩, hnF⟩ := ho.ob n (.arr t k (l.map encB)) (by simp [get])
    -- the arguments
    have hv2 : ∃ cap a, vs = #[.slice a l.length cap, .func (.func cmp) #[] #[]] ∧ v = .slice a l.length cap := by
      obtain ⟨a0, a1, rfl, h0, h3⟩ := hvs.pair
      cases h0 with
      | own h0 =>
        rename_i a cap
        cases h3 with
        | @func _ fs cs _ _ e1 e2 =>
          have e3 : fs = #[] := by simpa using e1
          have e4 : cs = #[] := by simpa using e2
          subst e3 e4
          exact ⟨cap, a, rfl, by rw [hρ] at h0; exact Option.some.inj h0⟩
    obtain ⟨cap, a, rfl, rfl⟩ := hv2
    have fin0 : ∀ w', w' = w → l = l' → ∃ v G', Ending.returned (.tuple #[]) = .returned v ∧ WF w0 G' w' ∧ V G' w' v (.tup []) ∧ Objs w0 G' w' (get [(n, .arr t k (l'.map encB))]) ∧ Step (rsv g (some d)) G w (get [(n, .arr t k (l.map encB))]) G' w' (get [(n, .arr t k (l'.map encB))]) := by
      rintro w' rfl rfl
      exact ⟨_, G, rfl, hw, .tup rfl (fun i c d h => by simp at h), ho, .refl _ _ _ _⟩
    by_cases hl0 : l.length = 0
    · have hl : l = [] := List.length_eq_zero_iff.1 hl0
      subst hl
      have := huniq [] (List.Perm.refl _) .nil
      subst this
      refine ((AnyF.slices_SortFunc_none L a cap (.func (.func cmp) #[] #[]) w).mono ?_ : Calls E.P (ρ.f 6) _ w _) |> fun h => by rw [hf] at h; exact h
      rintro e w' ⟨rfl, rfl⟩
      exact fin0 _ rfl rfl
    · rcases hown.2 with ⟨_, hc⟩ | ⟨g0, cap', cur, hc, hb0, hh, hnc, hcm, hcs, htake⟩
      · exact absurd (by simpa using hc) hl0
      · have hll : (l.map encB).length = l.length := by simp
        rw [hll] at hnc htake hown hc
        cases hc
        have hk1 : l.length * k ≤ cap * k := Nat.mul_le_mul_right k hnc
        -- the elements
        have hel : ∀ i : Fin l.length, ∃ c : Cell β k ok, c.tag = l[i] ∧ c.vs = (cur.toList.drop (i * k)).take k ∧ Vs G w c.vs.toArray (encB l[i]).cells := by
          intro i
          have hi : (i : Nat) * k + k ≤ l.length * k := by
            have := Nat.mul_le_mul_right k (show (i : Nat) + 1 ≤ l.length from i.2); rw [Nat.add_mul, Nat.one_mul] at this; exact this
          obtain ⟨_, hrow⟩ := hfl i (encB l[i]) (by simp)
          have hvl : ((cur.toList.drop (i * k)).take k).length = k := by simp; omega
          have hget : ∀ j, j < k → ((cur.toList.drop (i * k)).take k)[j]? = xs[(i : Nat) * k + j]? := by
            intro j hj
            rw [← htake, List.getElem?_take_of_lt hj, List.getElem?_drop, List.getElem?_take_of_lt (by omega)]
          have hV : Vs G w ((cur.toList.drop (i * k)).take k).toArray (encB l[i]).cells := by
            refine ⟨by simp only [List.size_toArray, hvl, (henc _).1], fun j c d' hc' hd' => ?_⟩
            have hj : j < k := by
              have := (List.getElem?_eq_some_iff.1 hd').1
              rw [(henc _).1] at this; exact this
            obtain ⟨x, hx, hvx⟩ := hrow j d' hd'
            rw [List.getElem?_toArray, hget j hj, hx] at hc'
            cases hc'
            exact hvx
          refine ⟨⟨_, l[i], hvl, fun v hv => ?_, by simpa using hok G w _ _ hV⟩, rfl, rfl, hV⟩
          obtain ⟨j, hj, rfl⟩ := List.mem_iff_getElem.1 hv
          have hj' : j < (encB l[i]).cells.length := by rw [(henc _).1]; omega
          exact (hV.2 j _ _ (by rw [List.getElem?_toArray]; exact List.getElem?_eq_getElem hj) (List.getElem?_eq_getElem hj')).one (List.all_eq_true.1 (henc l[i]).2 _ (List.getElem_mem hj'))
        have hch := Classical.axiomOfChoice hel
        obtain ⟨F, hF⟩ := hch
        letI : Inhabited (Cell β k ok) := ⟨F ⟨0, by omega⟩⟩
        let d0 : Array (Cell β k ok) := Array.ofFn F
        have hd0 : d0.size = l.length := by simp [d0]
        have hd0g : ∀ i (h : i < l.length), d0[i]! = F ⟨i, h⟩ := fun i h => by
          rw [getElem!_pos d0 i (by rw [hd0]; exact h)]
          simp [d0]
        have hH : HoldsK Cell.vs k w g0 0 d0 := by
          intro j hj
          have hj' : j < d0.size * k := by simpa using hj
          have hjk : j % k < k := Nat.mod_lt _ hk0
          have hji : j / k < l.length := by rw [← hd0]; exact Nat.div_lt_of_lt_mul (by rw [Nat.mul_comm]; exact hj')
          refine ⟨?_, by simp [World.frozen?, hh]⟩
          have e : j / k * k + j % k = j := Nat.div_add_mod' j k
          have h1 := get_flat (k := k) (enc := Cell.vs) (fun x => x.len) d0 (j / k) (j % k) (by rw [hd0]; exact hji) hjk
          rw [e] at h1
          rw [getElem!_pos _ j (by simpa using hj')]
          simp only [World.cell?, hh, Nat.zero_add, Option.isSome_none, Bool.false_eq_true, if_false, id]
          rw [← Array.getElem?_eq_getElem, h1, hd0g _ hji, (hF ⟨j / k, hji⟩).2.1, List.getElem?_take_of_lt hjk, List.getElem?_drop]
          simp only [e, Array.getElem?_toList]
        have hOα : Sort.SWO (ltOf fun x y : Cell β k ok => cf x.tag y.tag) := swo_pull hO Cell.tag
        have hblk : g0 < w.heap.size := (Array.getElem?_eq_some_iff.1 hh).1
        have hc := AnyQ.slices_SortFunc L k (fun w => by rw [ht]; exact run_isAgg hag) (fun w => by rw [ht]; exact run_sizeOf hsz) Cell.vs (fun x => x.len) (fun x => x.one) (fun x y => cf x.tag y.tag) hOα cmp #[] g0 0 cap d0 w ecmp
          (fun m os dk hdk x y => by simpa using hcmp x y _) hH hblk (by rw [hd0]; exact hlen)
        rw [hf, hd0] at hc
        refine hc.mono ?_
        rintro e w' ⟨rfl, d', m, os, ⟨hps, _, hperm⟩, hsort, rfl⟩
        have hd's : d'.size = l.length := hps.trans hd0
        have htag : (d'.toList.map Cell.tag) = l' := by
          refine huniq _ ?_ ?_
          · have e1 : (d0.extract 0 l.length).toList = d0.toList := by simp [← hd0]
            have e2 : (d'.extract 0 l.length).toList = d'.toList := by simp [← hd's]
            rw [e1, e2] at hperm
            have := hperm.map Cell.tag
            refine this.trans (List.Perm.of_eq ?_)
            apply List.ext_getElem?
            intro i
            by_cases hi : i < l.length
            · simp [d0, hi, (hF ⟨i, hi⟩).1]
            · rw [List.getElem?_eq_none (by simp [d0]; omega), List.getElem?_eq_none (by omega)]
          · rw [List.pairwise_iff_getElem]
            intro i j hi hj hij
            have hi' : i < d'.size := by simpa using hi
            have hj' : j < d'.size := by simpa using hj
            have := hsort i j (Nat.zero_le _) hij (by omega)
            rw [getElem!_pos d' i hi', getElem!_pos d' j hj'] at this
            simpa [ltOf] using this
        have hmem : ∀ i, i < l.length → ∃ j : Fin l.length, d'[i]! = F j := by
          intro i hi
          have e1 : (d0.extract 0 l.length).toList = d0.toList := by simp [← hd0]
          have e2 : (d'.extract 0 l.length).toList = d'.toList := by simp [← hd's]
          rw [e1, e2] at hperm
          have h1 : d'[i]! ∈ d'.toList := by
            rw [getElem!_pos d' i (by omega)]
            simp
          have h2 := hperm.mem_iff.1 h1
          obtain ⟨j, hj⟩ := (List.mem_ofFn).1 (by simpa [d0] using h2)
          exact ⟨j, hj.symm⟩
        have hl' : l'.length = l.length := by rw [← htag]; simp [hd's]
        have hgr : Gr w (sortWorldK Cell.vs k w g0 0 m d' os) (blk (.slice (some ⟨g0, 0, none⟩) l.length cap)) := grownBy_sput _
        have hflat : (flatK Cell.vs k d').size = l.length * k := by simp [hd's]
        have hnF0 : ¬ G.F g0 := hnF g0 rfl
        have hov : OV w0 G (sortWorldK Cell.vs k w g0 0 m d' os) (.slice (some ⟨g0, 0, none⟩) l.length cap) (.arr t k (l'.map encB)) := by
          refine ⟨(flatK Cell.vs k d').toList, ⟨by simp [hd's, hl'], .inr ⟨g0, cap, _, by simp [hl'], hb0, heap_put _ hh, by simpa [hl'] using hnc, hcm, by simp [Sort.putCells, hcs], ?_⟩⟩, ?_⟩
          · have := take_put cur (flatK Cell.vs k d') (by rw [hflat, hcs]; exact hk1)
            rw [hflat] at this
            simpa [hl'] using this
          · intro i r hr
            have hi : i < l.length := by
              have := (List.getElem?_eq_some_iff.1 hr).1
              simpa [hl'] using this
            have hr' : r = encB d'[i]!.tag := by
              rw [← htag] at hr
              have hi' : i < d'.size := by omega
              rw [getElem!_pos d' i hi']
              simpa [hi'] using hr.symm
            subst hr'
            refine ⟨(henc _).1, fun j dd hdd => ?_⟩
            have hj : j < k := by
              have := (List.getElem?_eq_some_iff.1 hdd).1
              rw [(henc _).1] at this; exact this
            obtain ⟨jj, hjj⟩ := hmem i hi
            have hVr := (hF jj).2.2
            rw [← (hF jj).1, ← hjj] at hVr
            have hjl : j < d'[i]!.vs.length := by rw [d'[i]!.len]; exact hj
            refine ⟨d'[i]!.vs[j], ?_, ?_⟩
            · rw [Array.getElem?_toList, get_flat (fun x => x.len) d' i j (by omega) hj, List.getElem?_eq_getElem hjl]
            · refine (hVr.2 j _ dd (by simp [hjl]) hdd).mono (fun _ h => h) (fun b hb => hgr.block b (hw.lt b hb) fun e => ?_) (fun _ _ h => h)
              simp only [blk, Option.some.injEq] at e
              exact hnF0 (e ▸ hb)
        obtain ⟨q1, q2, q3⟩ := change_obj hw ho (n := n) (ob := .arr t k (l.map encB)) (by simp [get]) hρ hgr hov
        have hput : Kp.put (get [(n, .arr t k (l.map encB))]) n (.arr t k (l'.map encB)) = get [(n, .arr t k (l'.map encB))] := by
          funext m
          simp only [Kp.put, get]
          split <;> simp
        rw [hput] at q2 q3
        exact ⟨_, G, rfl, q1, .tup rfl (fun i c d h => by simp at h), q2, q3.weaken fun _ _ h => h.elim⟩

end Go.Ab

namespace Go.Ab
open Go.Sort (SWO)

variable {β : Type}

/-- In order: no later one is less than an earlier one. -/
def Ord (lt : β → β → Bool) (l : List β) : Prop := l.Pairwise fun a b => lt b a = false

/-- The list in order (any one; where what is equal is one it is the only one). -/
noncomputable def srt (lt : β → β → Bool) (l : List β) : List β := l.mergeSort fun a b => !lt b a

theorem SWO.total {lt : β → β → Bool} (h : SWO lt) (a b : β) : (!lt b a || !lt a b) = true := by
  cases h1 : lt b a with
  | false => simp
  | true =>
    cases h2 : lt a b with
    | false => simp
    | true => have := h.trans _ _ _ h1 h2; rw [h.irrefl] at this; cases this

theorem srt_perm (lt : β → β → Bool) (l : List β) : (srt lt l).Perm l := List.mergeSort_perm _ _
theorem srt_ord {lt : β → β → Bool} (h : SWO lt) (l : List β) : Ord lt (srt lt l) := by
  have := List.pairwise_mergeSort (le := fun a b => !lt b a) (fun a b c h1 h2 => by
    simp only [Bool.not_eq_true'] at h1 h2 ⊢
    exact h.ntrans _ _ _ h2 h1) (fun a b => SWO.total h a b) l
  exact this.imp fun h => by simpa using h

theorem srt_uniq {lt : β → β → Bool} (h : SWO lt) {l l2 : List β} (hd : ∀ a ∈ l, ∀ b ∈ l, lt a b = false → lt b a = false → a = b) (hp : l2.Perm l) (ho : Ord lt l2) : l2 = srt lt l :=
  List.Perm.eq_of_pairwise (le := fun a b => lt b a = false) (fun a b ha hb h1 h2 => hd a (hp.subset ha) b ((srt_perm lt l).subset hb) h2 h1) ho (srt_ord h l) (hp.trans (srt_perm lt l).symm)

theorem srt_len (lt : β → β → Bool) (l : List β) : (srt lt l).length = l.length := (srt_perm lt l).length_eq
/-! Insertion in place. -/
/-- The first k + 1 are in order, but for the one at n, which may be less than those in front of it. -/
def Mid (lt : β → β → Bool) (l : List β) (k n : Nat) : Prop := ∀ (i j : Nat) a b, i < j → j ≤ k → j ≠ n → l[i]? = some a → l[j]? = some b → lt b a = false
def Upto (lt : β → β → Bool) (l : List β) (k : Nat) : Prop := ∀ (i j : Nat) a b, i < j → j < k → l[i]? = some a → l[j]? = some b → lt b a = false

end Go.Ab
