/- A part of the proof, under no conditions of its own: ZAT. -/
import Derived.Test.YtmmfjicebmeamaaGreatZAS
import Derived.Test.YtmmfjicebmeamaaGreatZAQ
import Derived.Test.YtmmfjicebmeamaaGreatZAR
import Derived.Test.YtmmfjicebmeamaaGreatZAG
import Derived.Test.YtmmfjicebmeamaaGreatZAF
namespace Go.Proofs.T
open Go Go.Ab Go.RowKit

/-! ## The nodes of a program: the walk -/

theorem flatM_take {α β : Type} (f : α → List β) {l : List α} {k : Nat} (h : k < l.length) : (l.take (k + 1)).flatMap f = (l.take k).flatMap f ++ f l[k] := by
  rw [List.take_add_one, List.getElem?_eq_getElem h, List.flatMap_append]
  simp
theorem flatM_le {α β : Type} (f : α → List β) (l : List α) (k : Nat) : ((l.take k).flatMap f).length ≤ (l.flatMap f).length := by
  have := congrArg (fun l => (l.flatMap f).length) (List.take_append_drop k l)
  simp only [List.flatMap_append, List.length_append] at this
  omega
theorem flatM_mem {α β : Type} (f : α → List β) {l : List α} {k : Nat} (h : k < l.length) : ((l.take k).flatMap f).length + (f l[k]).length ≤ (l.flatMap f).length := by
  have h1 := flatM_take f h
  have h2 := flatM_le f l (k + 1)
  rw [h1, List.length_append] at h2
  exact h2
noncomputable def nodesOf (p : Prg) : List Nd := cpU (srt ltNd (ndP p)) (srt ltNd (ndP p)).length
abbrev bxN (a i : Nat) (q : Nat) (R : List Nd) : Sto := [(⟨q, 3, 0⟩, .box 78 [.own ⟨a, i, 0⟩ R.length]), (⟨a, i, 0⟩, .arr 120 3 (R.map encNd))]
set_option maxRecDepth 100000 in
theorem nodesI_calls (p : Prg) (hp : smPr p) (hN : (ndP p).length ≤ 900000) (g d : Nat) : ACalls E 49 [encPr p] [] g d (slNd (nodesOf p)) [] := by
  obtain ⟨⟨k1, k2⟩, k3⟩ := hp
  refine acalls_of_awp (fn := Tryz.f49) (N := 47) Tryz.call49 Tryz.func49 rfl rfl (by simp) ?_
  simp only [go_sem]
  refine awp_seq_k (fun K1 hK1 => ?_)
  refine awp_plain 2 (by kernel_rfl) rfl (fun g0 hg0 => ?_)
  simp only [go_sem]
  refine hK1 _ ?_
  refine awp_seq_k (fun K2 hK2 => ?_)
  refine awp_plain 1 (by kernel_rfl) rfl (fun g1 hg1 => ?_)
  simp only [go_sem]
  refine hK2 _ ?_
  refine awp_seq_k (fun K3 hK3 => ?_)
  refine awp_nil_box ⟨g1, 3, 0⟩ 0 120 3 ?_
  simp only [go_sem]
  intro gn hgn
  have hn : gn ≠ g1 := fresh_g hgn 3 0 (by simp [go_sem])
  have hn0 : gn ≠ g0 := fresh_g hgn 1 0 (by simp [go_sem])
  refine awp_plain 2 (by kernel_rfl) rfl (fun g2 hg2 => ?_)
  simp only [go_sem]
  refine hK3 _ ?_
  refine awp_seq_k (fun K4 hK4 => ?_)
  refine awp_seq_k (fun K5 hK5 => ?_)
  refine awp_plain 4 (by kernel_rfl) rfl (fun g3 hg3 => ?_)
  simp only [go_sem, hn0]
  refine hK5 _ ?_
  refine awp_block ?_
  refine awp_loop (fun m s => ∃ k a i, k ≤ p.decls.length ∧ m = p.decls.length - k ∧ a ≠ g1 ∧ LeT { env := [(3, .ptr ⟨g1, 3, 0⟩ 0), (4, .func (.func 81) [] [.ptr ⟨g1, 3, 0⟩ 0]), (11, slDe p.decls), (12, dN p.decls.length), (13, dN k)], σ := bxN a i g1 ((p.decls.take k).flatMap ndD) } s) p.decls.length ?_ ?_
  · refine ⟨0, gn, 0, Nat.zero_le _, rfl, hn, ⟨leE_spec ?_, subT_of ?_⟩⟩
    · simp only [go_sem]
      all_goals first | exact rfl | exact ⟨rfl, rfl⟩ | trivial
    · simp only [go_sem, List.flatMap_nil, hn, Ne.symm hn, Ne.symm hn0]
      all_goals first | exact rfl | exact ⟨rfl, rfl⟩ | trivial
  · rintro m s ⟨k, a, i, hk, rfl, ha, hle⟩
    refine awp_keepT hle ?_
    clear hle
    refine awp_seq_k (fun K6 hK6 => ?_)
    by_cases hlt : k < p.decls.length
    · have hgm := getM (f := encDe) hlt
      have hde := k2 _ (List.getElem_mem hlt)
      have hnx := flatM_take ndD hlt
      have hbd := flatM_mem ndD hlt
      refine awp_plain 1 (by kernel_rfl) rfl (fun g4 hg4 => ?_)
      simp only [go_sem, hlt]
      refine hK6 _ ?_
      refine awp_seq_k (fun K7 hK7 => ?_)
      refine awp_t rfl ?_
      refine awp_skip ?_
      refine hK7 _ ?_
      refine awp_seq_k (fun K8 hK8 => ?_)
      refine awp_block ?_
      refine awp_seq_k (fun K9 hK9 => ?_)
      generalize p.decls[k] = D at *
      generalize (p.decls.take k).flatMap ndD = R at *
      have hN' : R.length + (ndD D).length ≤ 900000 := Nat.le_trans hbd hN
      have hD : (ndD D).length = D.formals.length + ((D.sigs ++ [D.sig]).flatMap siN).length := by unfold ndD; rw [List.length_append, ndF_len]
      have hds := hde.2.2.2.1.1
      refine awp_plain 4 (by kernel_rfl) rfl (fun g5 hg5 => ?_)
      simp only [go_sem, hgm]
      refine hK9 _ ?_
      refine awp_seq_k (fun K10 hK10 => ?_)
      have hn5_a : g5 ≠ a := fresh_g hg5 i 0 (by simp [go_sem, Ne.symm ha])
      have hn5_g1 : g5 ≠ g1 := fresh_g hg5 3 0 (by simp [go_sem])
      refine awp_ops (by kernel_rfl) rfl (fun g6 hg6 ops6 KR6 hops6 hKR6 => ?_)
      refine aops_eval 5 hops6 ?_
      simp only [go_sem, bxN, Ne.symm hn5_a, Ne.symm hn5_g1]
      refine aops_icall (own := [(⟨g5, 6, 0⟩, .box 48 (deC D))]) (τ := bxN a i g1 R) hops6 rfl rfl rfl (nodes1_calls false D.name D.formals g1 R (by omega)) (CoL.refl _) rfl (fun p hp => ?_) ⟨a, i, ha, rfl⟩ (fun τ2 hI2 hX => ?_)
      · rw [List.mem_singleton.1 hp]
        simp only [go_sem, Ne.symm hn5_a, Ne.symm hn5_g1]
      obtain ⟨a2, i2, ha2, rfl⟩ := hI2
      have hX5 := hX _ List.mem_cons_self
      clear hX
      have hx1 : ¬ (a2 = g5 ∧ i2 = 6) := fun e => by
        obtain ⟨rfl, rfl⟩ := e
        simp [Ab.get, Ne.symm ha2] at hX5
      have hx2 : ¬ (g5 = a2 ∧ 6 = i2) := fun e => hx1 ⟨e.1.symm, e.2.symm⟩
      clear hX5
      refine aops_last 0 hops6 ?_
      simp only [go_sem]
      refine hKR6 _ ?_
      refine hK10 _ ?_
      refine awp_seq_k (fun K11 hK11 => ?_)
      refine awp_anyT 9 [0, 1, 3, 0, 8, 24, 63, 127, 0] (by kernel_rfl) (by kernel_rfl) (by kernel_rfl) rfl (fun g7 hg7 ops7 KR7 hops7 hKR7 => ?_)
      refine qrunT_eval 2 hops7 rfl ?_
      simp only [go_sem, Ne.symm hn5_g1, hx1]
      refine qrunT_pure hops7 rfl rfl rfl (cloneSg_calls D.sigs hds _ _) (CoL.refl _) (by simp [nwOk]) ?_
      refine qrunT_eval 3 hops7 rfl ?_
      simp only [go_sem, Ne.symm hn5_g1, hx1]
      refine qrunT_app hops7 rfl rfl rfl rfl rfl es43 sz46 by46 ze46 rfl (by decide) rfl rfl ?_
      simp only [go_sem]
      first | refine ⟨⟨by omega, by omega⟩, ?_⟩ | skip
      have hn7_g1 : g7 ≠ g1 := fresh_g hg7 3 0 (by simp [go_sem, hn5_g1])
      have hn7_g5 : g7 ≠ g5 := fresh_g hg7 6 0 (by simp [go_sem])
      have hn7_a2 : g7 ≠ a2 := fresh_g hg7 i2 0 (by simp [go_sem, hx2, Ne.symm ha2])
      refine qrunT_last 2 hops7 rfl ?_
      simp only [go_sem]
      refine aops_nil ?_
      refine hKR7 _ ?_
      refine hK11 _ ?_
      refine awp_block ?_
      refine awp_frz ⟨g7, 29, 0⟩ ?_
      simp only [go_sem, Ne.symm hn7_g1, Ne.symm hn7_g5, Ne.symm hn7_a2]
      have hS : (D.sigs.map encSi ++ [.agg (siC D.sig)]) = (D.sigs ++ [D.sig]).map encSi := by simp [encSi]
      have hSd : ∀ s ∈ D.sigs ++ [D.sig], smSi s := fun s hs => by
        rcases List.mem_append.1 hs with h | h
        · exact hde.2.2.2.1.2 s h
        · rw [List.mem_singleton.1 h]; exact hde.2.2.2.2.2.2.1
      have hSl : (D.sigs ++ [D.sig]).length = D.sigs.length + 1 := by simp
      generalize hSS : D.sigs ++ [D.sig] = S at *
      have hRl := ndF_len false D.name D.formals.length
      have hnd : ndD D = ndF false D.name D.formals.length ++ S.flatMap siN := by unfold ndD; rw [hSS]
      generalize ndF false D.name D.formals.length = F at *
      refine awp_loop (fun m s => ∃ j b i, j ≤ S.length ∧ m = S.length - j ∧ b ≠ g1 ∧ LeT { env := [(3, .ptr ⟨g1, 3, 0⟩ 0), (4, .func (.func 81) [] [.ptr ⟨g1, 3, 0⟩ 0]), (11, slDe p.decls), (12, dN p.decls.length), (13, dN k), (29, slSi S), (30, dN S.length), (31, dN j)], σ := bxN b i g1 (R ++ F ++ (S.take j).flatMap siN) } s) S.length ?_ ?_
      · refine ⟨0, a2, i2, Nat.zero_le _, rfl, ha2, ⟨leE_spec ?_, subT_of ?_⟩⟩
        · simp only [go_sem, ← hS, hSl]
          all_goals first | done | exact rfl | exact ⟨rfl, rfl⟩ | trivial
        · simp only [go_sem, List.take_zero, List.flatMap_nil, List.append_nil, hn5_g1, hx2, ha2, Ne.symm ha2]
          all_goals first | done | exact rfl | exact ⟨rfl, rfl⟩ | trivial
      · rintro m s ⟨j, b, i, hj, rfl, hb, hle⟩
        refine awp_keepT hle ?_
        clear hle
        refine awp_seq_k (fun K12 hK12 => ?_)
        by_cases hlj : j < S.length
        · have hgs := getM (f := encSi) hlj
          have hbj := flatM_mem siN hlj
          have hnj := flatM_take siN hlj
          have hsj := hSd _ (List.getElem_mem hlj)
          refine awp_plain 1 (by kernel_rfl) rfl (fun g8 hg8 => ?_)
          simp only [go_sem, hlj]
          refine hK12 _ ?_
          refine awp_seq_k (fun K13 hK13 => ?_)
          refine awp_t rfl ?_
          refine awp_skip ?_
          refine hK13 _ ?_
          refine awp_seq_k (fun K14 hK14 => ?_)
          refine awp_block ?_
          refine awp_seq_k (fun K15 hK15 => ?_)
          generalize S[j] = X at *
          generalize (S.take j).flatMap siN = T at *
          have hXl : (siN X).length = X.formals.length := ndF_len _ _ _
          rw [hnd, List.length_append] at hN'
          have hQl : (R ++ F ++ T).length = R.length + F.length + T.length := by simp only [List.length_append]
          generalize hQ : R ++ F ++ T = Q at hQl ⊢
          refine awp_plain 4 (by kernel_rfl) rfl (fun g9 hg9 => ?_)
          simp only [go_sem, hgs]
          refine hK15 _ ?_
          have hn9_b : g9 ≠ b := fresh_g hg9 i 0 (by simp [go_sem, Ne.symm hb])
          have hn9_g1 : g9 ≠ g1 := fresh_g hg9 3 0 (by simp [go_sem])
          refine awp_ops (by kernel_rfl) rfl (fun g10 hg10 ops10 KR10 hops10 hKR10 => ?_)
          refine aops_eval 5 hops10 ?_
          simp only [go_sem, bxN, Ne.symm hn9_b, Ne.symm hn9_g1]
          refine aops_icall (own := [(⟨g9, 8, 0⟩, .box 46 (siC X))]) (τ := bxN b i g1 Q) hops10 rfl rfl rfl (nodes1_calls true X.name X.formals g1 Q (by omega)) (CoL.refl _) rfl (fun p hp => ?_) ⟨b, i, hb, rfl⟩ (fun τ3 hI3 hX3 => ?_)
          · rw [List.mem_singleton.1 hp]
            simp only [go_sem, Ne.symm hn9_b, Ne.symm hn9_g1]
          obtain ⟨a3, i3, ha3, rfl⟩ := hI3
          have hX9 := hX3 _ List.mem_cons_self
          clear hX3
          have hy1 : ¬ (a3 = g9 ∧ i3 = 8) := fun e => by
            obtain ⟨rfl, rfl⟩ := e
            simp [Ab.get, Ne.symm ha3] at hX9
          have hy2 : ¬ (g9 = a3 ∧ 8 = i3) := fun e => hy1 ⟨e.1.symm, e.2.symm⟩
          clear hX9
          refine aops_last 0 hops10 ?_
          simp only [go_sem]
          refine hKR10 _ ?_
          refine hK14 _ ?_
          refine awp_plain 2 (by kernel_rfl) rfl (fun g11 hg11 => ?_)
          simp only [go_sem]
          try simp (disch := omega) only [wrapN]
          refine ⟨_, ?_, j + 1, a3, i3, hlj, rfl, ha3, ⟨leE_spec ?_, subT_of ?_⟩⟩
          · omega
          · simp only [go_sem]
            all_goals first | done | exact rfl | exact ⟨rfl, rfl⟩ | trivial | omega
          · simp only [go_sem, hnj, ← List.append_assoc, hQ, show ndF true X.name X.formals.length = siN X from rfl, hn9_g1, hy2, ha3, Ne.symm ha3]
            all_goals first | done | exact rfl | exact ⟨rfl, rfl⟩ | trivial | omega
        · have : j = S.length := by omega
          subst this
          rw [List.take_length]
          refine awp_plain 1 (by kernel_rfl) rfl (fun g8 hg8 => ?_)
          simp only [go_sem, hlj]
          refine hK12 _ ?_
          refine awp_seq_k (fun K16 hK16 => ?_)
          refine awp_f rfl ?_
          refine awp_exit ?_
          refine hK8 _ ?_
          refine awp_plain 2 (by kernel_rfl) rfl (fun g12 hg12 => ?_)
          simp only [go_sem]
          try simp (disch := omega) only [wrapN]
          refine ⟨_, ?_, k + 1, b, i, hlt, rfl, hb, ⟨leE_spec ?_, subT_of ?_⟩⟩
          · omega
          · simp only [go_sem]
            all_goals first | done | exact rfl | exact ⟨rfl, rfl⟩ | trivial | omega
          · simp only [go_sem, hnx, hnd, ← List.append_assoc, hb, Ne.symm hb]
            all_goals first | done | exact rfl | exact ⟨rfl, rfl⟩ | trivial | omega
    · have : k = p.decls.length := by omega
      subst this
      have hfl : (p.decls.take p.decls.length).flatMap ndD = ndP p := by rw [List.take_length]; rfl
      rw [hfl]
      have hsl := srt_len ltNd (ndP p)
      refine awp_plain 1 (by kernel_rfl) rfl (fun g4 hg4 => ?_)
      simp only [go_sem, hlt]
      refine hK6 _ ?_
      refine awp_seq_k (fun K17 hK17 => ?_)
      refine awp_f rfl ?_
      refine awp_exit ?_
      refine hK4 _ ?_
      refine awp_seq_k (fun K18 hK18 => ?_)
      refine awp_ops (by kernel_rfl) rfl (fun g13 hg13 ops13 KR13 hops13 hKR13 => ?_)
      refine aops_eval 1 hops13 ?_
      simp only [go_sem, bxN, ha]
      refine aops_obj hops13 rfl rfl rfl (sortNd_calls (ndP p) (by omega) ⟨a, i, 0⟩ _ _) (CoL.refl _) (by simp [go_sem, Ne.symm ha]) ?_
      refine aops_last 0 hops13 ?_
      simp only [go_sem, Ne.symm ha]
      refine hKR13 _ ?_
      refine hK18 _ ?_
      refine awp_seq_k (fun K19 hK19 => ?_)
      refine awp_ops (by kernel_rfl) rfl (fun g14 hg14 ops14 KR14 hops14 hKR14 => ?_)
      refine aops_eval 1 hops14 ?_
      simp only [go_sem, ha]
      refine aops_call hops14 rfl rfl rfl (hsl ▸ compact_calls (srt ltNd (ndP p)) (by omega) ⟨a, i, 0⟩ _ _) (CoL.refl _) (by simp [go_sem]) ?_
      refine aops_last 1 hops14 ?_
      simp only [go_sem, Ne.symm ha]
      refine hKR14 _ ?_
      refine hK19 _ ?_
      refine awp_ret ?_
      refine ends_ev rfl ?_
      simp only [go_sem]
      exact Co.of_eq (by unfold nodesOf; rw [hsl])
end Go.Proofs.T


namespace Go.Proofs.T
open Go Go.Ab Go.RowKit

/-! ## Sorting nothing -/

theorem len_0 (g d : Nat) : ACalls E 120 [.val (.int .u64 0)] [] g d (dI 0) [] := by
  refine acalls_of_awp (fn := Tryz.f120) (N := 8) Tryz.call120 Tryz.func120 rfl rfl (by simp) ?_
  simp only [go_sem]
  refine awp_seq_k (fun K1 hK1 => ?_)
  refine awp_plain 1 (by kernel_rfl) rfl (fun g0 hg0 => ?_)
  simp only [go_sem]
  refine hK1 _ ?_
  refine awp_seq_k (fun K2 hK2 => ?_)
  refine awp_f rfl ?_
  refine awp_skip ?_
  refine hK2 _ ?_
  refine awp_seq_k (fun K3 hK3 => ?_)
  refine awp_ops (by kernel_rfl) rfl (fun g2 hg2 ops2 KR2 hops2 hKR2 => ?_)
  refine aops_eval 1 hops2 ?_
  simp only [go_sem]
  refine aops_pure hops2 rfl rfl rfl (len64_0 _ _) (CoL.refl _) ?_
  refine aops_last 1 hops2 ?_
  simp only [go_sem]
  refine hKR2 _ ?_
  refine hK3 _ ?_
  refine awp_ret ?_
  refine ends_ev rfl ?_
  simp only [go_sem]
  exact Co.refl _
set_option maxRecDepth 100000 in
theorem insertion_none (cmp : D) (g d : Nat) : ACalls E 145 [nilS, dI 0, dI 0, cmp] [] g d (.tup []) [] := by
  have a01 : (0 : Int) + 1 = 1 := rfl
  have w1 : IntKind.i64.wrap 1 = 1 := by decide
  have l10 : ((1 : Int) < 0) = False := eq_false (by decide)
  refine acalls_of_awp (fn := Tryz.f145) (N := 53) Tryz.call145 Tryz.func145 rfl rfl (by simp) ?_
  simp only [go_sem]
  refine awp_seq_k (fun K1 hK1 => ?_)
  refine awp_plain 3 (by kernel_rfl) rfl (fun g0 hg0 => ?_)
  simp only [go_sem, a01, w1]
  try simp (disch := omega) only [wrapN, wrapB, Int.tdiv_eq_ediv_of_nonneg, Int.tmod_eq_emod_of_nonneg]
  refine hK1 _ ?_
  refine awp_block ?_
  refine awp_loop (fun m s => m = 0 ∧ Le { env := [(2, dI 0), (8, dI 1)], σ := [] } s) 0 ?_ ?_
  · refine ⟨rfl, le_of ?_⟩
    simp only [go_sem]
    all_goals first | exact rfl | exact ⟨rfl, rfl⟩ | trivial
  · rintro m s ⟨rfl, hle⟩
    refine awp_keep hle ?_
    clear hle
    refine awp_seq_k (fun K2 hK2 => ?_)
    refine awp_seq_k (fun K3 hK3 => ?_)
    refine awp_plain 3 (by kernel_rfl) rfl (fun g1 hg1 => ?_)
    simp only [go_sem, l10, decide_false]
    refine hK3 _ ?_
    refine awp_f rfl ?_
    refine awp_exit ?_
    refine ends_ev rfl ?_
    simp only [go_sem]
    exact Co.refl _
set_option maxRecDepth 100000 in
theorem pdq_none (x cmp : D) (g d : Nat) : ACalls E 119 [nilS, dI 0, dI 0, x, cmp] [] g d (.tup []) [] := by
  have s00 : (0 : Int) - 0 = 0 := rfl
  have w0' : IntKind.i64.wrap 0 = 0 := by decide
  have l12 : ((0 : Int) ≤ 12) = True := eq_true (by decide)
  refine acalls_of_awp (fn := Tryz.f119) (N := 148) Tryz.call119 Tryz.func119 rfl rfl (by simp) ?_
  simp only [go_sem]
  refine awp_seq_k (fun K1 hK1 => ?_)
  refine awp_plain 1 (by kernel_rfl) rfl (fun g0 hg0 => ?_)
  simp only [go_sem]
  refine hK1 _ ?_
  refine awp_seq_k (fun K2 hK2 => ?_)
  refine awp_plain 1 (by kernel_rfl) rfl (fun g1 hg1 => ?_)
  simp only [go_sem]
  refine hK2 _ ?_
  refine awp_block ?_
  refine awp_loop (fun m s => m = 0 ∧ Le { env := [(0, nilS), (1, dI 0), (2, dI 0), (4, cmp)], σ := [] } s) 0 ?_ ?_
  · refine ⟨rfl, le_of ?_⟩
    simp only [go_sem]
    all_goals first | exact rfl | exact ⟨rfl, rfl⟩ | trivial
  · rintro m s ⟨rfl, hle⟩
    refine awp_keep hle ?_
    clear hle
    refine awp_block ?_
    refine awp_seq_k (fun K3 hK3 => ?_)
    refine awp_plain 4 (by kernel_rfl) rfl (fun g2 hg2 => ?_)
    simp only [go_sem, s00, w0']
    try simp (disch := omega) only [wrapN, wrapB, Int.tdiv_eq_ediv_of_nonneg, Int.tmod_eq_emod_of_nonneg]
    refine hK3 _ ?_
    refine awp_seq_k (fun K4 hK4 => ?_)
    refine awp_seq_k (fun K5 hK5 => ?_)
    refine awp_plain 2 (by kernel_rfl) rfl (fun g3 hg3 => ?_)
    simp only [go_sem, l12, decide_true]
    refine hK5 _ ?_
    refine awp_t rfl ?_
    refine awp_seq_k (fun K6 hK6 => ?_)
    refine awp_ops (by kernel_rfl) rfl (fun g4 hg4 ops4 KR4 hops4 hKR4 => ?_)
    refine aops_eval 4 hops4 ?_
    simp only [go_sem]
    refine aops_pure hops4 rfl rfl rfl (insertion_none cmp _ _) (CoL.refl _) ?_
    refine aops_last 0 hops4 ?_
    simp only [go_sem]
    refine hKR4 _ ?_
    refine hK6 _ ?_
    refine awp_ret ?_
    refine ends_ev rfl ?_
    simp only [go_sem]
    exact Co.refl _
theorem sort_none (cmp : D) (g d : Nat) : ACalls E 83 [nilS, cmp] [] g d (.tup []) [] := by
  have wu : IntKind.u64.wrap 0 = 0 := by decide
  have c0 : ((0 : Nat) : Int) = 0 := rfl
  refine acalls_of_awp (fn := Tryz.f83) (N := 14) Tryz.call83 Tryz.func83 rfl rfl (by simp) ?_
  simp only [go_sem]
  refine awp_seq_k (fun K1 hK1 => ?_)
  refine awp_plain 3 (by kernel_rfl) rfl (fun g0 hg0 => ?_)
  simp only [go_sem, c0]
  refine hK1 _ ?_
  refine awp_ops (by kernel_rfl) rfl (fun g1 hg1 ops1 KR1 hops1 hKR1 => ?_)
  refine aops_eval 4 hops1 ?_
  simp only [go_sem, wu]
  try simp (disch := omega) only [wrapN, wrapB, Int.tdiv_eq_ediv_of_nonneg, Int.tmod_eq_emod_of_nonneg]
  refine aops_pure hops1 rfl rfl rfl (len_0 _ _) (CoL.refl _) ?_
  refine aops_eval 1 hops1 ?_
  simp only [go_sem]
  refine aops_pure hops1 rfl rfl rfl (pdq_none _ cmp _ _) (CoL.refl _) ?_
  refine aops_last 0 hops1 ?_
  simp only [go_sem]
  refine hKR1 _ ?_
  refine ends_ev rfl ?_
  simp only [go_sem]
  exact Co.refl _
theorem compact_none (g d : Nat) : ACalls E 85 [nilS] [] g d nilS [] := by
  refine acalls_of_awp (fn := Tryz.f85) (N := 61) Tryz.call85 Tryz.func85 rfl rfl (by simp) ?_
  simp only [go_sem]
  refine awp_seq_k (fun K1 hK1 => ?_)
  refine awp_plain 1 (by kernel_rfl) rfl (fun g0 hg0 => ?_)
  simp only [go_sem]
  refine hK1 _ ?_
  refine awp_seq_k (fun K2 hK2 => ?_)
  refine awp_seq_k (fun K3 hK3 => ?_)
  refine awp_plain 3 (by kernel_rfl) rfl (fun g1 hg1 => ?_)
  simp only [go_sem, show (((0 : Nat) : Int) < 2) = True from eq_true (by decide), decide_true]
  refine hK3 _ ?_
  refine awp_t rfl ?_
  refine awp_seq_k (fun K4 hK4 => ?_)
  refine awp_plain 2 (by kernel_rfl) rfl (fun g2 hg2 => ?_)
  simp only [go_sem]
  refine hK4 _ ?_
  refine awp_ret ?_
  refine ends_ev rfl ?_
  simp only [go_sem]
  exact Co.refl _
end Go.Proofs.T


namespace Go.Proofs.T
open Go Go.Ab Go.RowKit

abbrev sgZ : D := .agg [sE, nilS, nilS, sE, nilS, dI 0, dI 0]
theorem sg_get (k : Nat) (h : k < 1) : ([sgZ] : List D)[k]? = some sgZ := by
  match k, h with
  | 0, _ => rfl
set_option maxRecDepth 100000 in
theorem nodes_p0 (g d : Nat) : ACalls E 49 [.agg p0c] [] g d nilS [] := by
  have lt01 : (((0 : Nat) : Int) < ((1 : Nat) : Int)) = True := eq_true (by decide)
  have lt11 : (((1 : Nat) : Int) < ((1 : Nat) : Int)) = False := eq_false (by decide)
  refine acalls_of_awp (fn := Tryz.f49) (N := 47) Tryz.call49 Tryz.func49 rfl rfl (by simp) ?_
  simp only [go_sem]
  refine awp_seq_k (fun K1 hK1 => ?_)
  refine awp_plain 2 (by kernel_rfl) rfl (fun g0 hg0 => ?_)
  simp only [go_sem]
  refine hK1 _ ?_
  refine awp_seq_k (fun K2 hK2 => ?_)
  refine awp_plain 1 (by kernel_rfl) rfl (fun g1 hg1 => ?_)
  simp only [go_sem]
  refine hK2 _ ?_
  refine awp_seq_k (fun K3 hK3 => ?_)
  refine awp_plain 2 (by kernel_rfl) rfl (fun g2 hg2 => ?_)
  simp only [go_sem]
  refine hK3 _ ?_
  refine awp_seq_k (fun K4 hK4 => ?_)
  refine awp_seq_k (fun K5 hK5 => ?_)
  refine awp_plain 4 (by kernel_rfl) rfl (fun g3 hg3 => ?_)
  simp only [go_sem]
  refine hK5 _ ?_
  refine awp_block ?_
  refine awp_loop (fun m s => ∃ k, k ≤ 1 ∧ m = 1 - k ∧ Le { env := [(3, .ptr ⟨g1, 3, 0⟩ 0), (4, .func (.func 81) [] [.ptr ⟨g1, 3, 0⟩ 0]), (11, .sl true [.agg dTc]), (12, dN 1), (13, dN k)], σ := [(⟨g1, 3, 0⟩, .box 78 [nilS])] } s) 1 ?_ ?_
  · refine ⟨0, Nat.zero_le _, rfl, le_of ?_⟩
    simp only [go_sem]
    all_goals first | exact rfl | exact ⟨rfl, rfl⟩ | trivial
  · rintro m s ⟨k, hk, rfl, hle⟩
    refine awp_keep hle ?_
    clear hle
    refine awp_seq_k (fun K6 hK6 => ?_)
    by_cases hlt : k < 1
    · obtain rfl : k = 0 := by omega
      refine awp_plain 1 (by kernel_rfl) rfl (fun g4 hg4 => ?_)
      simp only [go_sem, lt01, decide_true]
      refine hK6 _ ?_
      refine awp_seq_k (fun K7 hK7 => ?_)
      refine awp_t rfl ?_
      refine awp_skip ?_
      refine hK7 _ ?_
      refine awp_seq_k (fun K8 hK8 => ?_)
      refine awp_block ?_
      refine awp_seq_k (fun K9 hK9 => ?_)
      refine awp_plain 4 (by kernel_rfl) rfl (fun g5 hg5 => ?_)
      simp only [go_sem, one_get 0 (by decide)]
      refine hK9 _ ?_
      refine awp_seq_k (fun K10 hK10 => ?_)
      refine awp_ops (by kernel_rfl) rfl (fun g6 hg6 ops6 KR6 hops6 hKR6 => ?_)
      refine aops_eval 5 hops6 ?_
      simp only [go_sem]
      refine aops_pure hops6 rfl rfl rfl (nodes1_none _ _ _ _ _) (CoL.refl _) ?_
      refine aops_last 0 hops6 ?_
      simp only [go_sem]
      refine hKR6 _ ?_
      refine hK10 _ ?_
      refine awp_seq_k (fun K11 hK11 => ?_)
      refine awp_anyT 9 [0, 1, 3, 0, 8, 24, 63, 127, 0] (by kernel_rfl) (by kernel_rfl) (by kernel_rfl) rfl (fun g7 hg7 ops7 KR7 hops7 hKR7 => ?_)
      refine qrunT_eval 2 hops7 rfl ?_
      simp only [go_sem]
      refine qrunT_pure hops7 rfl rfl rfl (cloneSig_none _ _) (CoL.refl _) (by simp [nwOk]) ?_
      refine qrunT_eval 3 hops7 rfl ?_
      simp only [go_sem]
      refine qrunT_app hops7 rfl rfl rfl rfl rfl es43 sz46 by46 ze46 rfl (by decide) rfl rfl ?_
      simp only [go_sem]
      first | refine ⟨⟨by omega, by omega⟩, ?_⟩ | skip
      refine qrunT_last 2 hops7 rfl ?_
      simp only [go_sem]
      refine aops_nil ?_
      refine hKR7 _ ?_
      refine hK11 _ ?_
      refine awp_block ?_
      refine awp_frz ⟨g7, 29, 0⟩ ?_
      simp only [go_sem]
      refine awp_loop (fun m s => ∃ k, k ≤ 1 ∧ m = 1 - k ∧ Le { env := [(3, .ptr ⟨g1, 3, 0⟩ 0), (4, .func (.func 81) [] [.ptr ⟨g1, 3, 0⟩ 0]), (11, .sl true [.agg dTc]), (12, dN 1), (13, dN 0), (29, .sl false [sgZ]), (30, dN 1), (31, dN k)], σ := [(⟨g1, 3, 0⟩, .box 78 [nilS])] } s) 1 ?_ ?_
      · refine ⟨0, Nat.zero_le _, rfl, le_of ?_⟩
        simp only [go_sem]
        all_goals first | exact rfl | exact ⟨rfl, rfl⟩ | trivial
      · rintro m s ⟨k, hk, rfl, hle⟩
        refine awp_keep hle ?_
        clear hle
        refine awp_seq_k (fun K12 hK12 => ?_)
        by_cases hlt : k < 1
        · obtain rfl : k = 0 := by omega
          refine awp_plain 1 (by kernel_rfl) rfl (fun g8 hg8 => ?_)
          simp only [go_sem, lt01, decide_true]
          refine hK12 _ ?_
          refine awp_seq_k (fun K13 hK13 => ?_)
          refine awp_t rfl ?_
          refine awp_skip ?_
          refine hK13 _ ?_
          refine awp_seq_k (fun K14 hK14 => ?_)
          refine awp_block ?_
          refine awp_seq_k (fun K15 hK15 => ?_)
          refine awp_plain 4 (by kernel_rfl) rfl (fun g9 hg9 => ?_)
          simp only [go_sem, sg_get 0 (by decide)]
          refine hK15 _ ?_
          refine awp_ops (by kernel_rfl) rfl (fun g10 hg10 ops10 KR10 hops10 hKR10 => ?_)
          refine aops_eval 5 hops10 ?_
          simp only [go_sem]
          refine aops_pure hops10 rfl rfl rfl (nodes1_none _ _ _ _ _) (CoL.refl _) ?_
          refine aops_last 0 hops10 ?_
          simp only [go_sem]
          refine hKR10 _ ?_
          refine hK14 _ ?_
          refine awp_plain 2 (by kernel_rfl) rfl (fun g11 hg11 => ?_)
          simp only [go_sem]
          try simp (disch := omega) only [wrapN]
          refine ⟨_, ?_, 1, Nat.le_refl _, rfl, le_of ?_⟩
          · omega
          simp only [go_sem]
          all_goals first | exact rfl | exact ⟨rfl, rfl⟩ | trivial
        · have : k = 1 := by omega
          subst this
          refine awp_plain 1 (by kernel_rfl) rfl (fun g8 hg8 => ?_)
          simp only [go_sem, lt11, decide_false]
          refine hK12 _ ?_
          refine awp_seq_k (fun K16 hK16 => ?_)
          refine awp_f rfl ?_
          refine awp_exit ?_
          refine hK8 _ ?_
          refine awp_plain 2 (by kernel_rfl) rfl (fun g12 hg12 => ?_)
          simp only [go_sem]
          try simp (disch := omega) only [wrapN]
          refine ⟨_, ?_, 1, Nat.le_refl _, rfl, le_of ?_⟩
          · omega
          simp only [go_sem]
          all_goals first | exact rfl | exact ⟨rfl, rfl⟩ | trivial
    · have : k = 1 := by omega
      subst this
      refine awp_plain 1 (by kernel_rfl) rfl (fun g4 hg4 => ?_)
      simp only [go_sem, lt11, decide_false]
      refine hK6 _ ?_
      refine awp_seq_k (fun K17 hK17 => ?_)
      refine awp_f rfl ?_
      refine awp_exit ?_
      refine hK4 _ ?_
      refine awp_seq_k (fun K18 hK18 => ?_)
      refine awp_ops (by kernel_rfl) rfl (fun g13 hg13 ops13 KR13 hops13 hKR13 => ?_)
      refine aops_eval 1 hops13 ?_
      simp only [go_sem]
      refine aops_pure hops13 rfl rfl rfl (sort_none _ _ _) (CoL.refl _) ?_
      refine aops_last 0 hops13 ?_
      simp only [go_sem]
      refine hKR13 _ ?_
      refine hK18 _ ?_
      refine awp_seq_k (fun K19 hK19 => ?_)
      refine awp_ops (by kernel_rfl) rfl (fun g14 hg14 ops14 KR14 hops14 hKR14 => ?_)
      refine aops_eval 1 hops14 ?_
      simp only [go_sem]
      refine aops_pure hops14 rfl rfl rfl (compact_none _ _) (CoL.refl _) ?_
      refine aops_last 1 hops14 ?_
      simp only [go_sem]
      refine hKR14 _ ?_
      refine hK19 _ ?_
      refine awp_ret ?_
      refine ends_ev rfl ?_
      simp only [go_sem]
      exact Co.refl _
end Go.Proofs.T


namespace Go.Proofs.T
open Go Go.Ab Go.RowKit

theorem m12 : mulS 1 2 = 2 := by decide
theorem in1 : inR 1 := by unfold inR; omega
theorem in2 : inR 2 := by unfold inR; omega
theorem in0 : inR 0 := by unfold inR; omega
theorem height_p0 (g d : Nat) : ACalls E 23 [.agg p0c, .agg (nC 1 (.fmap ksS []))] [] g d (dI 2) [] := by
  have c0 : ((0 : Nat) : Int) + 2 = 2 := rfl
  have w2 : IntKind.i64.wrap 2 = 2 := by decide
  refine acalls_of_awp (fn := Tryz.f23) (N := 12) Tryz.call23 Tryz.func23 rfl rfl (by simp) ?_
  simp only [go_sem]
  refine awp_seq_k (fun K1 hK1 => ?_)
  refine awp_plain 3 (by kernel_rfl) rfl (fun g0 hg0 => ?_)
  simp only [go_sem]
  refine hK1 _ ?_
  refine awp_seq_k (fun K2 hK2 => ?_)
  refine awp_any 7 (by kernel_rfl) (by kernel_rfl) rfl (fun g1 hg1 ops1 KR1 hops1 hKR1 => ?_)
  refine qrun_eval 3 hops1 ?_
  simp only [go_sem]
  refine qrun_pure hops1 rfl rfl rfl (nodes_p0 _ _) (CoL.refl _) rfl ?_
  refine qrun_eval 2 hops1 ?_
  simp only [go_sem, c0, w2]
  try simp (disch := omega) only [wrapN, wrapB, Int.tdiv_eq_ediv_of_nonneg, Int.tmod_eq_emod_of_nonneg]
  refine qrun_pure hops1 rfl rfl rfl (mul_calls 1 2 in1 in2 _ _) (CoL.refl _) rfl ?_
  refine qrun_last 0 hops1 ?_
  simp only [go_sem, m12]
  refine aops_last 1 hops1 ?_
  simp only [go_sem]
  refine hKR1 _ ?_
  refine hK2 _ ?_
  refine awp_ret ?_
  refine ends_ev rfl ?_
  simp only [go_sem]
  exact Co.refl _
theorem Height_p0 (g d : Nat) : ACalls E 8 [.agg p0c] [] g d (dI 2) [] := by
  refine acalls_of_awp (fn := Tryz.f8) (N := 7) Tryz.call8 Tryz.func8 rfl rfl (by simp) ?_
  simp only [go_sem]
  refine awp_seq_k (fun K1 hK1 => ?_)
  refine awp_plain 2 (by kernel_rfl) rfl (fun g0 hg0 => ?_)
  simp only [go_sem]
  refine hK1 _ ?_
  refine awp_seq_k (fun K2 hK2 => ?_)
  refine awp_any 4 (by kernel_rfl) (by kernel_rfl) rfl (fun g1 hg1 ops1 KR1 hops1 hKR1 => ?_)
  refine qrun_eval 2 hops1 ?_
  simp only [go_sem]
  refine qrun_pure hops1 rfl rfl rfl (count_p0 _ _) (CoL.refl _) rfl ?_
  refine qrun_pure hops1 rfl rfl rfl (height_p0 _ _) (CoL.refl _) rfl ?_
  refine qrun_last 0 hops1 ?_
  simp only [go_sem]
  refine aops_last 1 hops1 ?_
  simp only [go_sem]
  refine hKR1 _ ?_
  refine hK2 _ ?_
  refine awp_ret ?_
  refine ends_ev rfl ?_
  simp only [go_sem]
  exact Co.refl _
theorem t102 : typS 1 0 2 = 1 := by decide
theorem Of_p0 (g d : Nat) : ACalls E 10 [.agg p0c] [] g d (dI 1) [] := by
  have e1 : mulS 1 0 = 0 := by decide
  have e2 : addS 1 1 = 2 := by decide
  have e3 : powS 2 0 = 1 := by decide
  have e4 : mulS 0 1 = 0 := by decide
  have e5 : addS 1 0 = 1 := by decide
  have c0 : ((0 : Nat) : Int) = 0 := rfl
  refine acalls_of_awp (fn := Tryz.f10) (N := 28) Tryz.call10 Tryz.func10 rfl rfl (by simp) ?_
  simp only [go_sem]
  refine awp_seq_k (fun K1 hK1 => ?_)
  refine awp_plain 2 (by kernel_rfl) rfl (fun g0 hg0 => ?_)
  simp only [go_sem]
  refine hK1 _ ?_
  refine awp_seq_k (fun K2 hK2 => ?_)
  refine awp_ops (by kernel_rfl) rfl (fun g1 hg1 ops1 KR1 hops1 hKR1 => ?_)
  refine aops_eval 1 hops1 ?_
  simp only [go_sem]
  refine aops_pure hops1 rfl rfl rfl (count_p0 _ _) (CoL.refl _) ?_
  refine aops_last 2 hops1 ?_
  simp only [go_sem]
  refine hKR1 _ ?_
  refine hK2 _ ?_
  refine awp_seq_k (fun K3 hK3 => ?_)
  refine awp_any 8 (by kernel_rfl) (by kernel_rfl) rfl (fun g2 hg2 ops2 KR2 hops2 hKR2 => ?_)
  refine qrun_eval 6 hops2 ?_
  simp only [go_sem]
  refine qrun_pure hops2 rfl rfl rfl (height_p0 _ _) (CoL.refl _) rfl ?_
  refine qrun_pure hops2 rfl rfl rfl (types_calls 1 0 2 in1 (by decide) (by decide) _ _) (CoL.refl _) rfl ?_
  refine qrun_last 0 hops2 ?_
  simp only [go_sem, t102]
  refine aops_last 1 hops2 ?_
  simp only [go_sem]
  refine hKR2 _ ?_
  refine hK3 _ ?_
  refine awp_seq_k (fun K4 hK4 => ?_)
  refine awp_any 13 (by kernel_rfl) (by kernel_rfl) rfl (fun g3 hg3 ops3 KR3 hops3 hKR3 => ?_)
  refine qrun_eval 5 hops3 ?_
  simp only [go_sem, c0, List.length_nil]
  refine qrun_pure hops3 rfl rfl rfl (mul_calls 1 0 in1 in0 _ _) (CoL.refl _) rfl ?_
  refine qrun_eval 1 hops3 ?_
  simp only [go_sem, e1]
  refine qrun_pure hops3 rfl rfl rfl (add_calls 1 1 in1 in1 _ _) (CoL.refl _) rfl ?_
  refine qrun_eval 2 hops3 ?_
  simp only [go_sem, e2]
  refine qrun_pure hops3 rfl rfl rfl (pow_calls 2 0 in2 (by decide) _ _) (CoL.refl _) rfl ?_
  refine qrun_pure hops3 rfl rfl rfl (mul_calls 0 1 in0 in1 _ _) (CoL.refl _) rfl ?_
  refine qrun_pure hops3 rfl rfl rfl (add_calls 1 0 in1 in0 _ _) (CoL.refl _) rfl ?_
  refine qrun_last 0 hops3 ?_
  simp only [go_sem, e5]
  refine aops_last 1 hops3 ?_
  simp only [go_sem]
  refine hKR3 _ ?_
  refine hK4 _ ?_
  refine awp_ret ?_
  refine ends_ev rfl ?_
  simp only [go_sem]
  exact Co.refl _
set_option maxRecDepth 100000 in
theorem awake22_calls (g d : Nat) : ACalls E 5 [] [] g d (dB true) [] := by
  have e1 : typS 2 1 2 = 6 := by decide
  have e2 : addS 2305843009213693952 2305843009213693952 = 4611686018427387903 := by decide
  have e3 : mulS 3 4 = 12 := by decide
  have e4 : mulS 1099511627776 1099511627776 = 4611686018427387903 := by decide
  have e5 : powS 2 10 = 1024 := by decide
  have i1 : inR 2305843009213693952 := by unfold inR; omega
  have i2 : inR 3 := by unfold inR; omega
  have i3 : inR 4 := by unfold inR; omega
  have i4 : inR 1099511627776 := by unfold inR; omega
  refine acalls_of_awp (fn := Tryz.f5) (N := 35) Tryz.call5 Tryz.func5 rfl rfl (by simp) ?_
  simp only [go_sem]
  refine awp_seq_k (fun K1 hK1 => ?_)
  refine awp_plain 1 (by kernel_rfl) rfl (fun g0 hg0 => ?_)
  simp only [go_sem]
  refine hK1 _ ?_
  refine awp_seq_k (fun K2 hK2 => ?_)
  refine awp_plain 7 (by kernel_rfl) rfl (fun g1 hg1 => ?_)
  simp only [go_sem]
  refine hK2 _ ?_
  refine awp_seq_k (fun K3 hK3 => ?_)
  refine awp_ops (by kernel_rfl) rfl (fun g2 hg2 ops2 KR2 hops2 hKR2 => ?_)
  refine aops_eval 0 hops2 ?_
  simp only [go_sem]
  refine aops_pure hops2 rfl rfl rfl (types_calls 2 1 2 in2 (by decide) (by decide) _ _) (CoL.refl _) ?_
  refine aops_eval 2 hops2 ?_
  simp only [go_sem, e1, decide_true]
  refine aops_pure hops2 rfl rfl rfl (add_calls _ _ i1 i1 _ _) (CoL.refl _) ?_
  refine aops_eval 3 hops2 ?_
  simp only [go_sem, e2, decide_true]
  refine aops_pure hops2 rfl rfl rfl (mul_calls 3 4 i2 i3 _ _) (CoL.refl _) ?_
  refine aops_eval 3 hops2 ?_
  simp only [go_sem, e3, decide_true]
  refine aops_pure hops2 rfl rfl rfl (mul_calls _ _ i4 i4 _ _) (CoL.refl _) ?_
  refine aops_eval 3 hops2 ?_
  simp only [go_sem, e4, decide_true]
  refine aops_pure hops2 rfl rfl rfl (pow_calls 2 10 in2 (by decide) _ _) (CoL.refl _) ?_
  refine aops_eval 4 hops2 ?_
  simp only [go_sem, e5, decide_true]
  refine aops_pure hops2 rfl rfl rfl (Height_p0 _ _) (CoL.refl _) ?_
  refine aops_eval 4 hops2 ?_
  simp only [go_sem, decide_true]
  refine aops_pure hops2 rfl rfl rfl (Of_p0 _ _) (CoL.refl _) ?_
  refine aops_last 3 hops2 ?_
  simp only [go_sem, decide_true]
  refine hKR2 _ ?_
  refine hK3 _ ?_
  refine awp_ret ?_
  refine ends_ev rfl ?_
  simp only [go_sem]
  exact Co.refl _
end Go.Proofs.T


namespace Go.Proofs.T
open Go Go.Ab Go.RowKit

/-! ## As many nodes as the reference counts -/

theorem nodup_map {α β : Type} {f : α → β} {l : List α} (h : l.Nodup) (hf : ∀ a ∈ l, ∀ b ∈ l, f a = f b → a = b) : (l.map f).Nodup := by
  unfold List.Nodup at *
  rw [List.pairwise_map]
  exact List.Pairwise.imp_of_mem (fun {a b} ha hb hn e => hn (hf a ha b hb e)) h
theorem len_same {α β : Type} {f : α → β} {l : List α} {r : List β} (h : l.Nodup) (hf : ∀ a ∈ l, ∀ b ∈ l, f a = f b → a = b) (hr : r.Nodup) (hm : ∀ x, x ∈ r ↔ ∃ a ∈ l, x = f a) : l.length = r.length := by
  rw [← List.length_map (f := f)]
  refine List.Perm.length_eq ?_
  rw [List.perm_ext_iff_of_nodup (nodup_map h hf) hr]
  intro x
  rw [hm, List.mem_map]
  constructor
  · rintro ⟨a, ha, rfl⟩
    exact ⟨a, ha, rfl⟩
  · rintro ⟨a, ha, rfl⟩
    exact ⟨a, ha, rfl⟩
theorem len_filter {α : Type} (q : α → Bool) : ∀ l : List α, l.length = (l.filter q).length + (l.filter fun x => !q x).length
  | [] => rfl
  | a :: l => by
    have ih := len_filter q l
    cases h : q a <;> simp [h] <;> omega
theorem ndP_mem (p : Prg) (x : Nd) : x ∈ ndP p ↔ (∃ s ∈ p.decls.map tyF, ∃ k, k < s.2 ∧ x = ⟨false, s.1, (k : Int)⟩) ∨ ∃ s ∈ p.decls.flatMap meF, ∃ k, k < s.2 ∧ x = ⟨true, s.1, (k : Int)⟩ := by
  unfold ndP ndD
  simp only [List.mem_flatMap, List.mem_append, ndF_mem, siN, meF, List.mem_map, tyF, siF]
  constructor
  · rintro ⟨d, hd, ⟨k, hk, rfl⟩ | ⟨s, hs, k, hk, rfl⟩⟩
    · exact .inl ⟨_, ⟨d, hd, rfl⟩, k, hk, rfl⟩
    · exact .inr ⟨_, ⟨d, hd, s, hs, rfl⟩, k, hk, rfl⟩
  · rintro (⟨_, ⟨d, hd, rfl⟩, k, hk, rfl⟩ | ⟨_, ⟨d, hd, s, hs, rfl⟩, k, hk, rfl⟩)
    · exact ⟨d, hd, .inl ⟨k, hk, rfl⟩⟩
    · exact ⟨d, hd, .inr ⟨s, hs, k, hk, rfl⟩⟩
theorem nodesOf_mem (p : Prg) (x : Nd) : x ∈ nodesOf p ↔ x ∈ ndP p := by unfold nodesOf; rw [cpU_all]; exact (srt_perm ltNd (ndP p)).mem_iff
theorem nodesOf_nodup (p : Prg) : (nodesOf p).Nodup := cpU_nodup (srt_ord goodNd.swo _)
def keyN (x : Nd) : Str := keyS x.name x.idx.toNat
theorem nodes_count (p : Prg) (h1 : ∀ s ∈ p.decls.map tyF, s.2 ≤ 65535) (h2 : ∀ s ∈ p.decls.flatMap meF, s.2 ≤ 65535) : (nodesOf p).length = (tyKeys p).length + (meKeys p).length := by
  have hm := nodesOf_mem p
  have hnd := nodesOf_nodup p
  have hbd : ∀ x ∈ nodesOf p, ∃ k : Nat, k < 65535 ∧ x.idx = (k : Int) := fun x hx => by
    rw [hm, ndP_mem] at hx
    rcases hx with ⟨s, hs, k, hk, rfl⟩ | ⟨s, hs, k, hk, rfl⟩
    · exact ⟨k, by have := h1 s hs; omega, rfl⟩
    · exact ⟨k, by have := h2 s hs; omega, rfl⟩
  have hinj : ∀ a ∈ nodesOf p, ∀ b ∈ nodesOf p, a.method = b.method → keyN a = keyN b → a = b := fun a ha b hb hab hk => by
    obtain ⟨i, hi, ei⟩ := hbd a ha
    obtain ⟨j, hj, ej⟩ := hbd b hb
    obtain ⟨k1, k2⟩ := keyS_inj (by rw [ei]; simp; omega) (by rw [ej]; simp; omega) hk
    rw [ei, ej, Int.toNat_natCast, Int.toNat_natCast] at k2
    exact Nd.eq_iff.2 ⟨hab, k1, by rw [ei, ej, k2]⟩
  rw [len_filter (fun x : Nd => !x.method)]
  congr 1
  · refine len_same (f := keyN) (hnd.filter _) (fun a ha b hb hk => ?_) (fold_nodup _ _ .nil) (fun x => ?_)
    · obtain ⟨a1, a2⟩ := List.mem_filter.1 ha
      obtain ⟨b1, b2⟩ := List.mem_filter.1 hb
      exact hinj a a1 b b1 (by simp at a2 b2; rw [a2, b2]) hk
    · unfold tyKeys
      rw [fold_mem]
      constructor
      · rintro (⟨s, hs, k, hk, rfl⟩ | h)
        · exact ⟨⟨false, s.1, (k : Int)⟩, List.mem_filter.2 ⟨(hm _).2 ((ndP_mem p _).2 (.inl ⟨s, hs, k, hk, rfl⟩)), rfl⟩, by simp [keyN]⟩
        · cases h
      · rintro ⟨a, ha, rfl⟩
        obtain ⟨a1, a2⟩ := List.mem_filter.1 ha
        rw [hm, ndP_mem] at a1
        rcases a1 with ⟨s, hs, k, hk, rfl⟩ | ⟨s, hs, k, hk, rfl⟩
        · exact .inl ⟨s, hs, k, hk, by simp [keyN]⟩
        · cases a2
  · refine len_same (f := keyN) (hnd.filter _) (fun a ha b hb hk => ?_) (fold_nodup _ _ .nil) (fun x => ?_)
    · obtain ⟨a1, a2⟩ := List.mem_filter.1 ha
      obtain ⟨b1, b2⟩ := List.mem_filter.1 hb
      exact hinj a a1 b b1 (by simp at a2 b2; rw [a2, b2]) hk
    · unfold meKeys
      rw [fold_mem]
      constructor
      · rintro (⟨s, hs, k, hk, rfl⟩ | h)
        · exact ⟨⟨true, s.1, (k : Int)⟩, List.mem_filter.2 ⟨(hm _).2 ((ndP_mem p _).2 (.inr ⟨s, hs, k, hk, rfl⟩)), rfl⟩, by simp [keyN]⟩
        · cases h
      · rintro ⟨a, ha, rfl⟩
        obtain ⟨a1, a2⟩ := List.mem_filter.1 ha
        rw [hm, ndP_mem] at a1
        rcases a1 with ⟨s, hs, k, hk, rfl⟩ | ⟨s, hs, k, hk, rfl⟩
        · cases a2
        · exact .inl ⟨s, hs, k, hk, by simp [keyN]⟩

theorem ndP_len (p : Prg) : (ndP p).length = ((p.decls.map tyF).map (·.2)).sum + ((p.decls.flatMap meF).map (·.2)).sum := by
  unfold ndP
  induction p.decls with
  | nil => rfl
  | cons d l ih =>
    have h2 : ((d.sigs ++ [d.sig]).flatMap siN).length = ((meF d).map (·.2)).sum := by
      unfold meF
      generalize d.sigs ++ [d.sig] = S
      induction S with
      | nil => rfl
      | cons s S ihS =>
        rw [List.flatMap_cons, List.length_append, ihS, List.map_cons, List.map_cons, List.sum_cons]
        have : (siN s).length = s.formals.length := ndF_len _ _ _
        rw [this]
        rfl
    have h1 : (ndD d).length = d.formals.length + ((meF d).map (·.2)).sum := by unfold ndD; rw [List.length_append, ndF_len, h2]
    rw [List.flatMap_cons, List.length_append, ih, h1]
    simp only [List.map_cons, List.sum_cons, List.flatMap_cons, List.map_append, List.sum_append, tyF]
    omega
theorem ndP_le {p : Prg} (hw : wN (prTys p) ≤ 600) : (ndP p).length ≤ 1200 := by
  have h1 : ((p.decls.map tyF).map (·.2)).sum ≤ (p.decls.map (fun d => wN (deTys d))).sum := by
    rw [List.map_map]
    exact sum_le (fun d => tyF_le d) _
  have h2 := meF_sum p.decls
  have h3 := decs_sum p
  rw [ndP_len]
  omega
theorem mem_sum {l : List (Str × Nat)} : ∀ {s : Str × Nat}, s ∈ l → s.2 ≤ (l.map (·.2)).sum := by
  induction l with
  | nil => intro s h; cases h
  | cons a l ih =>
    intro s h
    rw [List.map_cons, List.sum_cons]
    rcases List.mem_cons.1 h with rfl | h
    · omega
    · have := ih h
      omega
theorem count_same {p : Prg} (hw : wN (prTys p) ≤ 600) : (nodesOf p).length = (tyKeys p).length + (meKeys p).length := by
  have h := ndP_le hw
  rw [ndP_len] at h
  exact nodes_count p (fun s hs => by have := mem_sum hs; omega) (fun s hs => by have := mem_sum hs; omega)
theorem nodesOf_le (p : Prg) : (nodesOf p).length ≤ (ndP p).length := by
  have h1 := cpU_len (srt ltNd (ndP p)) (srt ltNd (ndP p)).length
  rw [srt_len] at h1
  unfold nodesOf
  rw [srt_len]
  exact h1

/-! ## The height and the bound -/

theorem mulS_small {a b c : Nat} (h : a * b = c) (hc : c ≤ 1000000) (ha : a ≤ 1000000) (hb : b ≤ 1000000) : mulS (a : Int) (b : Int) = (c : Int) := by
  rw [mulS_eq (inN ha) (inN hb)]
  have e : (a : Int) * (b : Int) = (c : Int) := by rw [← h]; push_cast; rfl
  rw [e, if_neg (by omega)]
noncomputable abbrev kP (p : Prg) : Nat := (tyKeys p).length + (meKeys p).length
theorem height_calls (p : Prg) (hp : smPr p) (hw : wN (prTys p) ≤ 600) (g q : Nat) : ACalls E 23 [encPr p, cntD p] [] g q (dN (hgt p (kP p))) [] := by
  have hN := ndP_le hw
  have hle := nodesOf_le p
  have hdm := dmax_pr hw
  have hcs := count_same hw
  have hh := hgt_le (n := (nodesOf p).length) hw (by omega)
  have hm := mulS_small (a := dmax (tyPr p) 1) (b := (nodesOf p).length + 2) (c := hgt p (nodesOf p).length) rfl hh (by omega) (by omega)
  have e2 : ((nodesOf p).length : Int) + 2 = (((nodesOf p).length + 2 : Nat) : Int) := by omega
  refine acalls_of_awp (fn := Tryz.f23) (N := 12) Tryz.call23 Tryz.func23 rfl rfl (by simp) ?_
  simp only [go_sem]
  refine awp_seq_k (fun K1 hK1 => ?_)
  refine awp_plain 3 (by kernel_rfl) rfl (fun g0 hg0 => ?_)
  simp only [go_sem, cntD, cV]
  refine hK1 _ ?_
  refine awp_seq_k (fun K2 hK2 => ?_)
  refine awp_any 7 (by kernel_rfl) (by kernel_rfl) rfl (fun g1 hg1 ops1 KR1 hops1 hKR1 => ?_)
  refine qrun_eval 3 hops1 ?_
  simp only [go_sem]
  refine qrun_pure hops1 rfl rfl rfl (nodesI_calls p hp (by omega) _ _) (CoL.refl _) rfl ?_
  refine qrun_eval 2 hops1 ?_
  simp only [go_sem, e2]
  try simp (disch := omega) only [wrapN]
  refine qrun_pure hops1 rfl rfl rfl (mul_calls _ _ (inN (n := dmax (tyPr p) 1) (by omega)) (inN (n := (nodesOf p).length + 2) (by omega)) _ _) (CoL.refl _) rfl ?_
  refine qrun_last 0 hops1 ?_
  simp only [go_sem, hm]
  refine aops_last 1 hops1 ?_
  simp only [go_sem]
  refine hKR1 _ ?_
  refine hK2 _ ?_
  refine awp_ret ?_
  refine ends_ev rfl ?_
  simp only [go_sem]
  exact Co.of_eq (by rw [hcs])
theorem cntBounds {p : Prg} (_hp : smPr p) (hw : wN (prTys p) ≤ 600) : (tyPr p).length ≤ 300000 := by
  have := tyPr_le p
  omega
theorem HeightP_calls (p : Prg) (hp : smPr p) (hw : wN (prTys p) ≤ 600) (g q : Nat) : ACalls E 8 [encPr p] [] g q (dN (hgt p (kP p))) [] := by
  refine acalls_of_awp (fn := Tryz.f8) (N := 7) Tryz.call8 Tryz.func8 rfl rfl (by simp) ?_
  simp only [go_sem]
  refine awp_seq_k (fun K1 hK1 => ?_)
  refine awp_plain 2 (by kernel_rfl) rfl (fun g0 hg0 => ?_)
  simp only [go_sem]
  refine hK1 _ ?_
  refine awp_seq_k (fun K2 hK2 => ?_)
  refine awp_any 4 (by kernel_rfl) (by kernel_rfl) rfl (fun g1 hg1 ops1 KR1 hops1 hKR1 => ?_)
  refine qrun_eval 2 hops1 ?_
  simp only [go_sem]
  refine qrun_pure hops1 rfl rfl rfl (countP_calls p hp (by omega) (cntBounds hp hw) _ _) (CoL.refl _) rfl ?_
  refine qrun_pure hops1 rfl rfl rfl (height_calls p hp hw _ _) (CoL.refl _) rfl ?_
  refine qrun_last 0 hops1 ?_
  simp only [go_sem]
  refine aops_last 1 hops1 ?_
  simp only [go_sem]
  refine hKR1 _ ?_
  refine hK2 _ ?_
  refine awp_ret ?_
  refine ends_ev rfl ?_
  simp only [go_sem]
  exact Co.refl _
theorem OfP_calls (p : Prg) (hp : smPr p) (hw : wN (prTys p) ≤ 600) (g q : Nat) :
    ACalls E 10 [encPr p] [] g q (dI (ofV2 p ((exB p.decls ++ nodesEx p.main).foldl nmF []).length ((exB p.decls ++ nodesEx p.main).foldl tgF 0) (hgt p (kP p)))) [] := by
  have hty := tyKeys_len p
  have hme := meKeys_len p
  have hk : kP p = (tyKeys p).length + (meKeys p).length := rfl
  have hhg := hgt_le (n := kP p) hw (by omega)
  have hdc := dcF_le p.decls 0
  have hal := all_len p
  have hsm := all_sm hp
  have hDC : inR ((p.decls.foldl dcF 0 : Nat) : Int) := inN (by have := hp.1.1; omega)
  have hFO : p.decls.foldl foF 0 ≤ 1000000 := foF_le _ _ _ (Nat.zero_le _) fun d hd => Nat.le_trans (hp.1.2 d hd).2.1.1 (by omega)
  have hTG : (exB p.decls ++ nodesEx p.main).foldl tgF 0 ≤ 1000000 := by
    rw [tgF_swap]
    exact tgF_le _ _ _ (Nat.zero_le _) fun e he => ((smEx_iff e).1 (hsm e he)).2.2.1.1
  have hC := typS_in hDC (p.decls.foldl foF 0) (hgt p (kP p))
  have hNm : ((exB p.decls ++ nodesEx p.main).foldl nmF []).length ≤ 1000000 := by
    rw [nm_same _ (nodesEx p.main ++ exB p.decls) (fun e => by simp only [List.mem_append]; exact Or.comm)]
    have := nmR_len (nodesEx p.main ++ exB p.decls) []
    simp only [List.length_nil] at this
    omega
  refine acalls_of_awp (fn := Tryz.f10) (N := 28) Tryz.call10 Tryz.func10 rfl rfl (by simp) ?_
  simp only [go_sem]
  refine awp_seq_k (fun K1 hK1 => ?_)
  refine awp_plain 2 (by kernel_rfl) rfl (fun g0 hg0 => ?_)
  simp only [go_sem]
  refine hK1 _ ?_
  refine awp_seq_k (fun K2 hK2 => ?_)
  refine awp_ops (by kernel_rfl) rfl (fun g1 hg1 ops1 KR1 hops1 hKR1 => ?_)
  refine aops_eval 1 hops1 ?_
  simp only [go_sem]
  refine aops_pure hops1 rfl rfl rfl (countP_calls p hp (by omega) (cntBounds hp hw) _ _) (CoL.refl _) ?_
  refine aops_last 2 hops1 ?_
  simp only [go_sem, cntD, cV]
  refine hKR1 _ ?_
  refine hK2 _ ?_
  refine awp_seq_k (fun K3 hK3 => ?_)
  refine awp_any 8 (by kernel_rfl) (by kernel_rfl) rfl (fun g2 hg2 ops2 KR2 hops2 hKR2 => ?_)
  refine qrun_eval 6 hops2 ?_
  simp only [go_sem]
  refine qrun_pure hops2 rfl rfl rfl (height_calls p hp hw _ _) (.cons (.refl _) (.cons (.refl _) .nil)) rfl ?_
  refine qrun_pure hops2 rfl rfl rfl (types_calls _ _ _ hDC hFO hhg _ _) (CoL.refl _) rfl ?_
  refine qrun_last 0 hops2 ?_
  simp only [go_sem]
  refine aops_last 1 hops2 ?_
  simp only [go_sem]
  refine hKR2 _ ?_
  refine hK3 _ ?_
  refine awp_seq_k (fun K4 hK4 => ?_)
  refine awp_any 13 (by kernel_rfl) (by kernel_rfl) rfl (fun g3 hg3 ops3 KR3 hops3 hKR3 => ?_)
  refine qrun_eval 5 hops3 ?_
  simp only [go_sem, nsE_len]
  refine qrun_pure hops3 rfl rfl rfl (mul_calls _ _ hC (inN hNm) _ _) (CoL.refl _) rfl ?_
  refine qrun_eval 1 hops3 ?_
  simp only [go_sem]
  refine qrun_pure hops3 rfl rfl rfl (add_calls _ _ hC one_in _ _) (CoL.refl _) rfl ?_
  refine qrun_eval 2 hops3 ?_
  simp only [go_sem]
  refine qrun_pure hops3 rfl rfl rfl (pow_calls _ _ (addS_in hC one_in) hTG _ _) (CoL.refl _) rfl ?_
  refine qrun_pure hops3 rfl rfl rfl (mul_calls _ _ (mulS_in hC (inN hNm)) (powS_in (addS_in hC one_in) _) _ _) (CoL.refl _) rfl ?_
  refine qrun_pure hops3 rfl rfl rfl (add_calls _ _ hC (mulS_in (mulS_in hC (inN hNm)) (powS_in (addS_in hC one_in) _)) _ _) (CoL.refl _) rfl ?_
  refine qrun_last 0 hops3 ?_
  simp only [go_sem]
  refine aops_last 1 hops3 ?_
  simp only [go_sem]
  refine hKR3 _ ?_
  refine hK4 _ ?_
  refine awp_ret ?_
  refine ends_ev rfl ?_
  simp only [go_sem]
  exact Co.refl _

/-! ## The law -/

set_option maxRecDepth 100000 in
theorem boundRef_calls (p : Prg) (hp : okPr p) (g d : Nat) : ACalls E 3 [encPr p] [] g d (dB true) [] := by
  refine acalls_of_awp (fn := Tryz.f3) (N := 33) Tryz.call3 Tryz.func3 rfl rfl (by simp) ?_
  simp only [go_sem]
  refine awp_seq_k (fun K1 hK1 => ?_)
  refine awp_plain 2 (by kernel_rfl) rfl (fun g0 hg0 => ?_)
  simp only [go_sem]
  refine hK1 _ ?_
  refine awp_seq_k (fun K2 hK2 => ?_)
  refine awp_seq_k (fun K3 hK3 => ?_)
  refine awp_ops (by kernel_rfl) rfl (fun g1 hg1 ops1 KR1 hops1 hKR1 => ?_)
  refine aops_eval 0 hops1 ?_
  simp only [go_sem]
  refine aops_pure hops1 rfl rfl rfl (awake22_calls _ _) (CoL.refl _) ?_
  refine aops_eval 3 hops1 ?_
  simp only [go_sem, Bool.not_true]
  by_cases hf : cntPr p ≤ 600
  · obtain ⟨hs, _⟩ := cntPr_sm p hf
    have hw := cntPr_w p hf
    have hT := Nat.lt_or_ge 500 (hgt p (kP p))
    have hO := OfP_calls p hs hw
    have hR := of22_calls p hs hw
    rw [nm_same _ (nodesEx p.main ++ exB p.decls) (fun e => by simp only [List.mem_append]; exact Or.comm), tgF_swap, ← alE_all] at hO
    refine aops_pure hops1 rfl rfl rfl (few06_calls p hp _ _) (CoL.refl _) ?_
    refine aops_eval 4 hops1 ?_
    simp only [go_sem, hf, decide_true, Bool.not_true]
    cases hr : rightPr p with
    | false =>
      refine aops_pure hops1 rfl rfl rfl (rightPr_calls p hs (by omega) _ _) (CoL.refl _) ?_
      refine aops_last 2 hops1 ?_
      simp only [go_sem, hr, Bool.not_false]
      refine hKR1 _ ?_
      refine hK3 _ ?_
      refine awp_t rfl ?_
      refine awp_seq_k (fun K4 hK4 => ?_)
      refine awp_ops (by kernel_rfl) rfl (fun g2 hg2 ops2 KR2 hops2 hKR2 => ?_)
      refine aops_eval 0 hops2 ?_
      simp only [go_sem]
      refine aops_pure hops2 rfl rfl rfl (awake22_calls _ _) (CoL.refl _) ?_
      refine aops_last 1 hops2 ?_
      simp only [go_sem]
      refine hKR2 _ ?_
      refine hK4 _ ?_
      refine awp_ret ?_
      refine ends_ev rfl ?_
      simp only [go_sem]
      exact Co.refl _
    | true =>
      refine aops_pure hops1 rfl rfl rfl (rightPr_calls p hs (by omega) _ _) (CoL.refl _) ?_
      refine aops_last 2 hops1 ?_
      simp only [go_sem, hr, Bool.not_true]
      refine hKR1 _ ?_
      refine hK3 _ ?_
      refine awp_f rfl ?_
      refine awp_skip ?_
      refine hK2 _ ?_
      refine awp_seq_k (fun K5 hK5 => ?_)
      refine awp_any 17 (by kernel_rfl) (by kernel_rfl) rfl (fun g3 hg3 ops3 KR3 hops3 hKR3 => ?_)
      refine qrun_eval 1 hops3 ?_
      simp only [go_sem]
      refine qrun_pure hops3 rfl rfl rfl (HeightP_calls p hs hw _ _) (CoL.refl _) rfl ?_
      refine qrun_eval 1 hops3 ?_
      simp only [go_sem]
      refine qrun_pure hops3 rfl rfl rfl (height22_calls p hs hw _ _) (CoL.refl _) rfl ?_
      refine qrun_eval 3 hops3 ?_
      simp only [go_sem, decide_true]
      rcases hT with hT | hT
      · have hT1 : ((500 : Int) < ((hgt p (kP p) : Nat) : Int)) = True := eq_true (by omega)
        refine qrun_pure hops3 rfl rfl rfl (height22_calls p hs hw _ _) (CoL.refl _) rfl ?_
        refine qrun_last 9 hops3 ?_
        simp only [go_sem, hT1, decide_true]
        refine aops_last 1 hops3 ?_
        simp only [go_sem]
        refine hKR3 _ ?_
        refine hK5 _ ?_
        refine awp_ret ?_
        refine ends_ev rfl ?_
        simp only [go_sem]
        exact Co.refl _
      · have hT1 : ((500 : Int) < ((hgt p (kP p) : Nat) : Int)) = False := eq_false (by omega)
        refine qrun_pure hops3 rfl rfl rfl (height22_calls p hs hw _ _) (CoL.refl _) rfl ?_
        refine qrun_eval 3 hops3 ?_
        simp only [go_sem, hT1, decide_false]
        refine qrun_pure hops3 rfl rfl rfl (hO _ _) (CoL.refl _) rfl ?_
        refine qrun_eval 1 hops3 ?_
        simp only [go_sem]
        refine qrun_pure hops3 rfl rfl rfl (hR _ _) (CoL.refl _) rfl ?_
        refine qrun_last 3 hops3 ?_
        simp only [go_sem, decide_true]
        refine aops_last 1 hops3 ?_
        simp only [go_sem]
        refine hKR3 _ ?_
        refine hK5 _ ?_
        refine awp_ret ?_
        refine ends_ev rfl ?_
        simp only [go_sem]
        exact Co.refl _
  · refine aops_pure hops1 rfl rfl rfl (few06_calls p hp _ _) (CoL.refl _) ?_
    refine aops_last 7 hops1 ?_
    simp only [go_sem, hf, decide_false, Bool.not_false]
    refine hKR1 _ ?_
    refine hK3 _ ?_
    refine awp_t rfl ?_
    refine awp_seq_k (fun K6 hK6 => ?_)
    refine awp_ops (by kernel_rfl) rfl (fun g2 hg2 ops2 KR2 hops2 hKR2 => ?_)
    refine aops_eval 0 hops2 ?_
    simp only [go_sem]
    refine aops_pure hops2 rfl rfl rfl (awake22_calls _ _) (CoL.refl _) ?_
    refine aops_last 1 hops2 ?_
    simp only [go_sem]
    refine hKR2 _ ?_
    refine hK6 _ ?_
    refine awp_ret ?_
    refine ends_ev rfl ?_
    simp only [go_sem]
    exact Co.refl _
end Go.Proofs.T


namespace Go.Proofs.T
open Go Go.Ab Go.RowKit

/-! # What the arguments denote -/

variable {H : Type} {enc : TypeId × Value → H} {w : World}



theorem opStr (n : Nat) : Opens enc Tryz.prog w 9 (fun s : Str => [.val (.string s)]) (fun s => s.size ≤ 9223372036854775807) n := opens_str (by kernel_rfl) n
theorem opInt (n : Nat) : Opens enc Tryz.prog w 3 (fun i : Int => [.val (.int .i64 i)]) (fun i => -9223372036854775808 ≤ i ∧ i ≤ 9223372036854775807) n := opens_int (by kernel_rfl) n

theorem encTy_cellsF : (fun a => (encTy a).cells) = tyC := funext fun a => by rw [encTy_agg]; rfl
theorem opTy : ∀ n : Nat, Opens enc Tryz.prog w 25 tyC okTy n := by
  intro n
  induction n using Nat.strongRecOn with
  | _ n ih =>
    cases n with
    | zero => exact Opens.zero
    | succ n =>
      intro cs x h
      obtain ⟨nm, k1, s1⟩ := open_at 0 (show fieldAt Tryz.prog 25 0 = some (9, 0) by kernel_rfl) h (opStr n)
      obtain ⟨ars, k2, s2⟩ := open_at 1 (show fieldAt Tryz.prog 25 1 = some (23, 1) by kernel_rfl) h
        (opens_slb (e := 25) (k := 3) (f := encTy) (by kernel_rfl) (by kernel_rfl) (by decide) (fun a => by rw [encTy_agg]; rfl)
          (fun m hm => by rw [encTy_cellsF]; exact ih m (by omega)))
      obtain ⟨ps, _, s3⟩ := open_at 2 (show fieldAt Tryz.prog 25 2 = some (3, 2) by kernel_rfl) h (opInt n)
      refine ⟨.mk nm ars ps, (okTy_iff _).2 ⟨k1, k2.1, k2.2⟩, (open_len (by kernel_rfl) h).trans (by kernel_rfl), ?_⟩
      exact (s1.app s2 rfl).app s3 rfl

theorem opTys (n : Nat) : Opens enc Tryz.prog w 23 (fun l : List Ty => [slTy l]) (fun l => l.length ≤ 9223372036854775807 ∧ ∀ a ∈ l, okTy a) n :=
  opens_slb (e := 25) (k := 3) (f := encTy) (by kernel_rfl) (by kernel_rfl) (by decide) (fun a => by rw [encTy_agg]; rfl) (fun m _ => by rw [encTy_cellsF]; exact opTy m)
theorem opStrs (n : Nat) : Opens enc Tryz.prog w 44 (fun l : List Str => [slS l]) (fun l => l.length ≤ 9223372036854775807 ∧ ∀ a ∈ l, a.size ≤ 9223372036854775807) n :=
  opens_slb (e := 9) (k := 1) (f := encS) (by kernel_rfl) (by kernel_rfl) (by decide) (fun a => rfl) (fun m _ => opStr m)

theorem opFm (n : Nat) : Opens enc Tryz.prog w 82 (fun f => (encFm f).cells) okFm n := by
  cases n with
  | zero => exact Opens.zero
  | succ n =>
    intro cs x h
    obtain ⟨nm, k1, s1⟩ := open_at 0 (show fieldAt Tryz.prog 82 0 = some (9, 0) by kernel_rfl) h (opStr n)
    obtain ⟨t, k2, s2⟩ := open_at 1 (show fieldAt Tryz.prog 82 1 = some (25, 1) by kernel_rfl) h (opTy n)
    obtain ⟨ps, _, s3⟩ := open_at 2 (show fieldAt Tryz.prog 82 2 = some (3, 4) by kernel_rfl) h (opInt n)
    exact ⟨⟨nm, t, ps⟩, ⟨k1, k2⟩, (open_len (by kernel_rfl) h).trans (by kernel_rfl), (s1.app s2 rfl).app s3 rfl⟩
theorem opPa (n : Nat) : Opens enc Tryz.prog w 84 (fun f => (encPa f).cells) okPa n := by
  cases n with
  | zero => exact Opens.zero
  | succ n =>
    intro cs x h
    obtain ⟨nm, k1, s1⟩ := open_at 0 (show fieldAt Tryz.prog 84 0 = some (9, 0) by kernel_rfl) h (opStr n)
    obtain ⟨t, k2, s2⟩ := open_at 1 (show fieldAt Tryz.prog 84 1 = some (25, 1) by kernel_rfl) h (opTy n)
    obtain ⟨ps, _, s3⟩ := open_at 2 (show fieldAt Tryz.prog 84 2 = some (3, 4) by kernel_rfl) h (opInt n)
    exact ⟨⟨nm, t, ps⟩, ⟨k1, k2⟩, (open_len (by kernel_rfl) h).trans (by kernel_rfl), (s1.app s2 rfl).app s3 rfl⟩
theorem opFms (n : Nat) : Opens enc Tryz.prog w 41 (fun l : List Formal => [slFm l]) (fun l => l.length ≤ 9223372036854775807 ∧ ∀ a ∈ l, okFm a) n :=
  opens_slb (e := 82) (k := 5) (f := encFm) (by kernel_rfl) (by kernel_rfl) (by decide) (fun a => rfl) (fun m _ => opFm m)
theorem opPas (n : Nat) : Opens enc Tryz.prog w 42 (fun l : List Param => [slPa l]) (fun l => l.length ≤ 9223372036854775807 ∧ ∀ a ∈ l, okPa a) n :=
  opens_slb (e := 84) (k := 5) (f := encPa) (by kernel_rfl) (by kernel_rfl) (by decide) (fun a => rfl) (fun m _ => opPa m)

theorem opSi (n : Nat) : Opens enc Tryz.prog w 46 siC okSi n := by
  cases n with
  | zero => exact Opens.zero
  | succ n =>
    intro cs x h
    obtain ⟨nm, k1, s1⟩ := open_at 0 (show fieldAt Tryz.prog 46 0 = some (9, 0) by kernel_rfl) h (opStr n)
    obtain ⟨fs, k2, s2⟩ := open_at 1 (show fieldAt Tryz.prog 46 1 = some (41, 1) by kernel_rfl) h (opFms n)
    obtain ⟨ars, k3, s3⟩ := open_at 2 (show fieldAt Tryz.prog 46 2 = some (42, 2) by kernel_rfl) h (opPas n)
    obtain ⟨t, k4, s4⟩ := open_at 3 (show fieldAt Tryz.prog 46 3 = some (25, 3) by kernel_rfl) h (opTy n)
    obtain ⟨ps, _, s5⟩ := open_at 4 (show fieldAt Tryz.prog 46 4 = some (3, 6) by kernel_rfl) h (opInt n)
    exact ⟨⟨nm, fs, ars, t, ps⟩, ⟨k1, k2, k3, k4⟩, (open_len (by kernel_rfl) h).trans (by kernel_rfl), (((s1.app s2 rfl).app s3 rfl).app s4 rfl).app s5 rfl⟩

/-! ## Whole arguments -/

set_option maxRecDepth 100000
variable {b0 : Nat} {v : Value} {d : DataW H} {ps : List MemPlace}

end Go.Proofs.T


namespace Go.Proofs.T
open Go Go.Ab Go.RowKit

/-! # What the arguments denote: programs -/

variable {H : Type} {enc : TypeId × Value → H} {w : World}

theorem encEx_cellsF : (fun a => (encEx a).cells) = exC := funext fun a => by rw [encEx_agg]; rfl
theorem opEx : ∀ n : Nat, Opens enc Tryz.prog w 28 exC okEx n := by
  intro n
  induction n using Nat.strongRecOn with
  | _ n ih =>
    cases n with
    | zero => exact Opens.zero
    | succ n =>
      intro cs x h
      obtain ⟨kd, _, s0⟩ := open_at 0 (show fieldAt Tryz.prog 28 0 = some (3, 0) by kernel_rfl) h (opInt n)
      obtain ⟨nm, k1, s1⟩ := open_at 1 (show fieldAt Tryz.prog 28 1 = some (9, 1) by kernel_rfl) h (opStr n)
      obtain ⟨ty, k2, s2⟩ := open_at 2 (show fieldAt Tryz.prog 28 2 = some (25, 2) by kernel_rfl) h (opTy n)
      obtain ⟨ars, k3, s3⟩ := open_at 3 (show fieldAt Tryz.prog 28 3 = some (23, 5) by kernel_rfl) h (opTys n)
      obtain ⟨kids, k4, s4⟩ := open_at 4 (show fieldAt Tryz.prog 28 4 = some (26, 6) by kernel_rfl) h
        (opens_slb (e := 28) (k := 8) (f := encEx) (by kernel_rfl) (by kernel_rfl) (by decide) (fun a => by rw [encEx_agg]; rfl)
          (fun m hm => by rw [encEx_cellsF]; exact ih m (by omega)))
      obtain ⟨ps, _, s5⟩ := open_at 5 (show fieldAt Tryz.prog 28 5 = some (3, 7) by kernel_rfl) h (opInt n)
      refine ⟨.mk kd nm ty ars kids ps, (okEx_iff _).2 ⟨k1, k2, k3, k4.1, k4.2⟩, (open_len (by kernel_rfl) h).trans (by kernel_rfl), ?_⟩
      exact ((((s0.app s1 rfl).app s2 rfl).app s3 rfl).app s4 rfl).app s5 rfl

theorem opSis (n : Nat) : Opens enc Tryz.prog w 43 (fun l : List Sig => [slSi l]) (fun l => l.length ≤ 9223372036854775807 ∧ ∀ a ∈ l, okSi a) n :=
  opens_slb (e := 46) (k := 7) (f := encSi) (by kernel_rfl) (by kernel_rfl) (by decide) (fun a => rfl) (fun m _ => opSi m)
theorem opDe (n : Nat) : Opens enc Tryz.prog w 48 (fun a => (encDe a).cells) okDe n := by
  cases n with
  | zero => exact Opens.zero
  | succ n =>
    intro cs x h
    obtain ⟨kd, _, s0⟩ := open_at 0 (show fieldAt Tryz.prog 48 0 = some (3, 0) by kernel_rfl) h (opInt n)
    obtain ⟨nm, k1, s1⟩ := open_at 1 (show fieldAt Tryz.prog 48 1 = some (9, 1) by kernel_rfl) h (opStr n)
    obtain ⟨fm, k2, s2⟩ := open_at 2 (show fieldAt Tryz.prog 48 2 = some (41, 2) by kernel_rfl) h (opFms n)
    obtain ⟨fd, k3, s3⟩ := open_at 3 (show fieldAt Tryz.prog 48 3 = some (42, 3) by kernel_rfl) h (opPas n)
    obtain ⟨sg, k4, s4⟩ := open_at 4 (show fieldAt Tryz.prog 48 4 = some (43, 4) by kernel_rfl) h (opSis n)
    obtain ⟨rc, k5, s5⟩ := open_at 5 (show fieldAt Tryz.prog 48 5 = some (9, 5) by kernel_rfl) h (opStr n)
    obtain ⟨vs, k6, s6⟩ := open_at 6 (show fieldAt Tryz.prog 48 6 = some (44, 6) by kernel_rfl) h (opStrs n)
    obtain ⟨si, k7, s7⟩ := open_at 7 (show fieldAt Tryz.prog 48 7 = some (46, 7) by kernel_rfl) h (opSi n)
    obtain ⟨bd, k8, s8⟩ := open_at 8 (show fieldAt Tryz.prog 48 8 = some (28, 14) by kernel_rfl) h (opEx n)
    obtain ⟨ps, _, s9⟩ := open_at 9 (show fieldAt Tryz.prog 48 9 = some (3, 22) by kernel_rfl) h (opInt n)
    refine ⟨⟨kd, nm, fm, fd, sg, rc, vs, si, bd, ps⟩, ⟨k1, k2, k3, k4, k5, k6, k7, k8⟩, (open_len (by kernel_rfl) h).trans (by kernel_rfl), ?_⟩
    exact ((((((((s0.app s1 rfl).app s2 rfl).app s3 rfl).app s4 rfl).app s5 rfl).app s6 rfl).app s7 rfl).app s8 rfl).app s9 rfl
theorem opDes (n : Nat) : Opens enc Tryz.prog w 22 (fun l : List Dec => [slDe l]) (fun l => l.length ≤ 9223372036854775807 ∧ ∀ a ∈ l, okDe a) n :=
  opens_slb (e := 48) (k := 23) (f := encDe) (by kernel_rfl) (by kernel_rfl) (by decide) (fun a => rfl) (fun m _ => opDe m)
theorem opPr (n : Nat) : Opens enc Tryz.prog w 30 prC okPr n := by
  cases n with
  | zero => exact Opens.zero
  | succ n =>
    intro cs x h
    obtain ⟨ds, k0, s0⟩ := open_at 0 (show fieldAt Tryz.prog 30 0 = some (22, 0) by kernel_rfl) h (opDes n)
    obtain ⟨mn, k1, s1⟩ := open_at 1 (show fieldAt Tryz.prog 30 1 = some (28, 1) by kernel_rfl) h (opEx n)
    exact ⟨⟨ds, mn⟩, ⟨k0, k1⟩, (open_len (by kernel_rfl) h).trans (by kernel_rfl), s0.app s1 rfl⟩

set_option maxRecDepth 100000
variable {b0 : Nat} {v : Value} {d : DataW H} {ps : List MemPlace}
theorem argPr (hval : Value.okWide Tryz.prog w .any b0 30 v) (h : DataW.Trod enc Tryz.prog w 0 (fun _ => true) true 30 v d ps) : ∃ s, okPr s ∧ V (G0 w) w v (encPr s) := open_agg (by kernel_rfl) opPr hval h
def zPrg : Value := .agg #[.slice none 0 0, .int .i64 0, .string ByteArray.empty, .string ByteArray.empty, .slice none 0 0, .int .i64 0, .slice none 0 0, .slice none 0 0, .int .i64 0]
end Go.Proofs.T

