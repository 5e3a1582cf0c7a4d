/- A part of the proof, under no conditions of its own: ZAQ. -/
import Derived.Test.YtmmfjicebmeamaaGreatZAP
namespace Go.Proofs.T
open Go Go.Ab Go.RowKit

/-! ## The types of a program -/

theorem smTys_pr {p : Prg} (hp : smPr p) : ∀ t ∈ tyPr p, smTy t := by
  have hsi : ∀ s : Sig, smSi s → ∀ t ∈ siTys s, smTy t := fun s hs t ht => by
    unfold siTys at ht
    simp only [List.mem_append, List.mem_map, List.mem_singleton] at ht
    rcases ht with (⟨f, hf, rfl⟩ | ⟨f, hf, rfl⟩) | rfl
    · exact (hs.2.1.2 f hf).2
    · exact (hs.2.2.1.2 f hf).2
    · exact hs.2.2.2
  have hex : ∀ e : Ex, smEx e → ∀ t ∈ bodyTys e, smTy t := by
    intro e he t ht
    unfold bodyTys at ht
    obtain ⟨x, hx, ht⟩ := List.mem_flatMap.1 ht
    have hxs : ∀ e : Ex, smEx e → ∀ x ∈ nodesEx e, smEx x := by
      refine Ex.ind fun e ih he x hx => ?_
      rw [nodesEx_eq] at hx
      rcases List.mem_cons.1 hx with rfl | hx
      · exact he
      · rw [nodesExs_flat] at hx
        obtain ⟨y, hy, hx⟩ := List.mem_flatMap.1 hx
        exact ih y hy (((smEx_iff e).1 he).2.2.2.2 y hy) x hx
    have h := (smEx_iff x).1 (hxs e he x hx)
    unfold bodyT at ht
    rcases List.mem_append.1 ht with ht | ht
    · exact h.2.2.1.2 t ht
    · split at ht
      · rw [List.mem_singleton.1 ht]
        exact h.2.1
      · cases ht
  intro t ht
  unfold tyPr at ht
  rcases List.mem_append.1 ht with ht | ht
  · obtain ⟨d, hd, ht⟩ := List.mem_flatMap.1 ht
    have h := hp.1.2 d hd
    unfold tyDe at ht
    simp only [List.mem_append, List.mem_map, List.mem_flatMap] at ht
    rcases ht with ((⟨f, hf, rfl⟩ | ⟨f, hf, rfl⟩) | ⟨s, hs, ht⟩) | ht
    · exact (h.2.1.2 f hf).2
    · exact (h.2.2.1.2 f hf).2
    · exact hsi s (h.2.2.2.1.2 s hs) t ht
    · split at ht
      · rcases List.mem_append.1 ht with ht | ht
        · exact hsi _ h.2.2.2.2.2.2.1 t ht
        · exact hex _ h.2.2.2.2.2.2.2 t ht
      · cases ht
  · exact hex _ hp.2 t ht

theorem okRowsAp {k : Nat} {a b : List D} : okRows k (a ++ b) = (okRows k a ∧ okRows k b) := propext ⟨fun h => ⟨fun r hr => h r (List.mem_append_left _ hr), fun r hr => h r (List.mem_append_right _ hr)⟩, fun h r hr => (List.mem_append.1 hr).elim (h.1 r) (h.2 r)⟩
/-- The types of the first declarations. -/
def tyP (l : List Dec) (k : Nat) : List Ty := (l.take k).flatMap tyDe
/-- The types of formals, fields, and of the first specifications. -/
def tyH (d : Dec) (j : Nat) : List Ty := d.formals.map (·.bound) ++ d.fields.map (·.type) ++ (d.sigs.take j).flatMap siTys
theorem tyH_le (d : Dec) (j : Nat) : (tyH d j).length ≤ (tyDe d).length := by
  have := flat_le siTys d.sigs j
  unfold tyH tyDe
  simp only [List.length_append]
  omega
set_option maxRecDepth 100000 in
theorem typesD_calls (p : Prg) (hp : smPr p) (hw : (tyPr p).length ≤ 300000) (g d : Nat) : ACalls E 50 [encPr p] [] g d (slTy (tyPr p)) [] := by
  have hsm := smTys_pr hp
  obtain ⟨⟨k1, k2⟩, k3⟩ := hp
  have hdl : ∀ k, (tyP p.decls k).length ≤ (tyP p.decls p.decls.length).length := fun k => by
    unfold tyP
    rw [List.take_length]
    exact flat_le tyDe p.decls k
  have hall : (tyP p.decls p.decls.length).length + (bodyTys p.main).length = (tyPr p).length := by unfold tyP tyPr; rw [List.take_length, List.length_append]
  refine acalls_of_awp (fn := Tryz.f50) (N := 57) Tryz.call50 Tryz.func50 rfl rfl (by simp) ?_
  simp only [go_sem]
  refine awp_seq_k (fun K1 hK1 => ?_)
  refine awp_plain 2 (by kernel_rfl) rfl (fun g0 hg0 => ?_)
  simp only [go_sem]
  refine hK1 _ ?_
  refine awp_seq_k (fun K2 hK2 => ?_)
  refine awp_plain 1 (by kernel_rfl) rfl (fun g1 hg1 => ?_)
  simp only [go_sem]
  refine hK2 _ ?_
  refine awp_seq_k (fun K3 hK3 => ?_)
  refine awp_seq_k (fun K4 hK4 => ?_)
  refine awp_plain 4 (by kernel_rfl) rfl (fun g2 hg2 => ?_)
  simp only [go_sem]
  refine hK4 _ ?_
  refine awp_block ?_
  refine awp_nil 3 25 3 rfl fun gn hgn => ?_
  have hn : gn ≠ g0 := fresh_g hgn 1 0 (by simp [go_sem])
  refine awp_loop (fun m s => ∃ k a i, k ≤ p.decls.length ∧ m = p.decls.length - k ∧ a ≠ g0 ∧
      Le { env := [(1, .ptr ⟨g0, 1, 0⟩ 0), (9, slDe p.decls), (10, dN p.decls.length), (11, dN k), (3, .own ⟨a, i, 0⟩ (tyP p.decls k).length)], σ := [(⟨g0, 1, 0⟩, .box 30 (prC p)), (⟨a, i, 0⟩, .arr 25 3 ((tyP p.decls k).map encTy))] } s) p.decls.length ?_ ?_
  · refine ⟨0, gn, 0, Nat.zero_le _, rfl, hn, le_of ?_⟩
    simp only [go_sem, show tyP p.decls 0 = [] from rfl, hn, Ne.symm hn]
    all_goals first | exact rfl | exact ⟨rfl, rfl⟩ | trivial
  · rintro m s ⟨k, a, i, hk, rfl, ha, hle⟩
    refine awp_keep hle ?_
    clear hle
    refine awp_seq_k (fun K5 hK5 => ?_)
    by_cases hlt : k < p.decls.length
    · have hgm := getM (f := encDe) hlt
      have hde := k2 _ (List.getElem_mem hlt)
      have hnx : tyP p.decls (k + 1) = tyP p.decls k ++ tyDe p.decls[k] := flat_take tyDe hlt
      have hb1 := hdl (k + 1)
      refine awp_plain 1 (by kernel_rfl) rfl (fun g3 hg3 => ?_)
      simp only [go_sem, hlt]
      refine hK5 _ ?_
      refine awp_seq_k (fun K6 hK6 => ?_)
      refine awp_t rfl ?_
      refine awp_skip ?_
      refine hK6 _ ?_
      refine awp_seq_k (fun K7 hK7 => ?_)
      refine awp_block ?_
      refine awp_seq_k (fun K8 hK8 => ?_)
      generalize p.decls[k] = D at *
      generalize hP : tyP p.decls k = P at *
      have hlen : P.length + (tyDe D).length ≤ 300000 := by rw [hnx, List.length_append] at hb1; omega
      have hH := tyH_le D
      have hds := hde.2.2.2.1.1
      have hH0 := hH 0
      have hH0' : (tyH D 0).length = D.formals.length + D.fields.length := by simp [tyH]
      refine awp_plain 4 (by kernel_rfl) rfl (fun g4 hg4 => ?_)
      simp only [go_sem, hgm]
      refine hK8 _ ?_
      refine awp_seq_k (fun K9 hK9 => ?_)
      have hn4_a : g4 ≠ a := fresh_g hg4 i 0 (by simp [go_sem, Ne.symm ha])
      have hn4_g0 : g4 ≠ g0 := fresh_g hg4 1 0 (by simp [go_sem])
      refine awp_any 9 (by kernel_rfl) (by kernel_rfl) rfl (fun g5 hg5 ops5 KR5 hops5 hKR5 => ?_)
      refine qrun_eval 3 hops5 ?_
      simp only [go_sem, Ne.symm hn4_a, Ne.symm hn4_g0]
      refine qrun_pure hops5 rfl rfl rfl (formals_calls D.formals (by omega) _ _) (CoL.refl _) rfl ?_
      refine qrun_eval 2 hops5 ?_
      simp only [go_sem, Ne.symm hn4_a, Ne.symm hn4_g0]
      refine qrun_pure hops5 rfl rfl rfl (params_calls D.fields (by omega) _ _) (CoL.refl _) rfl ?_
      refine qrun_eval 1 hops5 ?_
      simp only [go_sem]
      refine qrun_pure hops5 rfl rfl rfl (concat2_calls (D.formals.map (·.bound)) (D.fields.map (·.type)) (by simp only [List.length_map]; omega) _ _) (CoL.refl _) rfl ?_
      refine qrun_last 0 hops5 ?_
      simp only [go_sem]
      refine aops_eval 0 hops5 ?_
      simp only [go_sem]
      refine aops_app hops5 rfl rfl rfl rfl rfl es23 sz25 by25 ze25 rfl (by decide) ?_
      simp only [go_sem, List.length_map, Ne.symm ha, hn4_a, okRowsTy, okRowsAp]
      first | refine ⟨⟨by omega, by omega⟩, ?_⟩ | skip
      refine aops_last 1 hops5 ?_
      simp only [go_sem]
      refine hKR5 _ ?_
      refine hK9 _ ?_
      refine awp_seq_k (fun K10 hK10 => ?_)
      refine awp_seq_k (fun K11 hK11 => ?_)
      have hn5_g0 : g5 ≠ g0 := fresh_g hg5 1 0 (by simp [go_sem, hn4_g0])
      have hn5_g4 : g5 ≠ g4 := fresh_g hg5 5 0 (by simp [go_sem])
      refine awp_plain 4 (by kernel_rfl) rfl (fun g6 hg6 => ?_)
      simp only [go_sem, Ne.symm hn4_g0, hn5_g4]
      refine hK11 _ ?_
      refine awp_block ?_
      refine awp_loop (fun m s => ∃ j b i, j ≤ D.sigs.length ∧ m = D.sigs.length - j ∧ b ≠ g0 ∧ b ≠ g4 ∧
          Le { env := [(1, .ptr ⟨g0, 1, 0⟩ 0), (9, slDe p.decls), (10, dN p.decls.length), (11, dN k), (3, .own ⟨b, i, 0⟩ (P ++ tyH D j).length), (5, .ptr ⟨g4, 5, 0⟩ 0), (26, slSi D.sigs), (27, dN D.sigs.length), (28, dN j)], σ := [(⟨g0, 1, 0⟩, .box 30 (prC p)), (⟨g4, 5, 0⟩, .box 48 (deC D)), (⟨b, i, 0⟩, .arr 25 3 ((P ++ tyH D j).map encTy))] } s) D.sigs.length ?_ ?_
      · refine ⟨0, g5, 24, Nat.zero_le _, rfl, hn5_g0, hn5_g4, le_of ?_⟩
        simp only [go_sem, tyH, List.take_zero, List.flatMap_nil, List.append_nil, List.map_map, List.map_append, hn4_g0, Ne.symm hn4_g0, hn5_g0, Ne.symm hn5_g0, hn5_g4, Ne.symm hn5_g4]
        all_goals first | exact rfl | exact ⟨rfl, rfl⟩ | trivial
      · rintro m s ⟨j, b, i, hj, rfl, hb0, hb4, hle⟩
        refine awp_keep hle ?_
        clear hle
        refine awp_seq_k (fun K12 hK12 => ?_)
        by_cases hlj : j < D.sigs.length
        · have hgs := getM (f := encSi) hlj
          have hsg := hde.2.2.2.1.2 _ (List.getElem_mem hlj)
          have hnj : tyH D (j + 1) = tyH D j ++ siTys D.sigs[j] := by unfold tyH; rw [flat_take siTys hlj, List.append_assoc, List.append_assoc, List.append_assoc]
          have hHj := hH (j + 1)
          rw [hnj, List.length_append] at hHj
          refine awp_plain 1 (by kernel_rfl) rfl (fun g7 hg7 => ?_)
          simp only [go_sem, hlj]
          refine hK12 _ ?_
          refine awp_seq_k (fun K13 hK13 => ?_)
          refine awp_t rfl ?_
          refine awp_skip ?_
          refine hK13 _ ?_
          refine awp_seq_k (fun K14 hK14 => ?_)
          refine awp_block ?_
          refine awp_seq_k (fun K15 hK15 => ?_)
          generalize D.sigs[j] = S at *
          have hsl := siTys_len' S
          refine awp_plain 4 (by kernel_rfl) rfl (fun g8 hg8 => ?_)
          simp only [go_sem, hgs]
          refine hK15 _ ?_
          have hn8_b : g8 ≠ b := fresh_g hg8 i 0 (by simp [go_sem, Ne.symm hb0, Ne.symm hb4])
          refine awp_ops (by kernel_rfl) rfl (fun g9 hg9 ops9 KR9 hops9 hKR9 => ?_)
          refine aops_eval 2 hops9 ?_
          simp only [go_sem, Ne.symm hn8_b]
          refine aops_pure hops9 rfl rfl rfl (sigD_calls S (by omega) (by omega) _ _) (CoL.refl _) ?_
          refine aops_app hops9 rfl rfl rfl rfl rfl es23 sz25 by25 ze25 rfl (by decide) ?_
          simp only [go_sem, okRowsTy, Ne.symm hb0, Ne.symm hb4, hn8_b]
          first | refine ⟨⟨by omega, by omega⟩, ?_⟩ | skip
          refine aops_last 1 hops9 ?_
          simp only [go_sem]
          refine hKR9 _ ?_
          refine hK14 _ ?_
          have hn9_g0 : g9 ≠ g0 := fresh_g hg9 1 0 (by simp [go_sem])
          have hn9_g4 : g9 ≠ g4 := fresh_g hg9 5 0 (by simp [go_sem, Ne.symm hn4_g0])
          refine awp_plain 2 (by kernel_rfl) rfl (fun g10 hg10 => ?_)
          simp only [go_sem]
          try simp (disch := omega) only [wrapN]
          refine ⟨_, ?_, j + 1, g9, 35, hlj, rfl, hn9_g0, hn9_g4, le_of ?_⟩
          · omega
          simp only [go_sem, hnj, ← List.append_assoc, List.map_append, List.length_append, hn4_g0, Ne.symm hn4_g0, hn9_g0, Ne.symm hn9_g0, hn9_g4, Ne.symm hn9_g4]
          all_goals first | exact rfl | exact ⟨rfl, rfl⟩ | trivial | omega
        · have : j = D.sigs.length := by omega
          subst this
          refine awp_plain 1 (by kernel_rfl) rfl (fun g7 hg7 => ?_)
          simp only [go_sem, hlj]
          refine hK12 _ ?_
          refine awp_seq_k (fun K16 hK16 => ?_)
          refine awp_f rfl ?_
          refine awp_exit ?_
          refine hK10 _ ?_
          refine awp_seq_k (fun K17 hK17 => ?_)
          by_cases h3 : D.kind = 3
          · have hty : tyDe D = tyH D D.sigs.length ++ (siTys D.sig ++ bodyTys D.body) := by unfold tyDe tyH; rw [if_pos h3, List.take_length]
            have hsl := siTys_len' D.sig
            rw [hty] at hlen hnx
            simp only [List.length_append] at hlen
            refine awp_plain 3 (by kernel_rfl) rfl (fun g11 hg11 => ?_)
            simp only [go_sem, h3, decide_true, Ne.symm hn4_g0, hb4]
            refine hK17 _ ?_
            refine awp_t rfl ?_
            refine awp_any 9 (by kernel_rfl) (by kernel_rfl) rfl (fun g12 hg12 ops12 KR12 hops12 hKR12 => ?_)
            refine qrun_eval 3 hops12 ?_
            simp only [go_sem, Ne.symm hn4_g0, hb4]
            refine qrun_pure hops12 rfl rfl rfl (sigD_calls D.sig (by omega) (by omega) _ _) (CoL.refl _) rfl ?_
            refine qrun_eval 2 hops12 ?_
            simp only [go_sem, Ne.symm hn4_g0, hb4]
            refine qrun_pure hops12 rfl rfl rfl (body_calls D.body (smEx.ok _ hde.2.2.2.2.2.2.2) (by omega) _ _) (CoL.refl _) rfl ?_
            refine qrun_eval 1 hops12 ?_
            simp only [go_sem]
            refine qrun_pure hops12 rfl rfl rfl (concat2_calls (siTys D.sig) (bodyTys D.body) (by omega) _ _) (CoL.refl _) rfl ?_
            refine qrun_last 0 hops12 ?_
            simp only [go_sem]
            refine aops_eval 0 hops12 ?_
            simp only [go_sem]
            refine aops_app hops12 rfl rfl rfl rfl rfl es23 sz25 by25 ze25 rfl (by decide) ?_
            simp only [go_sem, okRowsTy, okRowsAp, Ne.symm hb0, Ne.symm hb4]
            first | refine ⟨⟨by omega, by omega⟩, ?_⟩ | skip
            refine aops_last 1 hops12 ?_
            simp only [go_sem]
            refine hKR12 _ ?_
            refine hK7 _ ?_
            have hn12_g0 : g12 ≠ g0 := fresh_g hg12 1 0 (by simp [go_sem])
            refine awp_plain 2 (by kernel_rfl) rfl (fun g13 hg13 => ?_)
            simp only [go_sem]
            try simp (disch := omega) only [wrapN]
            refine ⟨_, ?_, k + 1, g12, 49, hlt, rfl, hn12_g0, le_of ?_⟩
            · omega
            simp only [go_sem, hnx, ← List.append_assoc, List.map_append, List.length_append, hn4_g0, hn12_g0, Ne.symm hn12_g0]
            all_goals first | exact rfl | exact ⟨rfl, rfl⟩ | trivial | omega
          · have hty : tyDe D = tyH D D.sigs.length := by unfold tyDe tyH; rw [if_neg h3, List.take_length, List.append_nil]
            rw [hty] at hlen hnx
            refine awp_plain 3 (by kernel_rfl) rfl (fun g11 hg11 => ?_)
            simp only [go_sem, h3, decide_false, Ne.symm hn4_g0, hb4]
            refine hK17 _ ?_
            refine awp_f rfl ?_
            refine awp_skip ?_
            refine hK7 _ ?_
            refine awp_plain 2 (by kernel_rfl) rfl (fun g13 hg13 => ?_)
            simp only [go_sem]
            try simp (disch := omega) only [wrapN]
            refine ⟨_, ?_, k + 1, b, i, hlt, rfl, hb0, le_of ?_⟩
            · omega
            simp only [go_sem, hnx, hn4_g0, hb0, Ne.symm hb0, Ne.symm hb4]
            all_goals first | exact rfl | exact ⟨rfl, rfl⟩ | trivial | omega
    · have : k = p.decls.length := by omega
      subst this
      refine awp_plain 1 (by kernel_rfl) rfl (fun g3 hg3 => ?_)
      simp only [go_sem, hlt]
      refine hK5 _ ?_
      refine awp_seq_k (fun K18 hK18 => ?_)
      refine awp_f rfl ?_
      refine awp_exit ?_
      refine hK3 _ ?_
      refine awp_seq_k (fun K19 hK19 => ?_)
      have hfl : tyP p.decls p.decls.length ++ bodyTys p.main = tyPr p := by unfold tyP tyPr; rw [List.take_length]
      have hfl2 : (tyP p.decls p.decls.length).map encTy ++ (bodyTys p.main).map encTy = (tyPr p).map encTy := by rw [← List.map_append, hfl]
      refine awp_ops (by kernel_rfl) rfl (fun g14 hg14 ops14 KR14 hops14 hKR14 => ?_)
      refine aops_eval 3 hops14 ?_
      simp only [go_sem, ha]
      refine aops_pure hops14 rfl rfl rfl (body_calls p.main (smEx.ok _ k3) (by omega) _ _) (CoL.refl _) ?_
      refine aops_app hops14 rfl rfl rfl rfl rfl es23 sz25 by25 ze25 rfl (by decide) ?_
      simp only [go_sem, Ne.symm ha, okRowsTy]
      first | refine ⟨⟨by omega, by omega⟩, ?_⟩ | skip
      refine aops_frz ⟨g14, 55, 0⟩ ?_
      simp only [go_sem, hfl2]
      refine aops_pure hops14 rfl rfl rfl (copies_calls (tyPr p) (by omega) hsm _ _) (CoL.refl _) ?_
      refine aops_last 1 hops14 ?_
      simp only [go_sem]
      refine hKR14 _ ?_
      refine hK19 _ ?_
      refine awp_ret ?_
      refine ends_ev rfl ?_
      simp only [go_sem]
      exact Co.refl _
end Go.Proofs.T


namespace Go.Proofs.T
open Go Go.Ab Go.RowKit

/-! ## The numbers of the program -/

set_option maxRecDepth 100000 in
theorem cexpr_e0 (m : Nm) (g d : Nat) : ACalls E 52 [.ptr m 0, .agg e0c] [] g d (.tup []) [] := by
  refine acalls_of_awp (fn := Tryz.f52) (N := 28) Tryz.call52 Tryz.func52 rfl rfl (by simp) ?_
  simp only [go_sem]
  refine awp_seq_k (fun K1 hK1 => ?_)
  refine awp_plain 2 (by kernel_rfl) rfl (fun g0 hg0 => ?_)
  simp only [go_sem]
  refine hK1 _ ?_
  refine awp_seq_k (fun K2 hK2 => ?_)
  refine awp_ops (by kernel_rfl) rfl (fun g1 hg1 ops1 KR1 hops1 hKR1 => ?_)
  refine aops_eval 1 hops1 ?_
  simp only [go_sem]
  refine aops_pure hops1 rfl rfl rfl (allX_calls e0 _ _) (.cons coE0 .nil) ?_
  refine aops_last 0 hops1 ?_
  simp only [go_sem]
  refine hKR1 _ ?_
  refine hK2 _ ?_
  refine awp_block ?_
  refine awp_range_k rfl rfl (by decide) ((nodesEx e0).map encEx) (fun _ _ => True) trivial (fun n I hY => all1_calls e0 okE0 n I hY) (fun k hk σ hJ KA hKA => ?_) (fun σ hJ => ?_)
  · have hk0 : k = 0 := by simpa [nodesE0] using hk
    subst hk0
    refine awp_keepT (st' := { env := [(7, encEx e0)], σ := [] }) ⟨leE_spec ?_, fun n o h => by cases h⟩ ?_
    · simp only [go_sem, nodesE0]
      try trivial
    refine awp_plain 2 (by kernel_rfl) rfl (fun g2 hg2 => ?_)
    simp only [go_sem, e0, tT]
    refine hKA _ (fun KB hKB => ?_)
    refine awp_block ?_
    refine awp_seq_k (fun K3 hK3 => ?_)
    refine awp_plain 3 (by kernel_rfl) rfl (fun g3 hg3 => ?_)
    simp only [go_sem, show ((3 : Int) = 2) = False from eq_false (by decide), decide_false]
    refine hK3 _ ?_
    refine awp_f rfl ?_
    refine awp_skip ?_
    refine hKB _ ?_
    try trivial
  · have _hd := hJ
    refine ends_ev rfl ?_
    simp only [go_sem]
    exact Co.refl _
end Go.Proofs.T


namespace Go.Proofs.T
open Go Go.Ab Go.RowKit

abbrev ksS : KS := .one .str
abbrev zC : List D := [dI 0, dI 0, dI 0, dI 0, .val (.map none)]
abbrev nC (k : Int) (m : D) : List D := [dI k, dI 0, dI 0, dI 1, m]
set_option maxRecDepth 100000 in
theorem count_p0 (g d : Nat) : ACalls E 24 [.agg p0c] [] g d (.agg (nC 1 (.fmap ksS []))) [] := by
  have lt01 : (((0 : Nat) : Int) < ((1 : Nat) : Int)) = True := eq_true (by decide)
  have lt11 : (((1 : Nat) : Int) < ((1 : Nat) : Int)) = False := eq_false (by decide)
  have c0 : ((0 : Nat) : Int) = 0 := rfl
  have g11 : ((1 : Int) > 1) = False := eq_false (by decide)
  have g00 : ((0 : Int) > 0) = False := eq_false (by decide)
  have e13 : ((1 : Int) = 3) = False := eq_false (by decide)
  have a01 : (0 : Int) + 1 = 1 := rfl
  have w1 : IntKind.i64.wrap 1 = 1 := by decide
  refine acalls_of_awp (fn := Tryz.f24) (N := 53) Tryz.call24 Tryz.func24 rfl rfl (by simp) ?_
  simp only [go_sem]
  refine awp_seq_k (fun K1 hK1 => ?_)
  refine awp_plain 2 (by kernel_rfl) rfl (fun g0 hg0 => ?_)
  simp only [go_sem]
  refine hK1 _ ?_
  refine awp_seq_k (fun K2 hK2 => ?_)
  refine awp_plain 4 (by kernel_rfl) rfl (fun g1 hg1 => ?_)
  simp only [go_sem]
  refine hK2 _ ?_
  refine awp_seq_k (fun K3 hK3 => ?_)
  refine awp_seq_k (fun K4 hK4 => ?_)
  refine awp_ops (by kernel_rfl) rfl (fun g2 hg2 ops2 KR2 hops2 hKR2 => ?_)
  refine aops_eval 1 hops2 ?_
  simp only [go_sem]
  refine aops_pure hops2 rfl rfl rfl (types_p0 _ _) (CoL.refl _) ?_
  refine aops_last 2 hops2 ?_
  simp only [go_sem]
  refine hKR2 _ ?_
  refine hK4 _ ?_
  refine awp_block ?_
  refine awp_loop (fun m s => ∃ k, k ≤ 1 ∧ m = 1 - k ∧ Le { env := [(1, .ptr ⟨g0, 1, 0⟩ 0), (2, .ptr ⟨g0, 2, 0⟩ 0), (3, .ptr ⟨g1, 3, 0⟩ 0), (11, slTy [tT]), (12, dN 1), (13, dN k)], σ := [(⟨g0, 1, 0⟩, .box 30 p0c), (⟨g0, 2, 0⟩, .box 56 zC), (⟨g1, 3, 0⟩, .box 56 (nC 0 (.mref ⟨g1, 8, 0⟩))), (⟨g1, 8, 0⟩, .map ksS [])] } s) 1 ?_ ?_
  · refine ⟨0, Nat.zero_le _, rfl, le_of ?_⟩
    simp only [go_sem]
    first | exact rfl | exact ⟨rfl, rfl⟩ | trivial
  · rintro m s ⟨k, hk, rfl, hle⟩
    refine awp_keep hle ?_
    clear hle
    refine awp_seq_k (fun K5 hK5 => ?_)
    by_cases hlt : k < 1
    · obtain rfl : k = 0 := by omega
      refine awp_plain 1 (by kernel_rfl) rfl (fun g3 hg3 => ?_)
      simp only [go_sem, lt01, decide_true]
      refine hK5 _ ?_
      refine awp_seq_k (fun K6 hK6 => ?_)
      refine awp_t rfl ?_
      refine awp_skip ?_
      refine hK6 _ ?_
      refine awp_seq_k (fun K7 hK7 => ?_)
      refine awp_block ?_
      refine awp_seq_k (fun K8 hK8 => ?_)
      refine awp_plain 4 (by kernel_rfl) rfl (fun g4 hg4 => ?_)
      simp only [go_sem]
      refine hK8 _ ?_
      refine awp_any 6 (by kernel_rfl) (by kernel_rfl) rfl (fun g5 hg5 ops5 KR5 hops5 hKR5 => ?_)
      refine qrun_eval 3 hops5 ?_
      simp only [go_sem]
      refine qrun_pure hops5 rfl rfl rfl (depth_tT _ _) (CoL.refl _) rfl ?_
      refine qrun_last 2 hops5 ?_
      simp only [go_sem, g11, if_false, if_true]
      refine aops_last 1 hops5 ?_
      simp only [go_sem, if_false, if_true]
      refine hKR5 _ ?_
      refine hK7 _ ?_
      refine awp_plain 2 (by kernel_rfl) rfl (fun g6 hg6 => ?_)
      simp only [go_sem, a01, w1, c0]
      try simp (disch := omega) only [wrapN, wrapB, Int.tdiv_eq_ediv_of_nonneg, Int.tmod_eq_emod_of_nonneg]
      refine ⟨_, ?_, 1, Nat.le_refl _, rfl, le_of ?_⟩
      · omega
      simp only [go_sem]
      first | exact rfl | exact ⟨rfl, rfl⟩ | trivial
    · have : k = 1 := by omega
      subst this
      refine awp_plain 1 (by kernel_rfl) rfl (fun g3 hg3 => ?_)
      simp only [go_sem, lt11, decide_false]
      refine hK5 _ ?_
      refine awp_seq_k (fun K9 hK9 => ?_)
      refine awp_f rfl ?_
      refine awp_exit ?_
      refine hK3 _ ?_
      refine awp_seq_k (fun K10 hK10 => ?_)
      refine awp_seq_k (fun K11 hK11 => ?_)
      refine awp_plain 4 (by kernel_rfl) rfl (fun g7 hg7 => ?_)
      simp only [go_sem]
      refine hK11 _ ?_
      refine awp_block ?_
      refine awp_loop (fun m s => ∃ k, k ≤ 1 ∧ m = 1 - k ∧ Le { env := [(1, .ptr ⟨g0, 1, 0⟩ 0), (2, .ptr ⟨g0, 2, 0⟩ 0), (3, .ptr ⟨g1, 3, 0⟩ 0), (25, .sl true [.agg dTc]), (26, dN 1), (27, dN k)], σ := [(⟨g0, 1, 0⟩, .box 30 p0c), (⟨g0, 2, 0⟩, .box 56 zC), (⟨g1, 3, 0⟩, .box 56 (nC k (.mref ⟨g1, 8, 0⟩))), (⟨g1, 8, 0⟩, .map ksS [])] } s) 1 ?_ ?_
      · refine ⟨0, Nat.zero_le _, rfl, le_of ?_⟩
        simp only [go_sem]
        first | exact rfl | exact ⟨rfl, rfl⟩ | trivial
      · rintro m s ⟨k, hk, rfl, hle⟩
        refine awp_keep hle ?_
        clear hle
        refine awp_seq_k (fun K12 hK12 => ?_)
        by_cases hlt : k < 1
        · obtain rfl : k = 0 := by omega
          refine awp_plain 1 (by kernel_rfl) rfl (fun g8 hg8 => ?_)
          simp only [go_sem, lt01, decide_true]
          refine hK12 _ ?_
          refine awp_seq_k (fun K13 hK13 => ?_)
          refine awp_t rfl ?_
          refine awp_skip ?_
          refine hK13 _ ?_
          refine awp_seq_k (fun K14 hK14 => ?_)
          refine awp_block ?_
          refine awp_seq_k (fun K15 hK15 => ?_)
          refine awp_plain 4 (by kernel_rfl) rfl (fun g9 hg9 => ?_)
          simp only [go_sem]
          refine hK15 _ ?_
          refine awp_seq_k (fun K16 hK16 => ?_)
          refine awp_seq_k (fun K17 hK17 => ?_)
          refine awp_plain 3 (by kernel_rfl) rfl (fun g10 hg10 => ?_)
          simp only [go_sem, e13, decide_false]
          refine hK17 _ ?_
          refine awp_f rfl ?_
          refine awp_skip ?_
          refine hK16 _ ?_
          refine awp_seq_k (fun K18 hK18 => ?_)
          refine awp_plain 5 (by kernel_rfl) rfl (fun g12 hg12 => ?_)
          simp only [go_sem, a01, w1, c0]
          try simp (disch := omega) only [wrapN, wrapB, Int.tdiv_eq_ediv_of_nonneg, Int.tmod_eq_emod_of_nonneg]
          refine hK18 _ ?_
          refine awp_plain 8 (by kernel_rfl) rfl (fun g13 hg13 => ?_)
          simp only [go_sem, g00, if_false, if_true, c0]
          refine hK14 _ ?_
          refine awp_plain 2 (by kernel_rfl) rfl (fun g14 hg14 => ?_)
          simp only [go_sem, a01, w1, c0]
          try simp (disch := omega) only [wrapN, wrapB, Int.tdiv_eq_ediv_of_nonneg, Int.tmod_eq_emod_of_nonneg]
          refine ⟨_, ?_, 1, Nat.le_refl _, rfl, le_of ?_⟩
          · omega
          simp only [go_sem]
          first | exact rfl | exact ⟨rfl, rfl⟩ | trivial
        · have : k = 1 := by omega
          subst this
          refine awp_plain 1 (by kernel_rfl) rfl (fun g8 hg8 => ?_)
          simp only [go_sem, lt11, decide_false]
          refine hK12 _ ?_
          refine awp_seq_k (fun K19 hK19 => ?_)
          refine awp_f rfl ?_
          refine awp_exit ?_
          refine hK10 _ ?_
          refine awp_seq_k (fun K20 hK20 => ?_)
          refine awp_ops (by kernel_rfl) rfl (fun g15 hg15 ops15 KR15 hops15 hKR15 => ?_)
          refine aops_eval 2 hops15 ?_
          simp only [go_sem]
          refine aops_pure hops15 rfl rfl rfl (cexpr_e0 ⟨g1, 3, 0⟩ _ _) (CoL.refl _) ?_
          refine aops_last 0 hops15 ?_
          simp only [go_sem]
          refine hKR15 _ ?_
          refine hK20 _ ?_
          refine awp_seq_k (fun K21 hK21 => ?_)
          refine awp_plain 2 (by kernel_rfl) rfl (fun g16 hg16 => ?_)
          simp only [go_sem]
          refine hK21 _ ?_
          refine awp_ret ?_
          refine ret_fmap ⟨g1, 8, 0⟩ ?_
          simp only [go_sem]
          refine ends_ev rfl ?_
          simp only [go_sem]
          exact Co.refl _
end Go.Proofs.T


namespace Go.Proofs.T
open Go Go.Ab Go.RowKit

/-! ## No nodes -/

theorem cloneSig_none (g d : Nat) : ACalls E 82 [nilS] [] g d (.own ⟨g, d, 1⟩ 0) [(⟨g, d, 1⟩, .arr 46 7 [])] := by
  refine acalls_of_awp (fn := Tryz.f82) (N := 8) Tryz.call82 Tryz.func82 rfl rfl (by simp) ?_
  simp only [go_sem]
  refine awp_seq_k (fun K1 hK1 => ?_)
  refine awp_plain 1 (by kernel_rfl) rfl (fun g0 hg0 => ?_)
  simp only [go_sem]
  refine hK1 _ ?_
  refine awp_seq_k (fun K2 hK2 => ?_)
  refine awp_seq_k (fun K3 hK3 => ?_)
  refine awp_plain 2 (by kernel_rfl) rfl (fun g1 hg1 => ?_)
  simp only [go_sem]
  refine hK3 _ ?_
  refine awp_t rfl ?_
  refine awp_seq_k (fun K4 hK4 => ?_)
  refine awp_plain 1 (by kernel_rfl) rfl (fun g2 hg2 => ?_)
  simp only [go_sem]
  refine hK4 _ ?_
  refine awp_ret ?_
  refine ret_nil 2 46 7 rfl fun gz hgz => ?_
  refine ends_own [⟨gz, 0, 0⟩] rfl ?_
  simp only [go_sem, newSto]
  exact Co.refl _
set_option maxRecDepth 100000 in
theorem nodes1_none (b : Bool) (s : Str) (x : D) (g d : Nat) : ACalls E 81 [dB b, encS s, nilS, x] [] g d (.tup []) [] := by
  refine acalls_of_awp (fn := Tryz.f81) (N := 21) Tryz.call81 Tryz.func81 rfl rfl (by simp) ?_
  simp only [go_sem]
  refine awp_seq_k (fun K1 hK1 => ?_)
  refine awp_plain 3 (by kernel_rfl) rfl (fun g0 hg0 => ?_)
  simp only [go_sem]
  refine hK1 _ ?_
  refine awp_block ?_
  refine awp_loop (fun m s => m = 0 ∧ Le { env := [(9, dN 0), (10, dN 0)], σ := [] } s) 0 ?_ ?_
  · refine ⟨rfl, le_of ?_⟩
    simp only [go_sem]
    first | exact rfl | exact ⟨rfl, rfl⟩ | trivial
  · rintro m s ⟨rfl, hle⟩
    refine awp_keep hle ?_
    clear hle
    refine awp_seq_k (fun K2 hK2 => ?_)
    refine awp_plain 1 (by kernel_rfl) rfl (fun g1 hg1 => ?_)
    simp only [go_sem, show (((0 : Nat) : Int) < ((0 : Nat) : Int)) = False from eq_false (by decide), decide_false]
    refine hK2 _ ?_
    refine awp_seq_k (fun K3 hK3 => ?_)
    refine awp_f rfl ?_
    refine awp_exit ?_
    refine ends_ev rfl ?_
    simp only [go_sem]
    exact Co.refl _
theorem ba_get0 (x : UInt8) (r b c : List UInt8) : (⟨(((x :: r).append b).append c).toArray⟩ : ByteArray)[Int.toNat 0]? = some x := by
  have h : Int.toNat 0 < (⟨(((x :: r).append b).append c).toArray⟩ : ByteArray).size := by simp [ByteArray.size]
  rw [getElem?_pos (⟨(((x :: r).append b).append c).toArray⟩ : ByteArray) (Int.toNat 0) h]
  rfl
set_option maxRecDepth 100000 in
theorem len64_0 (g d : Nat) : ACalls E 154 [.val (.int .u64 0)] [] g d (dI 0) [] := by
  have e1 : ((4294967296 : Int) ≤ 0) = False := eq_false (by decide)
  have e2 : ((65536 : Int) ≤ 0) = False := eq_false (by decide)
  have e3 : ((256 : Int) ≤ 0) = False := eq_false (by decide)
  refine acalls_of_awp (fn := Tryz.f154) (N := 25) Tryz.call154 Tryz.func154 rfl rfl (by simp) ?_
  simp only [go_sem]
  refine awp_seq_k (fun K1 hK1 => ?_)
  refine awp_plain 1 (by kernel_rfl) rfl (fun g0 hg0 => ?_)
  simp only [go_sem]
  refine hK1 _ ?_
  refine awp_seq_k (fun K2 hK2 => ?_)
  refine awp_seq_k (fun K3 hK3 => ?_)
  refine awp_plain 2 (by kernel_rfl) rfl (fun g1 hg1 => ?_)
  simp only [go_sem, e1, decide_false]
  refine hK3 _ ?_
  refine awp_f rfl ?_
  refine awp_skip ?_
  refine hK2 _ ?_
  refine awp_seq_k (fun K4 hK4 => ?_)
  refine awp_seq_k (fun K5 hK5 => ?_)
  refine awp_plain 2 (by kernel_rfl) rfl (fun g4 hg4 => ?_)
  simp only [go_sem, e2, decide_false]
  refine hK5 _ ?_
  refine awp_f rfl ?_
  refine awp_skip ?_
  refine hK4 _ ?_
  refine awp_seq_k (fun K6 hK6 => ?_)
  refine awp_seq_k (fun K7 hK7 => ?_)
  refine awp_plain 2 (by kernel_rfl) rfl (fun g7 hg7 => ?_)
  simp only [go_sem, e3, decide_false]
  refine hK7 _ ?_
  refine awp_f rfl ?_
  refine awp_skip ?_
  refine hK6 _ ?_
  refine awp_seq_k (fun K8 hK8 => ?_)
  refine awp_plain 7 (by kernel_rfl) rfl (fun g10 hg10 => ?_)
  simp only [go_sem]
  try simp (disch := omega) only [wrapB]
  rw [ba_get0]
  try simp only [go_sem, show ((UInt8.toNat 0 : Nat) : Int) = 0 from rfl]
  try simp (disch := omega) only [wrapN]
  refine hK8 _ ?_
  refine awp_ret ?_
  refine ends_ev rfl ?_
  simp only [go_sem]
  exact Co.of_eq rfl
end Go.Proofs.T


namespace Go.Proofs.T
open Go Go.Ab Go.RowKit

/-! ## Calls counted -/

open Classical in
/-- A name more, behind the others, if it is not there. -/
noncomputable def addN (l : List Str) (n : Str) : List Str := if n ∈ l then l else l ++ [n]
def nsE (l : List Str) : List (Value × D) := l.map fun n => (.string n, .val (.bool true))
open Classical in
theorem mput_ns : ∀ (l : List Str) (n : Str), mput (nsE l) (.string n) (.val (.bool true)) = nsE (addN l n)
  | [], n => by simp [nsE, mput, addN]
  | x :: r, n => by
    have ih := mput_ns r n
    unfold addN at ih ⊢
    simp only [nsE, List.map_cons, mput, List.cons_append] at ih ⊢
    by_cases h : x = n
    · simp [h]
    · rw [if_neg (by simpa using h), ih]
      by_cases hm : n ∈ r <;> simp [hm, Ne.symm h]
theorem nsE_len (l : List Str) : (nsE l).length = l.length := by simp [nsE]
open Classical in
theorem addN_mem (l : List Str) (s x : Str) : x ∈ addN l s ↔ x = s ∨ x ∈ l := by
  unfold addN
  split
  · rename_i h
    constructor
    · exact .inr
    · rintro (rfl | h')
      · exact h
      · exact h'
  · rw [List.mem_append, List.mem_singleton, or_comm]
open Classical in
theorem addN_nodup (l : List Str) (s : Str) (h : l.Nodup) : (addN l s).Nodup := by
  unfold addN
  split
  · exact h
  · rename_i hs
    rw [List.nodup_append]
    refine ⟨h, by simp, fun a ha b hb => ?_⟩
    rw [List.mem_singleton.1 hb]
    intro e
    exact hs (e ▸ ha)
noncomputable def nmF (ns : List Str) (x : Ex) : List Str := if x.kind = 2 then addN ns x.name else ns
noncomputable def nmR (ns : List Str) (x : Ex) : List Str := if x.kind = 2 then putS ns x.name else ns
def tgF (t : Nat) (x : Ex) : Nat := if x.kind = 2 then max t x.targs.length else t
theorem nmF_mem : ∀ (L : List Ex) (l : List Str) (x : Str), x ∈ L.foldl nmF l ↔ (∃ e ∈ L, e.kind = 2 ∧ x = e.name) ∨ x ∈ l
  | [], l, x => by simp
  | s :: L, l, x => by
    rw [List.foldl_cons, nmF_mem L (nmF l s) x]
    unfold nmF
    split
    · rename_i h2
      rw [addN_mem]
      constructor
      · rintro (⟨t, ht, h⟩ | h | h)
        · exact .inl ⟨t, List.mem_cons_of_mem _ ht, h⟩
        · exact .inl ⟨s, List.mem_cons_self, h2, h⟩
        · exact .inr h
      · rintro (⟨t, ht, h3, h⟩ | h)
        · rcases List.mem_cons.1 ht with rfl | ht
          · exact .inr (.inl h)
          · exact .inl ⟨t, ht, h3, h⟩
        · exact .inr (.inr h)
    · rename_i h2
      constructor
      · rintro (⟨t, ht, h⟩ | h)
        · exact .inl ⟨t, List.mem_cons_of_mem _ ht, h⟩
        · exact .inr h
      · rintro (⟨t, ht, h3, h⟩ | h)
        · rcases List.mem_cons.1 ht with rfl | ht
          · exact absurd h3 h2
          · exact .inl ⟨t, ht, h3, h⟩
        · exact .inr h
theorem nmR_mem : ∀ (L : List Ex) (l : List Str) (x : Str), x ∈ L.foldl nmR l ↔ (∃ e ∈ L, e.kind = 2 ∧ x = e.name) ∨ x ∈ l
  | [], l, x => by simp
  | s :: L, l, x => by
    rw [List.foldl_cons, nmR_mem L (nmR l s) x]
    unfold nmR
    split
    · rename_i h2
      rw [putS_mem]
      constructor
      · rintro (⟨t, ht, h⟩ | h | h)
        · exact .inl ⟨t, List.mem_cons_of_mem _ ht, h⟩
        · exact .inl ⟨s, List.mem_cons_self, h2, h⟩
        · exact .inr h
      · rintro (⟨t, ht, h3, h⟩ | h)
        · rcases List.mem_cons.1 ht with rfl | ht
          · exact .inr (.inl h)
          · exact .inl ⟨t, ht, h3, h⟩
        · exact .inr (.inr h)
    · rename_i h2
      constructor
      · rintro (⟨t, ht, h⟩ | h)
        · exact .inl ⟨t, List.mem_cons_of_mem _ ht, h⟩
        · exact .inr h
      · rintro (⟨t, ht, h3, h⟩ | h)
        · rcases List.mem_cons.1 ht with rfl | ht
          · exact absurd h3 h2
          · exact .inl ⟨t, ht, h3, h⟩
        · exact .inr h
theorem nmF_nodup : ∀ (L : List Ex) (l : List Str), l.Nodup → (L.foldl nmF l).Nodup
  | [], _, h => h
  | s :: L, l, h => nmF_nodup L _ (by unfold nmF; split; exact addN_nodup _ _ h; exact h)
theorem nmR_nodup : ∀ (L : List Ex) (l : List Str), l.Nodup → (L.foldl nmR l).Nodup
  | [], _, h => h
  | s :: L, l, h => nmR_nodup L _ (by unfold nmR; split; exact putS_nodup _ _ h; exact h)
theorem nmR_len : ∀ (L : List Ex) (l : List Str), (L.foldl nmR l).length ≤ l.length + L.length
  | [], l => by simp
  | s :: L, l => by
    have h1 := nmR_len L (nmR l s)
    have h2 : (nmR l s).length ≤ l.length + 1 := by
      unfold nmR
      split
      · exact putS_len _ _
      · omega
    simp only [List.foldl_cons, List.length_cons]
    omega
theorem tgF_le : ∀ (L : List Ex) (n b : Nat), n ≤ b → (∀ e ∈ L, e.targs.length ≤ b) → L.foldl tgF n ≤ b
  | [], n, b, h, _ => h
  | s :: L, n, b, h, hl => by
    refine tgF_le L _ b ?_ fun e he => hl e (List.mem_cons_of_mem _ he)
    unfold tgF
    split
    · exact Nat.max_le.2 ⟨h, hl s List.mem_cons_self⟩
    · exact h
theorem tgF_out : ∀ (L : List Ex) (n : Nat), L.foldl tgF n = max n (L.foldl tgF 0)
  | [], n => by simp
  | s :: L, n => by
    rw [List.foldl_cons, List.foldl_cons, tgF_out L (tgF n s), tgF_out L (tgF 0 s)]
    unfold tgF
    split <;> omega
theorem tgF_swap (A B : List Ex) : (A ++ B).foldl tgF 0 = (B ++ A).foldl tgF 0 := by
  rw [List.foldl_append, List.foldl_append, tgF_out B (A.foldl tgF 0), tgF_out A (B.foldl tgF 0)]
  omega
theorem nm_same (A B : List Ex) (h : ∀ e, e ∈ A ↔ e ∈ B) : (A.foldl nmF []).length = (B.foldl nmR []).length := by
  refine List.Perm.length_eq ?_
  rw [List.perm_ext_iff_of_nodup (nmF_nodup _ _ .nil) (nmR_nodup _ _ .nil)]
  intro x
  rw [nmF_mem, nmR_mem]
  simp only [h]
theorem mmN (a b : Nat) : (if a < b then (b : Int) else (a : Int)) = ((max a b : Nat) : Int) := by
  split <;> omega

/-- The counts as cells. -/
abbrev cC (dc fo tg dp : Nat) (q : Nat) : List D := [dN dc, dN fo, dN tg, dN dp, .mref ⟨q, 8, 0⟩]
abbrev cS (dc fo tg dp : Nat) (ns : List Str) (q : Nat) : Sto := [(⟨q, 3, 0⟩, .box 56 (cC dc fo tg dp q)), (⟨q, 8, 0⟩, .map ksS (nsE ns))]
set_option maxRecDepth 100000 in
theorem cexpr_calls (q dc fo tg dp : Nat) (ns : List Str) (e : Ex) (he : okEx e) (g d : Nat) :
    ACalls E 52 [.ptr ⟨q, 3, 0⟩ 0, encEx e] (cS dc fo tg dp ns q) g d (.tup []) (cS dc fo ((nodesEx e).foldl tgF tg) dp ((nodesEx e).foldl nmF ns) q) := by
  refine acalls_of_awp (fn := Tryz.f52) (N := 28) Tryz.call52 Tryz.func52 rfl rfl (by simp) ?_
  simp only [go_sem]
  refine awp_seq_k (fun K1 hK1 => ?_)
  refine awp_plain 2 (by kernel_rfl) rfl (fun g0 hg0 => ?_)
  simp only [go_sem]
  refine hK1 _ ?_
  refine awp_seq_k (fun K2 hK2 => ?_)
  have hn0_q : g0 ≠ q := fresh_g hg0 3 0 (by simp [go_sem])
  refine awp_ops (by kernel_rfl) rfl (fun g1 hg1 ops1 KR1 hops1 hKR1 => ?_)
  refine aops_eval 1 hops1 ?_
  simp only [go_sem, Ne.symm hn0_q]
  refine aops_pure hops1 rfl rfl rfl (allX_calls e _ _) (.cons (Co.of_eq (by rw [encEx_agg]; rfl)) .nil) ?_
  refine aops_last 0 hops1 ?_
  simp only [go_sem]
  refine hKR1 _ ?_
  refine hK2 _ ?_
  refine awp_block ?_
  refine awp_range_k rfl rfl (by decide) ((nodesEx e).map encEx) (fun k σ => ∀ n o, Ab.get ((⟨g0, 2, 0⟩, .box 131 [.ptr ⟨q, 3, 0⟩ 0]) :: cS dc fo (((nodesEx e).take k).foldl tgF tg) dp (((nodesEx e).take k).foldl nmF ns) q) n = some o → Ab.get σ n = some o) (sub_of ?_) (fun n I hY => all1_calls e he n I hY) (fun k hk σ hσ KA hKA => ?_) (fun σ hσ => ?_)
  · simp only [go_sem, cC, List.foldl_nil, hn0_q, Ne.symm hn0_q]
    try trivial
  · have hk' : k < (nodesEx e).length := by simpa using hk
    have hn1 := fold_take tgF tg hk'
    have hn2 := fold_take nmF ns hk'
    refine awp_keepT (st' := { env := [(7, encEx (nodesEx e)[k]), (2, .ptr ⟨g0, 2, 0⟩ 0)], σ := (⟨g0, 2, 0⟩, .box 131 [.ptr ⟨q, 3, 0⟩ 0]) :: cS dc fo (((nodesEx e).take k).foldl tgF tg) dp (((nodesEx e).take k).foldl nmF ns) q }) ⟨leE_spec ?_, hσ⟩ ?_
    · simp only [go_sem, List.getElem_map]
      try trivial
    generalize (nodesEx e)[k] = X at *
    generalize ((nodesEx e).take k).foldl tgF tg = T at *
    generalize ((nodesEx e).take k).foldl nmF ns = S at *
    rw [hn1, hn2] at hKA
    refine awp_plain 2 (by kernel_rfl) rfl (fun g2 hg2 => ?_)
    simp only [go_sem, cS, cC]
    refine hKA _ (fun KB hKB => ?_)
    refine awp_block ?_
    refine awp_seq_k (fun K3 hK3 => ?_)
    by_cases h2 : X.kind = 2
    · have e1 : tgF T X = max T X.targs.length := by unfold tgF; rw [if_pos h2]
      have e2 : nmF S X = addN S X.name := by unfold nmF; rw [if_pos h2]
      rw [e1, e2] at hKB
      refine awp_plain 3 (by kernel_rfl) rfl (fun g3 hg3 => ?_)
      simp only [go_sem, h2, decide_true]
      refine hK3 _ ?_
      refine awp_t rfl ?_
      refine awp_seq_k (fun K4 hK4 => ?_)
      refine awp_any 6 (by kernel_rfl) (by kernel_rfl) rfl (fun g4 hg4 ops4 KR4 hops4 hKR4 => ?_)
      refine qrun_last 6 hops4 ?_
      simp only [go_sem, hn0_q, Ne.symm hn0_q]
      refine aops_last 1 hops4 ?_
      simp only [go_sem, mput_ns, hn0_q]
      refine hKR4 _ ?_
      refine hK4 _ ?_
      refine awp_any 11 (by kernel_rfl) (by kernel_rfl) rfl (fun g5 hg5 ops5 KR5 hops5 hKR5 => ?_)
      refine qrun_last 11 hops5 ?_
      simp only [go_sem, mmN, hn0_q, Ne.symm hn0_q]
      refine aops_last 1 hops5 ?_
      simp only [go_sem, hn0_q]
      refine hKR5 _ ?_
      refine hKB _ ?_
      refine sub_of ?_
      simp only [go_sem, cC, hn0_q, Ne.symm hn0_q]
      try trivial
    · have e1 : tgF T X = T := by unfold tgF; rw [if_neg h2]
      have e2 : nmF S X = S := by unfold nmF; rw [if_neg h2]
      rw [e1, e2] at hKB
      refine awp_plain 3 (by kernel_rfl) rfl (fun g3 hg3 => ?_)
      simp only [go_sem, h2, decide_false]
      refine hK3 _ ?_
      refine awp_f rfl ?_
      refine awp_skip ?_
      refine hKB _ ?_
      refine sub_of ?_
      simp only [go_sem, cC, hn0_q, Ne.symm hn0_q]
      try trivial
  · rw [List.length_map, List.take_length] at hσ
    refine ends_keep rfl (fun p hp => hσ p.1 p.2 ?_) ?_
    · rcases List.mem_cons.1 hp with rfl | hp
      · simp only [go_sem, cC, hn0_q]
      · rw [List.mem_singleton.1 hp]
        simp only [go_sem, cC, hn0_q]
    simp only [go_sem]
    exact Co.refl _
end Go.Proofs.T


namespace Go.Proofs.T
open Go Go.Ab Go.RowKit

/-! ## A program counted -/

theorem ifN (a b : Nat) : (if a < b then b else a) = max a b := by split <;> omega
set_option maxRecDepth 100000 in
theorem depthI_calls : ∀ t : Ty, okTy t → (namesTy t).length ≤ 1000000 → ∀ g d, ACalls E 51 [encTy t] [] g d (dN (depTy t)) [] := by
  intro t
  induction t using Ty.ind with
  | h t ih =>
  intro hok0 hlen g d
  have hok := (okTy_iff t).1 hok0
  have hdl := depTy_le t
  rw [depTy_eq, depTys_dmax] at hdl
  refine acalls_of_awp (fn := Tryz.f51) (N := 20) Tryz.call51 Tryz.func51 rfl rfl (by simp) ?_
  simp only [go_sem]
  refine awp_seq_k (fun K1 hK1 => ?_)
  refine awp_plain 2 (by kernel_rfl) rfl (fun g0 hg0 => ?_)
  simp only [go_sem]
  refine hK1 _ ?_
  refine awp_seq_k (fun K2 hK2 => ?_)
  refine awp_plain 1 (by kernel_rfl) rfl (fun g1 hg1 => ?_)
  simp only [go_sem]
  refine hK2 _ ?_
  refine awp_seq_k (fun K3 hK3 => ?_)
  refine awp_seq_k (fun K4 hK4 => ?_)
  refine awp_plain 4 (by kernel_rfl) rfl (fun g2 hg2 => ?_)
  simp only [go_sem]
  refine hK4 _ ?_
  refine awp_block ?_
  refine awp_loop (fun m s => ∃ k n, k ≤ t.args.length ∧ m = t.args.length - k ∧ dmax (t.args.drop k) n = dmax t.args 0 ∧ Le { env := [(7, slTy t.args), (8, dN t.args.length), (3, dN n), (9, dN k)], σ := [] } s) t.args.length ?_ ?_
  · refine ⟨0, 0, Nat.zero_le _, rfl, rfl, le_of ?_⟩
    simp only [go_sem]
    all_goals first | exact rfl | exact ⟨rfl, rfl⟩ | trivial
  · rintro m s ⟨k, n, hk, rfl, hc, hle⟩
    refine awp_keep hle ?_
    clear hle
    refine awp_seq_k (fun K5 hK5 => ?_)
    by_cases hlt : k < t.args.length
    · have hkn := Nat.le_trans (wN_mem (List.getElem_mem hlt)) (show wN t.args ≤ 1000000 by rw [namesTy_eq] at hlen; simp at hlen; unfold wN; omega)
      have hge := dmax_ge (t.args.drop k) n
      rw [dmax_drop hlt, ifN] at hc
      refine awp_plain 1 (by kernel_rfl) rfl (fun g3 hg3 => ?_)
      simp only [go_sem, hlt]
      refine hK5 _ ?_
      refine awp_seq_k (fun K6 hK6 => ?_)
      refine awp_t rfl ?_
      refine awp_skip ?_
      refine hK6 _ ?_
      refine awp_seq_k (fun K7 hK7 => ?_)
      refine awp_block ?_
      refine awp_seq_k (fun K8 hK8 => ?_)
      refine awp_plain 4 (by kernel_rfl) rfl (fun g4 hg4 => ?_)
      simp only [go_sem, getM hlt]
      refine hK8 _ ?_
      refine awp_ops (by kernel_rfl) rfl (fun g5 hg5 ops5 KR5 hops5 hKR5 => ?_)
      refine aops_eval 2 hops5 ?_
      simp only [go_sem]
      refine aops_pure hops5 rfl rfl rfl (ih _ (List.getElem_mem hlt) (hok.2.2 _ (List.getElem_mem hlt)) hkn _ _) (CoL.refl _) ?_
      refine aops_last 2 hops5 ?_
      simp only [go_sem]
      refine hKR5 _ ?_
      refine hK7 _ ?_
      refine awp_plain 2 (by kernel_rfl) rfl (fun g6 hg6 => ?_)
      simp only [go_sem, mmN]
      try simp (disch := omega) only [wrapN]
      refine ⟨_, ?_, k + 1, _, hlt, rfl, hc, le_of ?_⟩
      · omega
      simp only [go_sem]
      all_goals first | exact rfl | exact ⟨rfl, rfl⟩ | trivial | omega
    · have : k = t.args.length := by omega
      subst this
      rw [List.drop_length] at hc
      have hd : depTy t = 1 + n := by rw [depTy_eq, depTys_dmax, ← hc]; rfl
      have hn : n = dmax t.args 0 := hc
      refine awp_plain 1 (by kernel_rfl) rfl (fun g3 hg3 => ?_)
      simp only [go_sem, hlt]
      refine hK5 _ ?_
      refine awp_seq_k (fun K9 hK9 => ?_)
      refine awp_f rfl ?_
      refine awp_exit ?_
      refine hK3 _ ?_
      refine awp_seq_k (fun K10 hK10 => ?_)
      refine awp_plain 3 (by kernel_rfl) rfl (fun g7 hg7 => ?_)
      simp only [go_sem]
      try simp (disch := omega) only [wrapN]
      refine hK10 _ ?_
      refine awp_ret ?_
      refine ends_ev rfl ?_
      simp only [go_sem]
      exact Co.of_eq (by rw [hd]; simp [Int.add_comm])

/-- The nodes of the bodies. -/
def exD (d : Dec) : List Ex := if d.kind = 3 then nodesEx d.body else []
def exB (l : List Dec) : List Ex := l.flatMap exD
def dcF (n : Nat) (d : Dec) : Nat := if d.kind = 3 then n else n + 1
def foF (n : Nat) (d : Dec) : Nat := if d.kind = 3 then n else max n d.formals.length
theorem dcF_le : ∀ (l : List Dec) (n : Nat), l.foldl dcF n ≤ n + l.length
  | [], n => Nat.le_refl _
  | d :: l, n => by
    have h1 := dcF_le l (dcF n d)
    have h2 : dcF n d ≤ n + 1 := by unfold dcF; split <;> omega
    simp only [List.foldl_cons, List.length_cons]
    omega
theorem foF_le : ∀ (l : List Dec) (n b : Nat), n ≤ b → (∀ d ∈ l, d.formals.length ≤ b) → l.foldl foF n ≤ b
  | [], n, b, h, _ => h
  | s :: L, n, b, h, hl => by
    refine foF_le L _ b ?_ fun e he => hl e (List.mem_cons_of_mem _ he)
    unfold foF
    split
    · exact h
    · exact Nat.max_le.2 ⟨h, hl s List.mem_cons_self⟩
theorem exB_take (l : List Dec) (k : Nat) (h : k < l.length) : exB (l.take (k + 1)) = exB (l.take k) ++ exD l[k] := flat_take exD h

abbrev cV (dc fo tg dp : Nat) (ns : List Str) : D := .agg [dN dc, dN fo, dN tg, dN dp, .fmap ksS (nsE ns)]
noncomputable def cntD (p : Prg) : D := cV (p.decls.foldl dcF 0) (p.decls.foldl foF 0) ((exB p.decls ++ nodesEx p.main).foldl tgF 0) (dmax (tyPr p) 1) ((exB p.decls ++ nodesEx p.main).foldl nmF [])
abbrev zCc : List D := [dI 0, dI 0, dI 0, dI 0, .val (.map none)]
set_option maxRecDepth 100000 in
theorem countP_calls (p : Prg) (hp : smPr p) (hw : wN (prTys p) ≤ 1000000) (hw2 : (tyPr p).length ≤ 300000) (g d : Nat) : ACalls E 24 [encPr p] [] g d (cntD p) [] := by
  have hok := okTys_pr hp
  have hp' := hp
  obtain ⟨⟨k1, k2⟩, k3⟩ := hp
  refine acalls_of_awp (fn := Tryz.f24) (N := 53) Tryz.call24 Tryz.func24 rfl rfl (by simp) ?_
  simp only [go_sem]
  refine awp_seq_k (fun K1 hK1 => ?_)
  refine awp_plain 2 (by kernel_rfl) rfl (fun g0 hg0 => ?_)
  simp only [go_sem]
  refine hK1 _ ?_
  refine awp_seq_k (fun K2 hK2 => ?_)
  refine awp_plain 4 (by kernel_rfl) rfl (fun g1 hg1 => ?_)
  simp only [go_sem]
  refine hK2 _ ?_
  refine awp_seq_k (fun K3 hK3 => ?_)
  refine awp_seq_k (fun K4 hK4 => ?_)
  refine awp_ops (by kernel_rfl) rfl (fun g2 hg2 ops2 KR2 hops2 hKR2 => ?_)
  refine aops_eval 1 hops2 ?_
  simp only [go_sem]
  refine aops_pure hops2 rfl rfl rfl (typesD_calls p hp' hw2 _ _) (CoL.refl _) ?_
  refine aops_last 2 hops2 ?_
  simp only [go_sem]
  refine hKR2 _ ?_
  refine hK4 _ ?_
  refine awp_block ?_
  refine awp_loop (fun m s => ∃ k n, k ≤ (tyPr p).length ∧ m = (tyPr p).length - k ∧ dmax ((tyPr p).drop k) n = dmax (tyPr p) 1 ∧ Le { env := [(1, .ptr ⟨g0, 1, 0⟩ 0), (2, .ptr ⟨g0, 2, 0⟩ 0), (3, .ptr ⟨g1, 3, 0⟩ 0), (11, slTy (tyPr p)), (12, dN (tyPr p).length), (13, dN k)], σ := [(⟨g0, 1, 0⟩, .box 30 (prC p)), (⟨g0, 2, 0⟩, .box 56 zCc), (⟨g1, 3, 0⟩, .box 56 (cC 0 0 0 n g1)), (⟨g1, 8, 0⟩, .map ksS (nsE []))] } s) (tyPr p).length ?_ ?_
  · refine ⟨0, 1, Nat.zero_le _, rfl, rfl, le_of ?_⟩
    simp only [go_sem, nsE]
    all_goals first | exact rfl | exact ⟨rfl, rfl⟩ | trivial
  · rintro m s ⟨k, n, hk, rfl, hc, hle⟩
    refine awp_keep hle ?_
    clear hle
    refine awp_seq_k (fun K5 hK5 => ?_)
    by_cases hlt : k < (tyPr p).length
    · have hmem := List.getElem_mem hlt
      have hkn : (namesTy (tyPr p)[k]).length ≤ 1000000 := Nat.le_trans (wN_mem (tyPr_sub p _ hmem)) (by omega)
      rw [dmax_drop hlt, ifN] at hc
      refine awp_plain 1 (by kernel_rfl) rfl (fun g3 hg3 => ?_)
      simp only [go_sem, hlt]
      refine hK5 _ ?_
      refine awp_seq_k (fun K6 hK6 => ?_)
      refine awp_t rfl ?_
      refine awp_skip ?_
      refine hK6 _ ?_
      refine awp_seq_k (fun K7 hK7 => ?_)
      refine awp_block ?_
      refine awp_seq_k (fun K8 hK8 => ?_)
      refine awp_plain 4 (by kernel_rfl) rfl (fun g4 hg4 => ?_)
      simp only [go_sem, getM hlt]
      refine hK8 _ ?_
      refine awp_any 6 (by kernel_rfl) (by kernel_rfl) rfl (fun g5 hg5 ops5 KR5 hops5 hKR5 => ?_)
      refine qrun_eval 3 hops5 ?_
      simp only [go_sem]
      refine qrun_pure hops5 rfl rfl rfl (depthI_calls _ (hok _ hmem) hkn _ _) (CoL.refl _) rfl ?_
      refine qrun_last 2 hops5 ?_
      simp only [go_sem, mmN]
      refine aops_last 1 hops5 ?_
      simp only [go_sem]
      refine hKR5 _ ?_
      refine hK7 _ ?_
      refine awp_plain 2 (by kernel_rfl) rfl (fun g6 hg6 => ?_)
      simp only [go_sem]
      try simp (disch := omega) only [wrapN]
      refine ⟨_, ?_, k + 1, _, hlt, rfl, hc, le_of ?_⟩
      · omega
      simp only [go_sem]
      all_goals first | exact rfl | exact ⟨rfl, rfl⟩ | trivial | omega
    · have : k = (tyPr p).length := by omega
      subst this
      rw [List.drop_length] at hc
      have hn : n = dmax (tyPr p) 1 := hc
      clear hc
      refine awp_plain 1 (by kernel_rfl) rfl (fun g3 hg3 => ?_)
      simp only [go_sem, hlt]
      refine hK5 _ ?_
      refine awp_seq_k (fun K9 hK9 => ?_)
      refine awp_f rfl ?_
      refine awp_exit ?_
      refine hK3 _ ?_
      refine awp_seq_k (fun K10 hK10 => ?_)
      refine awp_seq_k (fun K11 hK11 => ?_)
      refine awp_plain 4 (by kernel_rfl) rfl (fun g7 hg7 => ?_)
      simp only [go_sem]
      refine hK11 _ ?_
      refine awp_block ?_
      refine awp_loop (fun m s => ∃ k, k ≤ p.decls.length ∧ m = p.decls.length - k ∧ Le { env := [(1, .ptr ⟨g0, 1, 0⟩ 0), (2, .ptr ⟨g0, 2, 0⟩ 0), (3, .ptr ⟨g1, 3, 0⟩ 0), (25, slDe p.decls), (26, dN p.decls.length), (27, dN k)], σ := [(⟨g0, 1, 0⟩, .box 30 (prC p)), (⟨g0, 2, 0⟩, .box 56 zCc), (⟨g1, 3, 0⟩, .box 56 (cC ((p.decls.take k).foldl dcF 0) ((p.decls.take k).foldl foF 0) ((exB (p.decls.take k)).foldl tgF 0) n g1)), (⟨g1, 8, 0⟩, .map ksS (nsE ((exB (p.decls.take k)).foldl nmF [])))] } s) p.decls.length ?_ ?_
      · refine ⟨0, Nat.zero_le _, rfl, le_of ?_⟩
        simp only [go_sem, nsE, List.foldl_nil, show exB [] = [] from rfl]
        all_goals first | exact rfl | exact ⟨rfl, rfl⟩ | trivial
      · rintro m s ⟨k, hk, rfl, hle⟩
        refine awp_keep hle ?_
        clear hle
        refine awp_seq_k (fun K12 hK12 => ?_)
        by_cases hlt : k < p.decls.length
        · have hgm := getM (f := encDe) hlt
          have hde := k2 _ (List.getElem_mem hlt)
          have n1 := fold_take dcF 0 hlt
          have n2 := fold_take foF 0 hlt
          have n3 := exB_take p.decls k hlt
          have hdl := dcF_le (p.decls.take k) 0
          rw [List.length_take_of_le hk] at hdl
          refine awp_plain 1 (by kernel_rfl) rfl (fun g8 hg8 => ?_)
          simp only [go_sem, hlt]
          refine hK12 _ ?_
          refine awp_seq_k (fun K13 hK13 => ?_)
          refine awp_t rfl ?_
          refine awp_skip ?_
          refine hK13 _ ?_
          refine awp_seq_k (fun K14 hK14 => ?_)
          refine awp_block ?_
          refine awp_seq_k (fun K15 hK15 => ?_)
          generalize p.decls[k] = D at *
          generalize (p.decls.take k).foldl dcF 0 = DC at *
          generalize (p.decls.take k).foldl foF 0 = FO at *
          generalize exB (p.decls.take k) = X at *
          refine awp_plain 4 (by kernel_rfl) rfl (fun g9 hg9 => ?_)
          simp only [go_sem, hgm]
          refine hK15 _ ?_
          refine awp_seq_k (fun K16 hK16 => ?_)
          refine awp_seq_k (fun K17 hK17 => ?_)
          by_cases h3 : D.kind = 3
          · have e1 : dcF DC D = DC := by unfold dcF; rw [if_pos h3]
            have e2 : foF FO D = FO := by unfold foF; rw [if_pos h3]
            have e3 : exD D = nodesEx D.body := by unfold exD; rw [if_pos h3]
            rw [e1] at n1
            rw [e2] at n2
            rw [e3] at n3
            refine awp_plain 3 (by kernel_rfl) rfl (fun g10 hg10 => ?_)
            simp only [go_sem, h3, decide_true]
            refine hK17 _ ?_
            refine awp_t rfl ?_
            refine awp_seq_k (fun K18 hK18 => ?_)
            refine awp_ops (by kernel_rfl) rfl (fun g11 hg11 ops11 KR11 hops11 hKR11 => ?_)
            refine aops_eval 2 hops11 ?_
            simp only [go_sem]
            refine aops_call hops11 rfl rfl rfl (cexpr_calls g1 DC FO (X.foldl tgF 0) n (X.foldl nmF []) D.body (smEx.ok _ hde.2.2.2.2.2.2.2) _ _) (CoL.refl _) (by simp [go_sem]) ?_
            refine aops_last 0 hops11 ?_
            simp only [go_sem]
            refine hKR11 _ ?_
            refine hK18 _ ?_
            refine awp_exit ?_
            refine hK14 _ ?_
            refine awp_plain 2 (by kernel_rfl) rfl (fun g14 hg14 => ?_)
            simp only [go_sem]
            try simp (disch := omega) only [wrapN]
            refine ⟨_, ?_, k + 1, hlt, rfl, le_of ?_⟩
            · omega
            simp only [go_sem, n1, n2, n3, List.foldl_append]
            all_goals first | exact rfl | exact ⟨rfl, rfl⟩ | trivial | omega
          · have e1 : dcF DC D = DC + 1 := by unfold dcF; rw [if_neg h3]
            have e2 : foF FO D = max FO D.formals.length := by unfold foF; rw [if_neg h3]
            have e3 : exD D = [] := by unfold exD; rw [if_neg h3]
            rw [e1] at n1
            rw [e2] at n2
            rw [e3, List.append_nil] at n3
            refine awp_plain 3 (by kernel_rfl) rfl (fun g10 hg10 => ?_)
            simp only [go_sem, h3, decide_false]
            refine hK17 _ ?_
            refine awp_f rfl ?_
            refine awp_skip ?_
            refine hK16 _ ?_
            refine awp_seq_k (fun K19 hK19 => ?_)
            refine awp_plain 5 (by kernel_rfl) rfl (fun g12 hg12 => ?_)
            simp only [go_sem]
            try simp (disch := omega) only [wrapN]
            refine hK19 _ ?_
            refine awp_plain 8 (by kernel_rfl) rfl (fun g13 hg13 => ?_)
            simp only [go_sem, mmN]
            refine hK14 _ ?_
            refine awp_plain 2 (by kernel_rfl) rfl (fun g14 hg14 => ?_)
            simp only [go_sem]
            try simp (disch := omega) only [wrapN]
            refine ⟨_, ?_, k + 1, hlt, rfl, le_of ?_⟩
            · omega
            simp only [go_sem, n1, n2, n3]
            all_goals first | exact rfl | exact ⟨rfl, rfl⟩ | trivial | omega
        · have : k = p.decls.length := by omega
          subst this
          refine awp_plain 1 (by kernel_rfl) rfl (fun g8 hg8 => ?_)
          simp only [go_sem, hlt, List.take_length]
          refine hK12 _ ?_
          refine awp_seq_k (fun K20 hK20 => ?_)
          refine awp_f rfl ?_
          refine awp_exit ?_
          refine hK10 _ ?_
          refine awp_seq_k (fun K21 hK21 => ?_)
          refine awp_ops (by kernel_rfl) rfl (fun g15 hg15 ops15 KR15 hops15 hKR15 => ?_)
          refine aops_eval 2 hops15 ?_
          simp only [go_sem]
          refine aops_call hops15 rfl rfl rfl (cexpr_calls g1 (p.decls.foldl dcF 0) (p.decls.foldl foF 0) ((exB p.decls).foldl tgF 0) n ((exB p.decls).foldl nmF []) p.main (smEx.ok _ k3) _ _) (CoL.refl _) (by simp [go_sem]) ?_
          refine aops_last 0 hops15 ?_
          simp only [go_sem]
          refine hKR15 _ ?_
          refine hK21 _ ?_
          refine awp_seq_k (fun K22 hK22 => ?_)
          refine awp_plain 2 (by kernel_rfl) rfl (fun g16 hg16 => ?_)
          simp only [go_sem]
          refine hK22 _ ?_
          refine awp_ret ?_
          refine ret_fmap ⟨g1, 8, 0⟩ ?_
          simp only [go_sem]
          refine ends_ev rfl ?_
          simp only [go_sem]
          exact Co.of_eq (by unfold cntD cV; rw [List.foldl_append, List.foldl_append, hn])
end Go.Proofs.T

