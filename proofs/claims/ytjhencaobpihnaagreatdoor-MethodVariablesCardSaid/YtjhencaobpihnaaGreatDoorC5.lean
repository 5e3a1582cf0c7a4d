/- A part of the proof, under no conditions of its own: C5. -/
import Derived.Test.YtjhencaobpihnaaGreatDoorC4
namespace Go.Proofs.T
open Go Go.Ab Go.RowKit

/-! ## The reference: method sets -/

set_option maxHeartbeats 1000000 in
theorem refSet_calls (p : Prg) (h : smPr p) (env : List Formal) (he : env.length ≤ 1000000) (he2 : ∀ f ∈ env, smFm f) (x : Ty) (hx : smTy x) (g d : Nat) : ACalls E 12 [encPr p, slFm env, encTy x] [] g d (slSi (setOf p env x)) [] := by
  have hf0 := find_calls env x (by omega) (smTy.ok _ hx)
  have e0 : (if x.args.length = 0 then optI (env.findIdx? fun f => isS x.name f.name) else -1) = optI (if x.args.length = 0 then env.findIdx? fun f => isS x.name f.name else none) := by split <;> rfl
  rw [e0] at hf0
  have hbo : boundOf env x = (if x.args.length = 0 then env.findIdx? fun f => isS x.name f.name else none).bind fun i => env[i]?.map (·.bound) := by
    unfold boundOf
    split <;> rfl
  have hfl : ∀ i, (if x.args.length = 0 then env.findIdx? fun f => isS x.name f.name else none) = some i → i < env.length := by
    intro i hi
    split at hi
    · exact (List.findIdx?_eq_some_iff_getElem.1 hi).1
    · cases hi
  generalize (if x.args.length = 0 then env.findIdx? fun f => isS x.name f.name else none) = fi at hf0 hbo hfl
  refine acalls_of_awp (fn := Tryz.f12) (N := 77) Tryz.call12 Tryz.func12 rfl rfl (by simp) ?_
  simp only [go_sem]
  refine awp_seq_k (fun K1 hK1 => ?_)
  refine awp_plain 3 (by kernel_rfl) rfl (fun g0 hg0 => ?_)
  simp only [go_sem]
  refine hK1 _ ?_
  refine awp_seq_k (fun K2 hK2 => ?_)
  refine awp_plain 1 (by kernel_rfl) rfl (fun g1 hg1 => ?_)
  simp only [go_sem]
  refine hK2 _ ?_
  refine awp_seq_k (fun K3 hK3 => ?_)
  refine awp_ops (by kernel_rfl) rfl (fun g2 hg2 ops2 KR2 hops2 hKR2 => ?_)
  refine aops_eval 2 hops2 ?_
  simp only [go_sem]
  cases fi with
  | none =>
    have hb : boundOf env x = none := by rw [hbo]; rfl
    have h1 : ¬ ((0 : Int) ≤ -1) := by decide
    have h2 : ((-1 : Int) < 0) = True := by simp
    refine aops_pure hops2 rfl rfl rfl (hf0 _ _) (CoL.refl _) ?_
    refine aops_last 1 hops2 ?_
    simp only [go_sem]
    refine hKR2 _ ?_
    refine hK3 _ ?_
    refine awp_seq_k (fun K4 hK4 => ?_)
    refine awp_seq_k (fun K5 hK5 => ?_)
    refine awp_plain 2 (by kernel_rfl) rfl (fun g3 hg3 => ?_)
    simp only [go_sem, h1, decide_false, optI]
    refine hK5 _ ?_
    refine awp_f rfl ?_
    refine awp_skip ?_
    refine hK4 _ ?_
    refine awp_seq_k (fun K6 hK6 => ?_)
    refine awp_seq_k (fun K7 hK7 => ?_)
    refine awp_ops (by kernel_rfl) rfl (fun g5 hg5 ops5 KR5 hops5 hKR5 => ?_)
    refine aops_eval 2 hops5 ?_
    simp only [go_sem]
    have hX : smTy x := hx
    cases hi : instOf p x 2 with
    | true =>
      have hbase : baseOf p env x = spOf p x := by simp [baseOf, hb, hi]
      obtain ⟨j, hj⟩ := instOf_find (by decide) hi
      have hown := refSpecs_own p h x hX j hj
      rw [show specsOf ((tyDe p (x).name).getD zeroDe) (x).args = spOf p x by simp [spOf, hi]] at hown
      refine aops_pure hops5 rfl rfl rfl (refInst_calls p x 2 h.1.1 _ _) (CoL.refl _) ?_
      refine aops_last 0 hops5 ?_
      simp only [go_sem, hi]
      refine hKR5 _ ?_
      refine hK7 _ ?_
      refine awp_t rfl ?_
      refine awp_ops (by kernel_rfl) rfl (fun g6 hg6 ops6 KR6 hops6 hKR6 => ?_)
      refine aops_eval 2 hops6 ?_
      simp only [go_sem]
      refine aops_pure hops6 rfl rfl rfl (hown _ _) (CoL.refl _) ?_
      refine aops_last 1 hops6 ?_
      simp only [go_sem]
      refine hKR6 _ ?_
      refine hK6 _ ?_
      refine awp_seq_k (fun K8 hK8 => ?_)
      refine awp_seq_k (fun K9 hK9 => ?_)
      have hll : (spOf p x).length ≤ 1000000 := (spOf_sm h hX).1
      have hsm : ∀ s ∈ (spOf p x), smSi s := (spOf_sm h hX).2
      refine awp_plain 1 (by kernel_rfl) rfl (fun g9 hg9 => ?_)
      simp only [go_sem]
      refine hK9 _ ?_
      refine awp_block ?_
      refine awp_loop (fun m s => ∃ k l', k ≤ (spOf p x).length ∧ m = (spOf p x).length - k ∧ l'.Perm (spOf p x) ∧ Upto ltSi l' k ∧
          Le { env := [(9, dN k), (7, .own ⟨g6, 27, 1⟩ (spOf p x).length)], σ := [(⟨g6, 27, 1⟩, .arr 42 7 (l'.map encSi))] } s) (spOf p x).length ?_ ?_
      · refine ⟨0, (spOf p x), Nat.zero_le _, rfl, .refl _, upto_zero _ _, le_of ?_⟩
        simp only [go_sem]
        try trivial
      · rintro m s ⟨k, l', hk, rfl, hp, hup, hle⟩
        refine awp_keep hle ?_
        clear hle
        have hlen := hp.length_eq
        by_cases hlt : k < (spOf p x).length
        · refine awp_seq_k (fun K10 hK10 => ?_)
          refine awp_seq_k (fun K11 hK11 => ?_)
          refine awp_plain 4 (by kernel_rfl) rfl (fun g10 hg10 => ?_)
          simp only [go_sem, hlt]
          refine hK11 _ ?_
          refine awp_t rfl ?_
          refine awp_skip ?_
          refine hK10 _ ?_
          refine awp_seq_k (fun K12 hK12 => ?_)
          refine awp_block ?_
          refine awp_seq_k (fun K13 hK13 => ?_)
          refine awp_plain 2 (by kernel_rfl) rfl (fun g12 hg12 => ?_)
          simp only [go_sem]
          refine hK13 _ ?_
          refine awp_block ?_
          refine awp_loop (fun n s => ∃ l', n ≤ k ∧ l'.Perm (spOf p x) ∧ Mid ltSi l' k n ∧
              Le { env := [(9, dN k), (10, dN n), (7, .own ⟨g6, 27, 1⟩ (spOf p x).length)], σ := [(⟨g6, 27, 1⟩, .arr 42 7 (l'.map encSi))] } s) k ?_ ?_
          · refine ⟨l', Nat.le_refl _, hp, upto_mid hup, le_of ?_⟩
            simp only [go_sem]
          · clear hp hup hlen
            rintro n s ⟨l', hnk, hp, hmid, hle⟩
            refine awp_keep hle ?_
            clear hle
            have hlen := hp.length_eq
            by_cases hn0 : n = 0
            · subst hn0
              have hz : ¬ ((0 : Int) < 0) := by decide
              refine awp_seq_k (fun K14 hK14 => ?_)
              refine awp_seq_k (fun K15 hK15 => ?_)
              refine awp_anyq (by kernel_rfl) rfl (fun g13 hg13 ops13 KR13 hops13 hKR13 => ?_)
              refine qrun_last 17 hops13 ?_
              simp only [go_sem, hz, decide_false, show ((0 : Nat) : Int) = 0 from rfl]
              try simp (disch := omega) only [wrapN, wrapB, Int.tdiv_eq_ediv_of_nonneg, Int.tmod_eq_emod_of_nonneg]
              refine hKR13 _ ?_
              refine hK15 _ ?_
              refine awp_f rfl ?_
              refine awp_exit ?_
              refine hK12 _ ?_
              refine awp_plain 3 (by kernel_rfl) rfl (fun g11 hg11 => ?_)
              simp only [go_sem]
              try simp (disch := omega) only [wrapN]
              refine ⟨_, ?_, k + 1, l', hlt, rfl, hp, mid_zero hmid, le_of ?_⟩
              · omega
              simp only [go_sem]
              omega
            · obtain ⟨q, rfl⟩ : ∃ q, n = q + 1 := ⟨n - 1, by omega⟩
              have hq1 : q + 1 < l'.length := by omega
              have hq0 : q < l'.length := by omega
              have hpos : (0 : Int) < ((q + 1 : Nat) : Int) := by omega
              have hwr : IntKind.i64.wrap (((q + 1 : Nat) : Int) - 1) = (q : Int) := by rw [wrapN _ (by omega) (by omega)]; omega
              have hx := List.getElem?_eq_getElem hq0
              have hy := List.getElem?_eq_getElem hq1
              have hsz : l'[q + 1].name.size ≤ 9223372036854775807 := by have := (hsm _ (hp.subset (List.getElem_mem hq1))).1; omega
              refine awp_seq_k (fun K16 hK16 => ?_)
              refine awp_seq_k (fun K17 hK17 => ?_)
              refine awp_anyq (by kernel_rfl) rfl (fun g13 hg13 ops13 KR13 hops13 hKR13 => ?_)
              refine qrun_eval 14 hops13 ?_
              simp only [go_sem, getM hq0, getM hq1, hpos, decide_true, hq0, hq1, hwr]
              try simp (disch := omega) only [wrapN, wrapB, Int.tdiv_eq_ediv_of_nonneg, Int.tmod_eq_emod_of_nonneg]
              cases hl : ltSi l'[q + 1] l'[q] with
              | false =>
                have hl' : ¬ (cmpS l'[q + 1].name l'[q].name < 0) := of_decide_eq_false hl
                refine qrun_pure hops13 rfl rfl rfl (compareS_calls l'[q + 1].name l'[q].name hsz _ _) (CoL.refl _) rfl ?_
                refine qrun_last 2 hops13 ?_
                simp only [go_sem, hl', decide_false]
                refine hKR13 _ ?_
                refine hK17 _ ?_
                refine awp_f rfl ?_
                refine awp_exit ?_
                refine hK12 _ ?_
                refine awp_plain 3 (by kernel_rfl) rfl (fun g11 hg11 => ?_)
                simp only [go_sem]
                try simp (disch := omega) only [wrapN]
                refine ⟨_, ?_, k + 1, l', hlt, rfl, hp, mid_stop swoSi hmid hnk hx hy hl, le_of ?_⟩
                · omega
                simp only [go_sem]
                omega
              | true =>
                have hl' : cmpS l'[q + 1].name l'[q].name < 0 := of_decide_eq_true hl
                refine qrun_pure hops13 rfl rfl rfl (compareS_calls l'[q + 1].name l'[q].name hsz _ _) (CoL.refl _) rfl ?_
                refine qrun_last 2 hops13 ?_
                simp only [go_sem, hl', decide_true, decide_true]
                refine hKR13 _ ?_
                refine hK17 _ ?_
                refine awp_t rfl ?_
                refine awp_skip ?_
                refine hK16 _ ?_
                refine awp_seq_k (fun K18 hK18 => ?_)
                refine awp_block ?_
                refine awp_seq_k (fun K19 hK19 => ?_)
                have hq2 : q < (l'.set (q + 1) l'[q]).length := by rw [List.length_set]; omega
                have hset1 : (l'.map encSi).set (q + 1) (D.agg [.val (.string l'[q].name), .sl false (l'[q].formals.map encFm), .sl false (l'[q].params.map encPa), .val (.string l'[q].result.name), .sl false (l'[q].result.args.map encTy), .val (.int .i64 l'[q].result.pos), .val (.int .i64 l'[q].pos)]) = (l'.set (q + 1) l'[q]).map encSi := by rw [List.map_set]; rfl
                have hset2 : ((l'.set (q + 1) l'[q]).map encSi).set q (D.agg [.val (.string l'[q + 1].name), .sl false (l'[q + 1].formals.map encFm), .sl false (l'[q + 1].params.map encPa), .val (.string l'[q + 1].result.name), .sl false (l'[q + 1].result.args.map encTy), .val (.int .i64 l'[q + 1].result.pos), .val (.int .i64 l'[q + 1].pos)]) = ((l'.set (q + 1) l'[q]).set q l'[q + 1]).map encSi := by rw [List.map_set (l := l'.set (q + 1) l'[q])]; rfl
                refine awp_plain 6 (by kernel_rfl) rfl (fun g15 hg15 => ?_)
                simp only [go_sem, getM hq1, hq1, siC, encSi]
                refine hK19 _ ?_
                refine awp_seq_k (fun K20 hK20 => ?_)
                refine awp_plain 9 (by kernel_rfl) rfl (fun g16 hg16 => ?_)
                simp only [go_sem, getM hq0, getM hq1, hset1, hq0, hq1, hwr, siC, encSi]
                try simp (disch := omega) only [wrapN, wrapB, Int.tdiv_eq_ediv_of_nonneg, Int.tmod_eq_emod_of_nonneg]
                refine hK20 _ ?_
                refine awp_plain 6 (by kernel_rfl) rfl (fun g17 hg17 => ?_)
                simp only [go_sem, hq2, getM hq2, hset2, hwr, siC, encSi]
                try simp (disch := omega) only [wrapN, wrapB, Int.tdiv_eq_ediv_of_nonneg, Int.tmod_eq_emod_of_nonneg]
                refine hK18 _ ?_
                refine awp_plain 3 (by kernel_rfl) rfl (fun g14 hg14 => ?_)
                simp only [go_sem, hwr]
                try simp (disch := omega) only [wrapN, wrapB, Int.tdiv_eq_ediv_of_nonneg, Int.tmod_eq_emod_of_nonneg]
                refine ⟨q, Nat.lt_succ_self _, _, by omega, (swap_perm hx hy).trans hp, mid_swap swoSi hmid hnk hx hy hl, le_of ?_⟩
                simp only [go_sem]
        · refine awp_seq_k (fun K21 hK21 => ?_)
          refine awp_seq_k (fun K22 hK22 => ?_)
          refine awp_plain 4 (by kernel_rfl) rfl (fun g10 hg10 => ?_)
          simp only [go_sem, hlt]
          refine hK22 _ ?_
          refine awp_f rfl ?_
          refine awp_exit ?_
          refine hK8 _ ?_
          refine awp_seq_k (fun K23 hK23 => ?_)
          refine awp_plain 2 (by kernel_rfl) rfl (fun g18 hg18 => ?_)
          simp only [go_sem]
          refine hK23 _ ?_
          refine awp_ret ?_
          have hkk : k = l'.length := by omega
          rw [hkk] at hup
          refine ret_frz ⟨g6, 27, 1⟩ ?_
          simp only [go_sem]
          have hfin : l' = setOf p env x := by rw [setOf, hbase]; exact srt_uniq swoSi (Names1.inj (spOf_names p x)) hp (upto_ord hup)
          refine ends_ev rfl ?_
          simp only [go_sem]
          exact Co.of_eq (congrArg (fun l => D.sl false (l.map encSi)) hfin)
    | false =>
      refine aops_pure hops5 rfl rfl rfl (refInst_calls p x 2 h.1.1 _ _) (CoL.refl _) ?_
      refine aops_last 0 hops5 ?_
      simp only [go_sem, hi]
      refine hKR5 _ ?_
      refine hK7 _ ?_
      refine awp_f rfl ?_
      refine awp_seq_k (fun K24 hK24 => ?_)
      have hbase : baseOf p env x = mthsOf p x := by simp [baseOf, hb, hi]
      have hms := smMths h ((smTy_iff x).1 hx).2.2
      refine awp_plain 2 (by kernel_rfl) rfl (fun g7 hg7 => ?_)
      simp only [go_sem, h2, decide_true]
      refine hK24 _ ?_
      refine awp_t rfl ?_
      refine awp_ops (by kernel_rfl) rfl (fun g8 hg8 ops8 KR8 hops8 hKR8 => ?_)
      refine aops_eval 2 hops8 ?_
      simp only [go_sem]
      refine aops_pure hops8 rfl rfl rfl (refMethods_own p h x hx _ _) (CoL.refl _) ?_
      refine aops_last 1 hops8 ?_
      simp only [go_sem]
      refine hKR8 _ ?_
      refine hK6 _ ?_
      refine awp_seq_k (fun K25 hK25 => ?_)
      refine awp_seq_k (fun K26 hK26 => ?_)
      have hll : (mthsOf p x).length ≤ 1000000 := (by have := hms.1; omega)
      have hsm : ∀ s ∈ (mthsOf p x), smSi s := hms.2
      refine awp_plain 1 (by kernel_rfl) rfl (fun g9 hg9 => ?_)
      simp only [go_sem]
      refine hK26 _ ?_
      refine awp_block ?_
      refine awp_loop (fun m s => ∃ k l', k ≤ (mthsOf p x).length ∧ m = (mthsOf p x).length - k ∧ l'.Perm (mthsOf p x) ∧ Upto ltSi l' k ∧
          Le { env := [(9, dN k), (7, .own ⟨g8, 32, 1⟩ (mthsOf p x).length)], σ := [(⟨g8, 32, 1⟩, .arr 42 7 (l'.map encSi))] } s) (mthsOf p x).length ?_ ?_
      · refine ⟨0, (mthsOf p x), Nat.zero_le _, rfl, .refl _, upto_zero _ _, le_of ?_⟩
        simp only [go_sem]
        try trivial
      · rintro m s ⟨k, l', hk, rfl, hp, hup, hle⟩
        refine awp_keep hle ?_
        clear hle
        have hlen := hp.length_eq
        by_cases hlt : k < (mthsOf p x).length
        · refine awp_seq_k (fun K27 hK27 => ?_)
          refine awp_seq_k (fun K28 hK28 => ?_)
          refine awp_plain 4 (by kernel_rfl) rfl (fun g10 hg10 => ?_)
          simp only [go_sem, hlt]
          refine hK28 _ ?_
          refine awp_t rfl ?_
          refine awp_skip ?_
          refine hK27 _ ?_
          refine awp_seq_k (fun K29 hK29 => ?_)
          refine awp_block ?_
          refine awp_seq_k (fun K30 hK30 => ?_)
          refine awp_plain 2 (by kernel_rfl) rfl (fun g12 hg12 => ?_)
          simp only [go_sem]
          refine hK30 _ ?_
          refine awp_block ?_
          refine awp_loop (fun n s => ∃ l', n ≤ k ∧ l'.Perm (mthsOf p x) ∧ Mid ltSi l' k n ∧
              Le { env := [(9, dN k), (10, dN n), (7, .own ⟨g8, 32, 1⟩ (mthsOf p x).length)], σ := [(⟨g8, 32, 1⟩, .arr 42 7 (l'.map encSi))] } s) k ?_ ?_
          · refine ⟨l', Nat.le_refl _, hp, upto_mid hup, le_of ?_⟩
            simp only [go_sem]
          · clear hp hup hlen
            rintro n s ⟨l', hnk, hp, hmid, hle⟩
            refine awp_keep hle ?_
            clear hle
            have hlen := hp.length_eq
            by_cases hn0 : n = 0
            · subst hn0
              have hz : ¬ ((0 : Int) < 0) := by decide
              refine awp_seq_k (fun K31 hK31 => ?_)
              refine awp_seq_k (fun K32 hK32 => ?_)
              refine awp_anyq (by kernel_rfl) rfl (fun g13 hg13 ops13 KR13 hops13 hKR13 => ?_)
              refine qrun_last 17 hops13 ?_
              simp only [go_sem, hz, decide_false, show ((0 : Nat) : Int) = 0 from rfl]
              try simp (disch := omega) only [wrapN, wrapB, Int.tdiv_eq_ediv_of_nonneg, Int.tmod_eq_emod_of_nonneg]
              refine hKR13 _ ?_
              refine hK32 _ ?_
              refine awp_f rfl ?_
              refine awp_exit ?_
              refine hK29 _ ?_
              refine awp_plain 3 (by kernel_rfl) rfl (fun g11 hg11 => ?_)
              simp only [go_sem]
              try simp (disch := omega) only [wrapN]
              refine ⟨_, ?_, k + 1, l', hlt, rfl, hp, mid_zero hmid, le_of ?_⟩
              · omega
              simp only [go_sem]
              omega
            · obtain ⟨q, rfl⟩ : ∃ q, n = q + 1 := ⟨n - 1, by omega⟩
              have hq1 : q + 1 < l'.length := by omega
              have hq0 : q < l'.length := by omega
              have hpos : (0 : Int) < ((q + 1 : Nat) : Int) := by omega
              have hwr : IntKind.i64.wrap (((q + 1 : Nat) : Int) - 1) = (q : Int) := by rw [wrapN _ (by omega) (by omega)]; omega
              have hx := List.getElem?_eq_getElem hq0
              have hy := List.getElem?_eq_getElem hq1
              have hsz : l'[q + 1].name.size ≤ 9223372036854775807 := by have := (hsm _ (hp.subset (List.getElem_mem hq1))).1; omega
              refine awp_seq_k (fun K33 hK33 => ?_)
              refine awp_seq_k (fun K34 hK34 => ?_)
              refine awp_anyq (by kernel_rfl) rfl (fun g13 hg13 ops13 KR13 hops13 hKR13 => ?_)
              refine qrun_eval 14 hops13 ?_
              simp only [go_sem, getM hq0, getM hq1, hpos, decide_true, hq0, hq1, hwr]
              try simp (disch := omega) only [wrapN, wrapB, Int.tdiv_eq_ediv_of_nonneg, Int.tmod_eq_emod_of_nonneg]
              cases hl : ltSi l'[q + 1] l'[q] with
              | false =>
                have hl' : ¬ (cmpS l'[q + 1].name l'[q].name < 0) := of_decide_eq_false hl
                refine qrun_pure hops13 rfl rfl rfl (compareS_calls l'[q + 1].name l'[q].name hsz _ _) (CoL.refl _) rfl ?_
                refine qrun_last 2 hops13 ?_
                simp only [go_sem, hl', decide_false]
                refine hKR13 _ ?_
                refine hK34 _ ?_
                refine awp_f rfl ?_
                refine awp_exit ?_
                refine hK29 _ ?_
                refine awp_plain 3 (by kernel_rfl) rfl (fun g11 hg11 => ?_)
                simp only [go_sem]
                try simp (disch := omega) only [wrapN]
                refine ⟨_, ?_, k + 1, l', hlt, rfl, hp, mid_stop swoSi hmid hnk hx hy hl, le_of ?_⟩
                · omega
                simp only [go_sem]
                omega
              | true =>
                have hl' : cmpS l'[q + 1].name l'[q].name < 0 := of_decide_eq_true hl
                refine qrun_pure hops13 rfl rfl rfl (compareS_calls l'[q + 1].name l'[q].name hsz _ _) (CoL.refl _) rfl ?_
                refine qrun_last 2 hops13 ?_
                simp only [go_sem, hl', decide_true, decide_true]
                refine hKR13 _ ?_
                refine hK34 _ ?_
                refine awp_t rfl ?_
                refine awp_skip ?_
                refine hK33 _ ?_
                refine awp_seq_k (fun K35 hK35 => ?_)
                refine awp_block ?_
                refine awp_seq_k (fun K36 hK36 => ?_)
                have hq2 : q < (l'.set (q + 1) l'[q]).length := by rw [List.length_set]; omega
                have hset1 : (l'.map encSi).set (q + 1) (D.agg [.val (.string l'[q].name), .sl false (l'[q].formals.map encFm), .sl false (l'[q].params.map encPa), .val (.string l'[q].result.name), .sl false (l'[q].result.args.map encTy), .val (.int .i64 l'[q].result.pos), .val (.int .i64 l'[q].pos)]) = (l'.set (q + 1) l'[q]).map encSi := by rw [List.map_set]; rfl
                have hset2 : ((l'.set (q + 1) l'[q]).map encSi).set q (D.agg [.val (.string l'[q + 1].name), .sl false (l'[q + 1].formals.map encFm), .sl false (l'[q + 1].params.map encPa), .val (.string l'[q + 1].result.name), .sl false (l'[q + 1].result.args.map encTy), .val (.int .i64 l'[q + 1].result.pos), .val (.int .i64 l'[q + 1].pos)]) = ((l'.set (q + 1) l'[q]).set q l'[q + 1]).map encSi := by rw [List.map_set (l := l'.set (q + 1) l'[q])]; rfl
                refine awp_plain 6 (by kernel_rfl) rfl (fun g15 hg15 => ?_)
                simp only [go_sem, getM hq1, hq1, siC, encSi]
                refine hK36 _ ?_
                refine awp_seq_k (fun K37 hK37 => ?_)
                refine awp_plain 9 (by kernel_rfl) rfl (fun g16 hg16 => ?_)
                simp only [go_sem, getM hq0, getM hq1, hset1, hq0, hq1, hwr, siC, encSi]
                try simp (disch := omega) only [wrapN, wrapB, Int.tdiv_eq_ediv_of_nonneg, Int.tmod_eq_emod_of_nonneg]
                refine hK37 _ ?_
                refine awp_plain 6 (by kernel_rfl) rfl (fun g17 hg17 => ?_)
                simp only [go_sem, hq2, getM hq2, hset2, hwr, siC, encSi]
                try simp (disch := omega) only [wrapN, wrapB, Int.tdiv_eq_ediv_of_nonneg, Int.tmod_eq_emod_of_nonneg]
                refine hK35 _ ?_
                refine awp_plain 3 (by kernel_rfl) rfl (fun g14 hg14 => ?_)
                simp only [go_sem, hwr]
                try simp (disch := omega) only [wrapN, wrapB, Int.tdiv_eq_ediv_of_nonneg, Int.tmod_eq_emod_of_nonneg]
                refine ⟨q, Nat.lt_succ_self _, _, by omega, (swap_perm hx hy).trans hp, mid_swap swoSi hmid hnk hx hy hl, le_of ?_⟩
                simp only [go_sem]
        · refine awp_seq_k (fun K38 hK38 => ?_)
          refine awp_seq_k (fun K39 hK39 => ?_)
          refine awp_plain 4 (by kernel_rfl) rfl (fun g10 hg10 => ?_)
          simp only [go_sem, hlt]
          refine hK39 _ ?_
          refine awp_f rfl ?_
          refine awp_exit ?_
          refine hK25 _ ?_
          refine awp_seq_k (fun K40 hK40 => ?_)
          refine awp_plain 2 (by kernel_rfl) rfl (fun g18 hg18 => ?_)
          simp only [go_sem]
          refine hK40 _ ?_
          refine awp_ret ?_
          have hkk : k = l'.length := by omega
          rw [hkk] at hup
          refine ret_frz ⟨g8, 32, 1⟩ ?_
          simp only [go_sem]
          have hfin : l' = setOf p env x := by rw [setOf, hbase]; exact srt_uniq swoSi (Names1.inj (mthsOf_names p x)) hp (upto_ord hup)
          refine ends_ev rfl ?_
          simp only [go_sem]
          exact Co.of_eq (congrArg (fun l => D.sl false (l.map encSi)) hfin)
  | some i =>
    have hil := hfl i rfl
    have hb : boundOf env x = some env[i].bound := by rw [hbo]; simp [hil]
    have h1 : ((0 : Int) ≤ i) = True := by simp
    have h2 : ¬ ((i : Int) < 0) := by omega
    have hbs := boundOf_sm he2 hb
    refine aops_pure hops2 rfl rfl rfl (hf0 _ _) (CoL.refl _) ?_
    refine aops_last 1 hops2 ?_
    simp only [go_sem]
    refine hKR2 _ ?_
    refine hK3 _ ?_
    refine awp_seq_k (fun K41 hK41 => ?_)
    refine awp_seq_k (fun K42 hK42 => ?_)
    refine awp_plain 2 (by kernel_rfl) rfl (fun g3 hg3 => ?_)
    simp only [go_sem, h1, decide_true, optI]
    refine hK42 _ ?_
    refine awp_t rfl ?_
    refine awp_plain 6 (by kernel_rfl) rfl (fun g4 hg4 => ?_)
    simp only [go_sem, getM hil]
    refine hK41 _ ?_
    refine awp_seq_k (fun K43 hK43 => ?_)
    refine awp_seq_k (fun K44 hK44 => ?_)
    refine awp_ops (by kernel_rfl) rfl (fun g5 hg5 ops5 KR5 hops5 hKR5 => ?_)
    refine aops_eval 2 hops5 ?_
    simp only [go_sem]
    have hX : smTy env[i].bound := hbs
    cases hi : instOf p env[i].bound 2 with
    | true =>
      have hbase : baseOf p env x = spOf p env[i].bound := by simp [baseOf, hb, hi]
      obtain ⟨j, hj⟩ := instOf_find (by decide) hi
      have hown := refSpecs_own p h env[i].bound hX j hj
      rw [show specsOf ((tyDe p (env[i].bound).name).getD zeroDe) (env[i].bound).args = spOf p env[i].bound by simp [spOf, hi]] at hown
      refine aops_pure hops5 rfl rfl rfl (refInst_calls p env[i].bound 2 h.1.1 _ _) (CoL.refl _) ?_
      refine aops_last 0 hops5 ?_
      simp only [go_sem, hi]
      refine hKR5 _ ?_
      refine hK44 _ ?_
      refine awp_t rfl ?_
      refine awp_ops (by kernel_rfl) rfl (fun g6 hg6 ops6 KR6 hops6 hKR6 => ?_)
      refine aops_eval 2 hops6 ?_
      simp only [go_sem]
      refine aops_pure hops6 rfl rfl rfl (hown _ _) (CoL.refl _) ?_
      refine aops_last 1 hops6 ?_
      simp only [go_sem]
      refine hKR6 _ ?_
      refine hK43 _ ?_
      refine awp_seq_k (fun K45 hK45 => ?_)
      refine awp_seq_k (fun K46 hK46 => ?_)
      have hll : (spOf p env[i].bound).length ≤ 1000000 := (spOf_sm h hX).1
      have hsm : ∀ s ∈ (spOf p env[i].bound), smSi s := (spOf_sm h hX).2
      refine awp_plain 1 (by kernel_rfl) rfl (fun g9 hg9 => ?_)
      simp only [go_sem]
      refine hK46 _ ?_
      refine awp_block ?_
      refine awp_loop (fun m s => ∃ k l', k ≤ (spOf p env[i].bound).length ∧ m = (spOf p env[i].bound).length - k ∧ l'.Perm (spOf p env[i].bound) ∧ Upto ltSi l' k ∧
          Le { env := [(9, dN k), (7, .own ⟨g6, 27, 1⟩ (spOf p env[i].bound).length)], σ := [(⟨g6, 27, 1⟩, .arr 42 7 (l'.map encSi))] } s) (spOf p env[i].bound).length ?_ ?_
      · refine ⟨0, (spOf p env[i].bound), Nat.zero_le _, rfl, .refl _, upto_zero _ _, le_of ?_⟩
        simp only [go_sem]
        try trivial
      · rintro m s ⟨k, l', hk, rfl, hp, hup, hle⟩
        refine awp_keep hle ?_
        clear hle
        have hlen := hp.length_eq
        by_cases hlt : k < (spOf p env[i].bound).length
        · refine awp_seq_k (fun K47 hK47 => ?_)
          refine awp_seq_k (fun K48 hK48 => ?_)
          refine awp_plain 4 (by kernel_rfl) rfl (fun g10 hg10 => ?_)
          simp only [go_sem, hlt]
          refine hK48 _ ?_
          refine awp_t rfl ?_
          refine awp_skip ?_
          refine hK47 _ ?_
          refine awp_seq_k (fun K49 hK49 => ?_)
          refine awp_block ?_
          refine awp_seq_k (fun K50 hK50 => ?_)
          refine awp_plain 2 (by kernel_rfl) rfl (fun g12 hg12 => ?_)
          simp only [go_sem]
          refine hK50 _ ?_
          refine awp_block ?_
          refine awp_loop (fun n s => ∃ l', n ≤ k ∧ l'.Perm (spOf p env[i].bound) ∧ Mid ltSi l' k n ∧
              Le { env := [(9, dN k), (10, dN n), (7, .own ⟨g6, 27, 1⟩ (spOf p env[i].bound).length)], σ := [(⟨g6, 27, 1⟩, .arr 42 7 (l'.map encSi))] } s) k ?_ ?_
          · refine ⟨l', Nat.le_refl _, hp, upto_mid hup, le_of ?_⟩
            simp only [go_sem]
          · clear hp hup hlen
            rintro n s ⟨l', hnk, hp, hmid, hle⟩
            refine awp_keep hle ?_
            clear hle
            have hlen := hp.length_eq
            by_cases hn0 : n = 0
            · subst hn0
              have hz : ¬ ((0 : Int) < 0) := by decide
              refine awp_seq_k (fun K51 hK51 => ?_)
              refine awp_seq_k (fun K52 hK52 => ?_)
              refine awp_anyq (by kernel_rfl) rfl (fun g13 hg13 ops13 KR13 hops13 hKR13 => ?_)
              refine qrun_last 17 hops13 ?_
              simp only [go_sem, hz, decide_false, show ((0 : Nat) : Int) = 0 from rfl]
              try simp (disch := omega) only [wrapN, wrapB, Int.tdiv_eq_ediv_of_nonneg, Int.tmod_eq_emod_of_nonneg]
              refine hKR13 _ ?_
              refine hK52 _ ?_
              refine awp_f rfl ?_
              refine awp_exit ?_
              refine hK49 _ ?_
              refine awp_plain 3 (by kernel_rfl) rfl (fun g11 hg11 => ?_)
              simp only [go_sem]
              try simp (disch := omega) only [wrapN]
              refine ⟨_, ?_, k + 1, l', hlt, rfl, hp, mid_zero hmid, le_of ?_⟩
              · omega
              simp only [go_sem]
              omega
            · obtain ⟨q, rfl⟩ : ∃ q, n = q + 1 := ⟨n - 1, by omega⟩
              have hq1 : q + 1 < l'.length := by omega
              have hq0 : q < l'.length := by omega
              have hpos : (0 : Int) < ((q + 1 : Nat) : Int) := by omega
              have hwr : IntKind.i64.wrap (((q + 1 : Nat) : Int) - 1) = (q : Int) := by rw [wrapN _ (by omega) (by omega)]; omega
              have hx := List.getElem?_eq_getElem hq0
              have hy := List.getElem?_eq_getElem hq1
              have hsz : l'[q + 1].name.size ≤ 9223372036854775807 := by have := (hsm _ (hp.subset (List.getElem_mem hq1))).1; omega
              refine awp_seq_k (fun K53 hK53 => ?_)
              refine awp_seq_k (fun K54 hK54 => ?_)
              refine awp_anyq (by kernel_rfl) rfl (fun g13 hg13 ops13 KR13 hops13 hKR13 => ?_)
              refine qrun_eval 14 hops13 ?_
              simp only [go_sem, getM hq0, getM hq1, hpos, decide_true, hq0, hq1, hwr]
              try simp (disch := omega) only [wrapN, wrapB, Int.tdiv_eq_ediv_of_nonneg, Int.tmod_eq_emod_of_nonneg]
              cases hl : ltSi l'[q + 1] l'[q] with
              | false =>
                have hl' : ¬ (cmpS l'[q + 1].name l'[q].name < 0) := of_decide_eq_false hl
                refine qrun_pure hops13 rfl rfl rfl (compareS_calls l'[q + 1].name l'[q].name hsz _ _) (CoL.refl _) rfl ?_
                refine qrun_last 2 hops13 ?_
                simp only [go_sem, hl', decide_false]
                refine hKR13 _ ?_
                refine hK54 _ ?_
                refine awp_f rfl ?_
                refine awp_exit ?_
                refine hK49 _ ?_
                refine awp_plain 3 (by kernel_rfl) rfl (fun g11 hg11 => ?_)
                simp only [go_sem]
                try simp (disch := omega) only [wrapN]
                refine ⟨_, ?_, k + 1, l', hlt, rfl, hp, mid_stop swoSi hmid hnk hx hy hl, le_of ?_⟩
                · omega
                simp only [go_sem]
                omega
              | true =>
                have hl' : cmpS l'[q + 1].name l'[q].name < 0 := of_decide_eq_true hl
                refine qrun_pure hops13 rfl rfl rfl (compareS_calls l'[q + 1].name l'[q].name hsz _ _) (CoL.refl _) rfl ?_
                refine qrun_last 2 hops13 ?_
                simp only [go_sem, hl', decide_true, decide_true]
                refine hKR13 _ ?_
                refine hK54 _ ?_
                refine awp_t rfl ?_
                refine awp_skip ?_
                refine hK53 _ ?_
                refine awp_seq_k (fun K55 hK55 => ?_)
                refine awp_block ?_
                refine awp_seq_k (fun K56 hK56 => ?_)
                have hq2 : q < (l'.set (q + 1) l'[q]).length := by rw [List.length_set]; omega
                have hset1 : (l'.map encSi).set (q + 1) (D.agg [.val (.string l'[q].name), .sl false (l'[q].formals.map encFm), .sl false (l'[q].params.map encPa), .val (.string l'[q].result.name), .sl false (l'[q].result.args.map encTy), .val (.int .i64 l'[q].result.pos), .val (.int .i64 l'[q].pos)]) = (l'.set (q + 1) l'[q]).map encSi := by rw [List.map_set]; rfl
                have hset2 : ((l'.set (q + 1) l'[q]).map encSi).set q (D.agg [.val (.string l'[q + 1].name), .sl false (l'[q + 1].formals.map encFm), .sl false (l'[q + 1].params.map encPa), .val (.string l'[q + 1].result.name), .sl false (l'[q + 1].result.args.map encTy), .val (.int .i64 l'[q + 1].result.pos), .val (.int .i64 l'[q + 1].pos)]) = ((l'.set (q + 1) l'[q]).set q l'[q + 1]).map encSi := by rw [List.map_set (l := l'.set (q + 1) l'[q])]; rfl
                refine awp_plain 6 (by kernel_rfl) rfl (fun g15 hg15 => ?_)
                simp only [go_sem, getM hq1, hq1, siC, encSi]
                refine hK56 _ ?_
                refine awp_seq_k (fun K57 hK57 => ?_)
                refine awp_plain 9 (by kernel_rfl) rfl (fun g16 hg16 => ?_)
                simp only [go_sem, getM hq0, getM hq1, hset1, hq0, hq1, hwr, siC, encSi]
                try simp (disch := omega) only [wrapN, wrapB, Int.tdiv_eq_ediv_of_nonneg, Int.tmod_eq_emod_of_nonneg]
                refine hK57 _ ?_
                refine awp_plain 6 (by kernel_rfl) rfl (fun g17 hg17 => ?_)
                simp only [go_sem, hq2, getM hq2, hset2, hwr, siC, encSi]
                try simp (disch := omega) only [wrapN, wrapB, Int.tdiv_eq_ediv_of_nonneg, Int.tmod_eq_emod_of_nonneg]
                refine hK55 _ ?_
                refine awp_plain 3 (by kernel_rfl) rfl (fun g14 hg14 => ?_)
                simp only [go_sem, hwr]
                try simp (disch := omega) only [wrapN, wrapB, Int.tdiv_eq_ediv_of_nonneg, Int.tmod_eq_emod_of_nonneg]
                refine ⟨q, Nat.lt_succ_self _, _, by omega, (swap_perm hx hy).trans hp, mid_swap swoSi hmid hnk hx hy hl, le_of ?_⟩
                simp only [go_sem]
        · refine awp_seq_k (fun K58 hK58 => ?_)
          refine awp_seq_k (fun K59 hK59 => ?_)
          refine awp_plain 4 (by kernel_rfl) rfl (fun g10 hg10 => ?_)
          simp only [go_sem, hlt]
          refine hK59 _ ?_
          refine awp_f rfl ?_
          refine awp_exit ?_
          refine hK45 _ ?_
          refine awp_seq_k (fun K60 hK60 => ?_)
          refine awp_plain 2 (by kernel_rfl) rfl (fun g18 hg18 => ?_)
          simp only [go_sem]
          refine hK60 _ ?_
          refine awp_ret ?_
          have hkk : k = l'.length := by omega
          rw [hkk] at hup
          refine ret_frz ⟨g6, 27, 1⟩ ?_
          simp only [go_sem]
          have hfin : l' = setOf p env x := by rw [setOf, hbase]; exact srt_uniq swoSi (Names1.inj (spOf_names p env[i].bound)) hp (upto_ord hup)
          refine ends_ev rfl ?_
          simp only [go_sem]
          exact Co.of_eq (congrArg (fun l => D.sl false (l.map encSi)) hfin)
    | false =>
      refine aops_pure hops5 rfl rfl rfl (refInst_calls p env[i].bound 2 h.1.1 _ _) (CoL.refl _) ?_
      refine aops_last 0 hops5 ?_
      simp only [go_sem, hi]
      refine hKR5 _ ?_
      refine hK44 _ ?_
      refine awp_f rfl ?_
      refine awp_seq_k (fun K61 hK61 => ?_)
      have hsp : spOf p env[i].bound = [] := by simp [spOf, hi]
      have hbase : baseOf p env x = [] := by simp [baseOf, hb, hsp]
      refine awp_plain 2 (by kernel_rfl) rfl (fun g7 hg7 => ?_)
      simp only [go_sem, h2, decide_false]
      refine hK61 _ ?_
      refine awp_f rfl ?_
      refine awp_skip ?_
      refine hK43 _ ?_
      refine awp_seq_k (fun K62 hK62 => ?_)
      refine awp_seq_k (fun K63 hK63 => ?_)
      refine awp_nil 7 42 7 rfl fun gn hgn => ?_
      refine awp_plain 1 (by kernel_rfl) rfl (fun g9 hg9 => ?_)
      simp only [go_sem]
      refine hK63 _ ?_
      refine awp_block ?_
      refine awp_loop (fun m s => m = 0 ∧ Le { env := [(9, dN 0), (7, .own ⟨gn, 0, 0⟩ 0)], σ := [(⟨gn, 0, 0⟩, .arr 42 7 [])] } s) 0 ⟨rfl, le_of ?_⟩ ?_
      · simp only [go_sem]
        try trivial
      · rintro m s ⟨rfl, hle⟩
        refine awp_keep hle ?_
        clear hle
        have hz : ¬ ((0 : Int) < 0) := by decide
        refine awp_seq_k (fun K64 hK64 => ?_)
        refine awp_seq_k (fun K65 hK65 => ?_)
        refine awp_plain 4 (by kernel_rfl) rfl (fun g10 hg10 => ?_)
        simp only [go_sem, hz, decide_false, show ((0 : Nat) : Int) = 0 from rfl]
        refine hK65 _ ?_
        refine awp_f rfl ?_
        refine awp_exit ?_
        refine hK62 _ ?_
        refine awp_seq_k (fun K66 hK66 => ?_)
        refine awp_plain 2 (by kernel_rfl) rfl (fun g18 hg18 => ?_)
        simp only [go_sem]
        refine hK66 _ ?_
        refine awp_ret ?_
        refine ret_frz ⟨gn, 0, 0⟩ ?_
        simp only [go_sem]
        have hfin : ([] : List Sig) = setOf p env x := by rw [setOf, hbase, srt_nil]
        refine ends_ev rfl ?_
        simp only [go_sem]
        exact Co.of_eq (congrArg (fun l => D.sl false (l.map encSi)) hfin)
end Go.Proofs.T

