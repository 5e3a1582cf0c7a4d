/- A part of the proof, under no conditions of its own: ZAM. -/
import Derived.Test.YtkddeobmfhchfaaDoorZAL
import Derived.Test.YtkddeobmfhchfaaDoorZAK
namespace Go.Proofs.T
open Go Go.Ab Go.RowKit

/-! ## Copies that are the call's own -/

theorem copiesFmO (l : List Formal) (f : Nat) (hl : l.length ≤ 1000000) (hf : ∀ x ∈ l, ∀ g d, ACalls E f [encFm x] [] g d (encFm x) []) (g d : Nat) :
    ACalls E 70 [slFm l, .func (.func f) [] []] [] g d (.own ⟨g, d, 1⟩ l.length) [(⟨g, d, 1⟩, .arr 60 5 (l.map encFm))] := by
    refine acalls_of_awp (fn := Tryd.f70) (N := 22) Tryd.call70 Tryd.func70 rfl rfl (by simp) ?_
    simp only [go_sem]
    refine awp_seq_k (fun K1 hK1 => ?_)
    refine awp_plain 1 (by kernel_rfl) rfl (fun g0 hg0 => ?_)
    simp only [go_sem]
    refine hK1 _ ?_
    refine awp_seq_k (fun K2 hK2 => ?_)
    refine awp_plain 1 (by kernel_rfl) rfl (fun g1 hg1 => ?_)
    simp only [go_sem]
    refine hK2 _ ?_
    refine awp_seq_k (fun K3 hK3 => ?_)
    refine awp_seq_k (fun K4 hK4 => ?_)
    refine awp_plain 3 (by kernel_rfl) rfl (fun g2 hg2 => ?_)
    simp only [go_sem]
    refine hK4 _ ?_
    refine awp_block ?_
    refine awp_nil 5 60 5 rfl fun gn hgn => ?_
    refine awp_loop (fun m s => ∃ k a i, k ≤ l.length ∧ m = l.length - k ∧
        Le { env := [(1, .func (.func f) [] []), (8, .sl false (l.map encFm)), (9, dN l.length), (10, dN k), (5, .own ⟨a, i, 0⟩ k)], σ := [(⟨a, i, 0⟩, .arr 60 5 ((l.take k).map encFm))] } s) l.length ?_ ?_
    · refine ⟨0, gn, 0, Nat.zero_le _, rfl, le_of ?_⟩
      simp only [go_sem]
      trivial
    · rintro m s ⟨k, a, i, hk, rfl, hle⟩
      refine awp_keep hle ?_
      clear hle
      by_cases hlt : k < l.length
      · refine awp_seq_k (fun K5 hK5 => ?_)
        refine awp_plain 1 (by kernel_rfl) rfl (fun g3 hg3 => ?_)
        simp only [go_sem, hlt]
        refine hK5 _ ?_
        refine awp_seq_k (fun K6 hK6 => ?_)
        refine awp_t rfl ?_
        refine awp_skip ?_
        refine hK6 _ ?_
        refine awp_seq_k (fun K7 hK7 => ?_)
        refine awp_block ?_
        refine awp_seq_k (fun K8 hK8 => ?_)
        refine awp_plain 4 (by kernel_rfl) rfl (fun g4 hg4 => ?_)
        simp only [go_sem, getM hlt, encFm, encFm]
        refine hK8 _ ?_
        have hn4_a : g4 ≠ a := fresh_g hg4 i 0 (by simp [go_sem])
        refine awp_ops (by kernel_rfl) rfl (fun g5 hg5 ops5 KR5 hops5 hKR5 => ?_)
        refine aops_eval 3 hops5 ?_
        simp only [go_sem, Ne.symm hn4_a]
        refine aops_pure hops5 rfl rfl rfl (hf _ (List.getElem_mem hlt) _ _) (CoL.refl _) ?_
        refine aops_eval 1 hops5 ?_
        simp only [go_sem, encFm, encFm]
        refine aops_app hops5 rfl rfl rfl rfl rfl es46 sz60 by60 ze60 rfl (by decide) ?_
        simp only [go_sem, List.length_take_of_le (Nat.le_of_lt hlt), hn4_a]
        first | refine ⟨⟨by omega, by omega⟩, ?_⟩ | skip
        refine aops_last 1 hops5 ?_
        simp only [go_sem]
        refine hKR5 _ ?_
        refine hK7 _ ?_
        refine awp_plain 2 (by kernel_rfl) rfl (fun g6 hg6 => ?_)
        simp only [go_sem]
        try simp (disch := omega) only [wrapN]
        refine ⟨_, ?_, k + 1, g5, 19, hlt, rfl, le_of ?_⟩
        · omega
        simp only [go_sem, ← takeM _ hlt, encFm, encFm]
        omega
      · refine awp_seq_k (fun K9 hK9 => ?_)
        refine awp_plain 1 (by kernel_rfl) rfl (fun g3 hg3 => ?_)
        simp only [go_sem, hlt]
        refine hK9 _ ?_
        refine awp_seq_k (fun K10 hK10 => ?_)
        refine awp_f rfl ?_
        refine awp_exit ?_
        refine hK3 _ ?_
        refine awp_seq_k (fun K11 hK11 => ?_)
        refine awp_plain 2 (by kernel_rfl) rfl (fun g7 hg7 => ?_)
        simp only [go_sem]
        refine hK11 _ ?_
        refine awp_ret ?_
        have : k = l.length := by omega
        subst this
        refine ends_own [⟨a, i, 0⟩] rfl ?_
        simp only [go_sem, newSto]
        exact Co.refl _

theorem cloneDeO (x : Dec) (h : smDe x) (g d : Nat) : ACalls E 57 [encDe x] [] g d (encDN x ⟨g, d, 1⟩) [(⟨g, d, 1⟩, arrFm x)] := by
  obtain ⟨h1, ⟨h2, h3⟩, ⟨h4, h5⟩, ⟨h6, h7⟩, h8, ⟨h9, h10⟩, h11, h12⟩ := h
  refine acalls_of_awp (fn := Tryd.f57) (N := 28) Tryd.call57 Tryd.func57 rfl rfl (by simp) ?_
  simp only [go_sem]
  refine awp_seq_k (fun K1 hK1 => ?_)
  refine awp_plain 2 (by kernel_rfl) rfl (fun g0 hg0 => ?_)
  simp only [go_sem, List.cons_append, List.nil_append]
  refine hK1 _ ?_
  refine awp_seq_k (fun K2 hK2 => ?_)
  refine awp_any 10 (by kernel_rfl) (by kernel_rfl) rfl (fun g1 hg1 ops1 KR1 hops1 hKR1 => ?_)
  refine qrun_eval 2 hops1 ?_
  simp only [go_sem, List.nil_append]
  refine qrun_pure hops1 rfl rfl rfl (copiesFmO _ _ (by omega) (fun x hx g d => cloneFm x (h3 x hx) g d) _ _) (CoL.refl _) (by simp [nwOk]) ?_
  refine qrun_eval 2 hops1 ?_
  simp only [go_sem, List.cons_append, List.nil_append]
  refine qrun_pure hops1 rfl rfl rfl (copiesPa _ _ h4 (fun x hx g d => clonePa x (h5 x hx) g d) _ _) (CoL.refl _) rfl ?_
  refine qrun_eval 2 hops1 ?_
  simp only [go_sem, List.nil_append]
  refine qrun_pure hops1 rfl rfl rfl (copiesSi _ _ h6 (fun x hx g d => cloneSi x (h7 x hx) g d) _ _) (CoL.refl _) rfl ?_
  refine qrun_last 1 hops1 ?_
  simp only [go_sem, List.nil_append, slSi]
  refine aops_last 5 hops1 ?_
  simp only [go_sem, List.cons_append, List.nil_append]
  refine hKR1 _ ?_
  refine hK2 _ ?_
  refine awp_seq_k (fun K3 hK3 => ?_)
  refine awp_any 10 (by kernel_rfl) (by kernel_rfl) rfl (fun g2 hg2 ops2 KR2 hops2 hKR2 => ?_)
  refine qrun_eval 2 hops2 ?_
  simp only [go_sem, List.nil_append]
  refine qrun_pure hops2 rfl rfl rfl (cloneStrs _ h9 _ _) (CoL.refl _) rfl ?_
  refine qrun_eval 2 hops2 ?_
  simp only [go_sem, List.nil_append]
  refine qrun_pure hops2 rfl rfl rfl (cloneSi _ h11 _ _) (CoL.refl _) rfl ?_
  refine qrun_eval 2 hops2 ?_
  simp only [go_sem, List.nil_append]
  refine qrun_pure hops2 rfl rfl rfl (cloneEx _ h12 _ _) (CoL.refl _) rfl ?_
  refine qrun_last 1 hops2 ?_
  simp only [go_sem, List.nil_append]
  refine aops_last 5 hops2 ?_
  simp only [go_sem, siC, List.cons_append, List.nil_append]
  refine hKR2 _ ?_
  refine hK3 _ ?_
  refine awp_seq_k (fun K4 hK4 => ?_)
  refine awp_plain 2 (by kernel_rfl) rfl (fun g3 hg3 => ?_)
  simp only [go_sem, List.cons_append, List.nil_append]
  refine hK4 _ ?_
  refine awp_ret ?_
  refine ends_own [⟨g1, 5, 1⟩] rfl ?_
  simp only [go_sem, newSto, arrFm, encDN, deN, siC, exC, List.cons_append, List.nil_append]
  exact Co.refl _
end Go.Proofs.T


namespace Go.Proofs.T
open Go Go.Ab Go.RowKit

set_option maxHeartbeats 1000000 in
set_option maxRecDepth 100000 in
theorem copiesDeO (l : List Dec) (f : Nat) (hl : l.length ≤ 2000) (hf : ∀ x ∈ l, ∀ g d, ACalls E f [encDe x] [] g d (encDN x ⟨g, d, 1⟩) [(⟨g, d, 1⟩, arrFm x)]) (g d : Nat) :
    ACalls E 56 [slDe l, .func (.func f) [] []] [] g d (.own ⟨g, d, 1⟩ l.length) (treeG g d l) := by
  refine acalls_of_awp (fn := Tryd.f56) (N := 22) Tryd.call56 Tryd.func56 rfl rfl (by simp) ?_
  simp only [go_sem]
  refine awp_seq_k (fun K1 hK1 => ?_)
  refine awp_plain 1 (by kernel_rfl) rfl (fun g0 hg0 => ?_)
  simp only [go_sem]
  refine hK1 _ ?_
  refine awp_seq_k (fun K2 hK2 => ?_)
  refine awp_plain 1 (by kernel_rfl) rfl (fun g1 hg1 => ?_)
  simp only [go_sem]
  refine hK2 _ ?_
  refine awp_seq_k (fun K3 hK3 => ?_)
  refine awp_seq_k (fun K4 hK4 => ?_)
  refine awp_plain 3 (by kernel_rfl) rfl (fun g2 hg2 => ?_)
  simp only [go_sem]
  refine hK4 _ ?_
  refine awp_block ?_
  refine awp_nil 5 52 23 rfl fun gn hgn => ?_
  refine awp_loop (fun m s => ∃ (k a i : Nat) (z : Zs), k ≤ l.length ∧ m = l.length - k ∧ z.map (·.1) = l.take k ∧ (z.map (·.2)).Nodup ∧ (∀ p ∈ z, p.2 ≠ ⟨a, i, 0⟩) ∧
      Le { env := [(1, .func (.func f) [] []), (8, slDe l), (9, dN l.length), (10, dN k), (5, .own ⟨a, i, 0⟩ k)], σ := tree ⟨a, i, 0⟩ z } s) l.length ?_ ?_
  · refine ⟨0, gn, 0, [], Nat.zero_le _, rfl, rfl, List.nodup_nil, (fun p hp => nomatch hp), le_of ?_⟩
    simp only [go_sem, tree, rowsZ, obsZ, List.map_nil, slDe]
    trivial
  · rintro m s ⟨k, a, i, z, hk, rfl, hz1, hz2, hz3, hle⟩
    refine awp_keep hle ?_
    clear hle
    by_cases hlt : k < l.length
    · have hzl : z.length = k := by
        have := congrArg List.length hz1
        rw [List.length_map, List.length_take] at this
        omega
      have hrl : (rowsZ z).length = k := by unfold rowsZ; rw [List.length_map, hzl]
      have hX := hf _ (List.getElem_mem hlt)
      have hgm := getM (f := encDe) hlt
      refine awp_aside (σ := [(⟨a, i, 0⟩, .arr 52 23 (rowsZ z))]) (τ := obsZ z) (Mid := fun s => ∃ (b i2 : Nat) (m : Nm), m ≠ ⟨b, i2, 0⟩ ∧ Le { env := [(1, .func (.func f) [] []), (8, slDe l), (9, dN l.length), (10, dN (k + 1)), (5, .own ⟨b, i2, 0⟩ (k + 1))], σ := [(⟨b, i2, 0⟩, .arr 52 23 (rowsZ z ++ [encDN l[k] m])), (m, arrFm l[k])] } s) (aside hz3) ?_ ?_
      · refine awp_seq_k (fun K5 hK5 => ?_)
        refine awp_plain 1 (by kernel_rfl) rfl (fun g3 hg3 => ?_)
        simp only [go_sem, slDe, List.nil_append, hlt]
        refine hK5 _ ?_
        refine awp_seq_k (fun K6 hK6 => ?_)
        refine awp_t rfl ?_
        refine awp_skip ?_
        refine hK6 _ ?_
        refine awp_seq_k (fun K7 hK7 => ?_)
        refine awp_block ?_
        refine awp_seq_k (fun K8 hK8 => ?_)
        refine awp_plain 4 (by kernel_rfl) rfl (fun g4 hg4 => ?_)
        simp only [go_sem, hgm, encDe, deC, siC, exC, List.cons_append, List.nil_append]
        refine hK8 _ ?_
        have hn4_a : g4 ≠ a := fresh_g hg4 i 0 (by simp [go_sem])
        refine awp_ops (by kernel_rfl) rfl (fun g5 hg5 ops5 KR5 hops5 hKR5 => ?_)
        refine aops_eval 3 hops5 ?_
        simp only [go_sem, List.nil_append, Ne.symm hn4_a]
        refine aops_pure hops5 rfl rfl rfl (hX _ _) (CoL.refl _) ?_
        refine aops_eval 1 hops5 ?_
        simp only [go_sem, List.cons_append, List.nil_append]
        refine aops_app hops5 rfl rfl rfl rfl rfl es22 sz52 by52 ze52 rfl (by decide) ?_
        simp only [go_sem, List.nil_append, hrl, okRowsDN, hn4_a]
        first | refine ⟨⟨by omega, by omega⟩, ?_⟩ | skip
        refine aops_last 1 hops5 ?_
        simp only [go_sem, List.nil_append]
        refine hKR5 _ ?_
        refine hK7 _ ?_
        refine awp_plain 2 (by kernel_rfl) rfl (fun g6 hg6 => ?_)
        simp only [go_sem, slDe, List.nil_append]
        try simp (disch := omega) only [wrapN]
        refine ⟨g5, 19, ⟨g5, 17, 1⟩, by simp, le_of ?_⟩
        simp only [go_sem]
        all_goals first | done | exact rfl | exact ⟨rfl, rfl⟩ | trivial | omega
      · rintro s ⟨b, i2, m, hbm, hle⟩ hdis
        obtain ⟨q1, q2, q3⟩ := tree_more hbm hz2 hdis (hle.2 (⟨b, i2, 0⟩, _) List.mem_cons_self) (hle.2 (m, _) (List.mem_cons_of_mem _ List.mem_cons_self))
        refine ⟨_, ?_, k + 1, b, i2, z ++ [(l[k], m)], hlt, rfl, ?_, q1, q2, hle.1, q3⟩
        · omega
        · rw [List.map_append, hz1, List.take_add_one, List.getElem?_eq_getElem hlt]
          rfl
    · have : k = l.length := by omega
      subst this
      refine awp_seq_k (fun K9 hK9 => ?_)
      refine awp_plain 1 (by kernel_rfl) rfl (fun g3 hg3 => ?_)
      simp only [go_sem, hlt, slDe, List.nil_append]
      refine hK9 _ ?_
      refine awp_seq_k (fun K10 hK10 => ?_)
      refine awp_f rfl ?_
      refine awp_exit ?_
      refine hK3 _ ?_
      refine awp_seq_k (fun K11 hK11 => ?_)
      refine awp_plain 2 (by kernel_rfl) rfl (fun g7 hg7 => ?_)
      simp only [go_sem, List.nil_append]
      refine hK11 _ ?_
      refine awp_ret ?_
      refine ends_tree rfl ⟨a, i, 0⟩ z hz3 hz2 (hz1.trans List.take_length) (tree_get hz3 hz2) ?_
      simp only [go_sem]
      intro f f1 f2
      exact Co.of_eq (by simp [D.sub, f1])

theorem clonePrO (p : Prg) (h : smPr p) (g d : Nat) : ACalls E 32 [encPr p] [] g d (.agg (.own ⟨g, d, 1⟩ p.decls.length :: exC p.main)) (treeG g d p.decls) := by
  obtain ⟨⟨h1, h2⟩, h3⟩ := h
  refine acalls_of_awp (fn := Tryd.f32) (N := 10) Tryd.call32 Tryd.func32 rfl rfl (by simp) ?_
  simp only [go_sem]
  refine awp_seq_k (fun K1 hK1 => ?_)
  refine awp_plain 2 (by kernel_rfl) rfl (fun g0 hg0 => ?_)
  simp only [go_sem, List.cons_append, List.nil_append]
  refine hK1 _ ?_
  refine awp_seq_k (fun K2 hK2 => ?_)
  refine awp_any 7 (by kernel_rfl) (by kernel_rfl) rfl (fun g1 hg1 ops1 KR1 hops1 hKR1 => ?_)
  refine qrun_eval 2 hops1 ?_
  simp only [go_sem, List.nil_append]
  have hn1_g0 : g1 ≠ g0 := fresh_g hg1 1 0 (by simp [go_sem])
  have hn1_g0 : g1 ≠ g0 := fresh_g hg1 2 0 (by simp [go_sem])
  refine qrun_pure hops1 rfl rfl rfl (copiesDeO _ _ h1 (fun x hx g d => cloneDeO x (h2 x hx) g d) _ _) (CoL.refl _) (nwOk_treeG _ _ _) ?_
  refine qrun_eval 2 hops1 ?_
  simp only [go_sem, List.nil_append]
  refine qrun_pure hops1 rfl rfl rfl (cloneEx _ h3 _ _) (CoL.refl _) rfl ?_
  refine qrun_last 1 hops1 ?_
  simp only [go_sem, List.cons_append, List.nil_append]
  refine aops_last 1 hops1 ?_
  simp only [go_sem, List.cons_append, List.nil_append, get_treeG_ne (Ne.symm hn1_g0), set_treeG_ne (Ne.symm hn1_g0)]
  refine hKR1 _ ?_
  refine hK2 _ ?_
  refine awp_ret ?_
  refine ends_tree (show Tryd.f32.results = List.toArray [_] from rfl) ⟨g1, 5, 1⟩ (zG g1 5 p.decls) (fun q hq => (zG_ne _ _ _ q hq).2.2) (zG_nodup _ _ _) (zG_fst _ _ _) treeG_get ?_
  simp only [go_sem, get_treeG_ne (Ne.symm hn1_g0)]
  intro f f1 f2
  exact Co.of_eq (by simp [f1, f2])
end Go.Proofs.T


namespace Go.Proofs.T
open Go Go.Ab Go.RowKit

/-! ## What is counted as small is small -/

theorem cntEx_sm : ∀ (e : Ex) (n : Nat), countEx e n ≤ 2000 → smEx e := by
  refine Ex.ind fun e ih n h => ?_
  have h1 := count_ge e.type (n + e.name.size / 50)
  have h2 := cnt_ge (f := count) (fun t m => by have := count_ge t m; omega) e.targs (count e.type (n + e.name.size / 50))
  rw [countEx_eq] at h
  obtain ⟨k1, k2⟩ := cnt_small countEx_ge e.kids _ h
  obtain ⟨k3, k4⟩ := cntTys_sm e.targs (count e.type (n + e.name.size / 50)) (by omega)
  have k5 := count_sm e.type (n + e.name.size / 50) (by omega)
  refine (smEx_iff e).2 ⟨by omega, k5, ⟨by omega, k4⟩, by omega, fun x hx => ?_⟩
  obtain ⟨m, hm⟩ := k2 x hx
  exact ih x hx m (by omega)

theorem cntS_ge (v : Str) (n : Nat) : n + 1 ≤ cntS v n := by unfold cntS; omega

theorem cntDe_sm (d : Dec) (n : Nat) (h : cntDe d n ≤ 2000) : smDe d := by
  have g1 := cnt_ge (fun a n => Nat.le_trans (Nat.le_succ n) (cntFm_ge a n)) d.formals (n + 1 + d.name.size / 50 + d.recv.size / 50)
  have g2 := cnt_ge (fun a n => Nat.le_trans (Nat.le_succ n) (cntPa_ge a n)) d.fields (cnt cntFm d.formals (n + 1 + d.name.size / 50 + d.recv.size / 50))
  have g3 := cnt_ge (fun a n => Nat.le_trans (Nat.le_succ n) (cntSi_ge a n)) d.sigs (cntHead d n)
  have g4 := cnt_ge (fun a n => Nat.le_trans (Nat.le_succ n) (cntS_ge a n)) d.vars (cnt cntSi d.sigs (cntHead d n))
  have g5 := cntSi_ge d.sig (cnt cntS d.vars (cnt cntSi d.sigs (cntHead d n)))
  have g6 := countEx_ge d.body (cntSi d.sig (cnt cntS d.vars (cnt cntSi d.sigs (cntHead d n))))
  have e0 : cntHead d n = cnt cntPa d.fields (cnt cntFm d.formals (n + 1 + d.name.size / 50 + d.recv.size / 50)) := rfl
  unfold cntDe cntTail at h
  split at h
  · have a1 := cntFms_sm d.formals (n + 1 + d.name.size / 50 + d.recv.size / 50) (by omega)
    have a2 := cntPas_sm d.fields (cnt cntFm d.formals (n + 1 + d.name.size / 50 + d.recv.size / 50)) (by omega)
    obtain ⟨a3, a4⟩ := cnt_small cntSi_ge d.sigs (cntHead d n) (by omega)
    obtain ⟨a5, a6⟩ := cnt_small cntS_ge d.vars (cnt cntSi d.sigs (cntHead d n)) (by omega)
    have a7 := cntSi_sm d.sig (cnt cntS d.vars (cnt cntSi d.sigs (cntHead d n))) (by omega)
    have a8 := cntEx_sm d.body (cntSi d.sig (cnt cntS d.vars (cnt cntSi d.sigs (cntHead d n)))) (by omega)
    refine ⟨by omega, ⟨by omega, a1.2⟩, ⟨by omega, a2.2⟩, ⟨by omega, fun s hs => ?_⟩, by omega, ⟨by omega, fun v hv => ?_⟩, a7.1, a8⟩
    · obtain ⟨m, hm⟩ := a4 s hs
      exact (cntSi_sm s m (by omega)).1
    · obtain ⟨m, hm⟩ := a6 v hv
      have e1 : cntS v m = m + 1 + v.size / 50 := rfl
      omega
  · omega

theorem cntDe_ge (d : Dec) (n : Nat) : n + 1 ≤ cntDe d n := by
  have g1 := cnt_ge (fun a n => Nat.le_trans (Nat.le_succ n) (cntFm_ge a n)) d.formals (n + 1 + d.name.size / 50 + d.recv.size / 50)
  have g2 := cnt_ge (fun a n => Nat.le_trans (Nat.le_succ n) (cntPa_ge a n)) d.fields (cnt cntFm d.formals (n + 1 + d.name.size / 50 + d.recv.size / 50))
  have g3 := cnt_ge (fun a n => Nat.le_trans (Nat.le_succ n) (cntSi_ge a n)) d.sigs (cntHead d n)
  have g4 := cnt_ge (fun a n => Nat.le_trans (Nat.le_succ n) (cntS_ge a n)) d.vars (cnt cntSi d.sigs (cntHead d n))
  have g5 := cntSi_ge d.sig (cnt cntS d.vars (cnt cntSi d.sigs (cntHead d n)))
  have g6 := countEx_ge d.body (cntSi d.sig (cnt cntS d.vars (cnt cntSi d.sigs (cntHead d n))))
  have e0 : cntHead d n = cnt cntPa d.fields (cnt cntFm d.formals (n + 1 + d.name.size / 50 + d.recv.size / 50)) := rfl
  unfold cntDe cntTail
  split <;> omega

theorem cntPr_sm (p : Prg) (h : cntPr p ≤ 600) : smPr p ∧ p.decls.length ≤ 600 := by
  unfold cntPr at h
  have g1 := countEx_ge p.main 0
  have g2 := cnt_ge (fun a n => Nat.le_trans (Nat.le_succ n) (cntDe_ge a n)) p.decls (countEx p.main 0)
  obtain ⟨a1, a2⟩ := cnt_small cntDe_ge p.decls (countEx p.main 0) (by omega)
  refine ⟨⟨⟨by omega, fun d hd => ?_⟩, cntEx_sm p.main 0 (by omega)⟩, by omega⟩
  obtain ⟨m, hm⟩ := a2 d hd
  exact cntDe_sm d m (by omega)
end Go.Proofs.T


namespace Go.Proofs.T
open Go Go.Ab Go.RowKit

/-! ## The table -/

def encK (k : Str × Str) : Value := .agg #[.string k.1, .string k.2]
def tabE (l : List ((Str × Str) × Nat)) : List (Value × D) := l.map fun x => (encK x.1, dN x.2)
def lkp (l : List ((Str × Str) × Nat)) (k : Str × Str) : Option Nat := (l.find? fun x => decide (x.1 = k)).map (·.2)
theorem encK_inj {a b : Str × Str} : encK a = encK b ↔ a = b := by
  obtain ⟨a1, a2⟩ := a
  obtain ⟨b1, b2⟩ := b
  simp [encK]
theorem mget_tab : ∀ (l : List ((Str × Str) × Nat)) (k : Str × Str), mget (tabE l) (encK k) = (lkp l k).map fun n => dN n
  | [], k => rfl
  | x :: r, k => by
    have ih := mget_tab r k
    simp only [tabE, List.map_cons, mget, lkp, List.find?_cons, encK_inj] at ih ⊢
    by_cases h : x.1 = k
    · simp [h]
    · simp only [h, if_false, decide_false]
      exact ih
theorem mput_tab : ∀ (l : List ((Str × Str) × Nat)) (k : Str × Str) (n : Nat), lkp l k = none → mput (tabE l) (encK k) (dN n) = tabE (l ++ [(k, n)])
  | [], k, n, _ => rfl
  | x :: r, k, n, h => by
    have hx : ¬ x.1 = k := by
      intro e
      simp [lkp, e] at h
    have hr : lkp r k = none := by
      simpa [lkp, List.find?_cons, hx] using h
    have ih := mput_tab r k n hr
    simp only [tabE, List.map_cons, mput, encK_inj, hx, if_false, List.cons_append] at ih ⊢
    rw [ih]

/-- The key that a declaration is laid under. -/
def dKey (d : Dec) : Option (Str × Str) := if d.kind = 1 ∨ d.kind = 2 then some (d.name, ByteArray.empty) else if d.kind = 3 then some (d.name, ⟨#[46]⟩ ++ d.sig.name) else none
def tabTo (ds : List Dec) : Nat → List ((Str × Str) × Nat)
  | 0 => []
  | n + 1 => match ds[n]?.bind dKey with
    | some k => if (lkp (tabTo ds n) k).isSome then tabTo ds n else tabTo ds n ++ [(k, n)]
    | none => tabTo ds n
def tfind (ds : List Dec) (k : Str × Str) : Option Nat := ds.findIdx? fun d => decide (dKey d = some k)

theorem lkp_app (l : List ((Str × Str) × Nat)) (k k' : Str × Str) (n : Nat) : lkp (l ++ [(k', n)]) k = (lkp l k).or (if k' = k then some n else none) := by
  unfold lkp
  rw [List.find?_append]
  cases h : l.find? fun x => decide (x.1 = k) with
  | some x => simp
  | none => by_cases hk : k' = k <;> simp [hk]

theorem tabTo_find (ds : List Dec) (k : Str × Str) : ∀ n, n ≤ ds.length → lkp (tabTo ds n) k = (ds.take n).findIdx? fun d => decide (dKey d = some k)
  | 0, _ => rfl
  | n + 1, h => by
    have ih := tabTo_find ds k n (by omega)
    rw [List.take_add_one, List.findIdx?_append, ← ih]
    have hd : ds[n]? = some ds[n] := List.getElem?_eq_getElem (by omega)
    have hlen : (ds.take n).length = n := by rw [List.length_take]; omega
    have e : tabTo ds (n + 1) = match dKey ds[n] with
      | some k => if (lkp (tabTo ds n) k).isSome then tabTo ds n else tabTo ds n ++ [(k, n)]
      | none => tabTo ds n := by simp only [tabTo, hd, Option.bind_some]
    rw [e]
    simp only [hd, Option.toList_some, List.findIdx?_cons, List.findIdx?_nil, hlen]
    cases hk : dKey ds[n] with
    | none =>
      cases lkp (tabTo ds n) k <;> simp
    | some k' =>
      by_cases he : k' = k
      · subst he
        cases hl : lkp (tabTo ds n) k' with
        | none => simp [lkp_app, hl]
        | some m => simp [hl]
      · simp only
        split
        · cases lkp (tabTo ds n) k <;> simp [he]
        · rw [lkp_app]
          cases lkp (tabTo ds n) k <;> simp [he]
theorem tab_find (ds : List Dec) (k : Str × Str) : lkp (tabTo ds ds.length) k = tfind ds k := by
  rw [tabTo_find ds k ds.length (Nat.le_refl _), List.take_length]
  rfl

def ksK : KS := .agg [.str, .str]
def tbC (p : Prg) (l : List ((Str × Str) × Nat)) : List D := prC p ++ [.fmap ksK (tabE l)]
def encTb (p : Prg) : D := .eptr (tbC p (tabTo p.decls p.decls.length))

theorem mget_tab' (l : List ((Str × Str) × Nat)) (a b : Str) : mget (tabE l) (.agg #[.string a, .string b]) = (lkp l (a, b)).map fun n => dN n := mget_tab l (a, b)
theorem mput_tab' (l : List ((Str × Str) × Nat)) (a b : Str) (n : Nat) (h : lkp l (a, b) = none) : mput (tabE l) (.agg #[.string a, .string b]) (dN n) = tabE (l ++ [((a, b), n)]) := mput_tab l (a, b) n h

theorem tableNew_calls (p : Prg) (h : smPr p) (g d : Nat) : ACalls E 11 [encPr p] [] g d (encTb p) [] := by
  have hlen := h.1.1
  refine acalls_of_awp (fn := Tryd.f11) (N := 59) Tryd.call11 Tryd.func11 rfl rfl (by simp) ?_
  simp only [go_sem]
  refine awp_seq_k (fun K1 hK1 => ?_)
  refine awp_plain 2 (by kernel_rfl) rfl (fun g0 hg0 => ?_)
  simp only [go_sem, List.nil_append]
  refine hK1 _ ?_
  refine awp_seq_k (fun K2 hK2 => ?_)
  refine awp_ops (by kernel_rfl) rfl (fun g1 hg1 ops1 KR1 hops1 hKR1 => ?_)
  refine aops_eval 1 hops1 ?_
  simp only [go_sem, List.nil_append]
  refine aops_pure hops1 rfl rfl rfl (clonePr p h _ _) (CoL.refl _) ?_
  refine aops_last 4 hops1 ?_
  simp only [go_sem, prC, exC, List.cons_append, List.nil_append]
  refine hKR1 _ ?_
  refine hK2 _ ?_
  refine awp_seq_k (fun K3 hK3 => ?_)
  refine awp_seq_k (fun K4 hK4 => ?_)
  refine awp_plain 7 (by kernel_rfl) rfl (fun g2 hg2 => ?_)
  simp only [go_sem, List.nil_append]
  refine hK4 _ ?_
  refine awp_block ?_
  refine awp_loop (fun m s => ∃ k, k ≤ p.decls.length ∧ m = p.decls.length - k ∧
      Le { env := [(3, .ptr ⟨g1, 13, 0⟩ 0), (18, slDe p.decls), (19, dN p.decls.length), (20, dN k)],
           σ := [(⟨g1, 13, 0⟩, .box 76 (prC p ++ [.mref ⟨g1, 11, 0⟩])), (⟨g1, 11, 0⟩, .map ksK (tabE (tabTo p.decls k)))] } s) p.decls.length ?_ ?_
  · refine ⟨0, Nat.zero_le _, rfl, le_of ?_⟩
    simp only [go_sem, slDe, prC, exC, List.cons_append, List.nil_append, tabTo, tabE, ksK, List.map_nil, prC, exC, List.cons_append, List.nil_append]
    trivial
  · rintro m s ⟨k, hk, rfl, hle⟩
    refine awp_keep hle ?_
    clear hle
    by_cases hlt : k < p.decls.length
    · refine awp_seq_k (fun K5 hK5 => ?_)
      refine awp_plain 1 (by kernel_rfl) rfl (fun g3 hg3 => ?_)
      simp only [go_sem, hlt, prC, exC, List.cons_append, List.nil_append, prC, exC, List.cons_append, List.nil_append, slDe]
      refine hK5 _ ?_
      refine awp_seq_k (fun K6 hK6 => ?_)
      refine awp_t rfl ?_
      refine awp_skip ?_
      refine hK6 _ ?_
      refine awp_seq_k (fun K7 hK7 => ?_)
      refine awp_block ?_
      refine awp_seq_k (fun K8 hK8 => ?_)
      refine awp_plain 6 (by kernel_rfl) rfl (fun g4 hg4 => ?_)
      simp only [go_sem, getM hlt, exC, List.cons_append, List.nil_append, exC, List.cons_append, List.nil_append, deC, siC]
      refine hK8 _ ?_
      refine awp_seq_k (fun K9 hK9 => ?_)
      refine awp_plain 5 (by kernel_rfl) rfl (fun g5 hg5 => ?_)
      simp only [go_sem, List.cons_append, List.nil_append, List.cons_append, List.nil_append]
      refine hK9 _ ?_
      refine awp_seq_k (fun K10 hK10 => ?_)
      refine awp_seq_k (fun K11 hK11 => ?_)
      refine awp_plain 2 (by kernel_rfl) rfl (fun g6 hg6 => ?_)
      simp only [go_sem, List.nil_append, List.nil_append]
      refine hK11 _ ?_
      refine awp_block ?_
      refine awp_seq_k (fun K12 hK12 => ?_)
      refine awp_seq_k (fun K13 hK13 => ?_)
      by_cases k1 : p.decls[k].kind = 1
      · refine awp_plain 2 (by kernel_rfl) rfl (fun g7 hg7 => ?_)
        simp only [go_sem, k1, decide_true, List.nil_append, List.nil_append]
        refine hK13 _ ?_
        refine awp_t rfl ?_
        refine awp_skip ?_
        refine hK12 _ ?_
        refine awp_t rfl ?_
        refine awp_skip ?_
        refine hK10 _ ?_
        refine awp_seq_k (fun K14 hK14 => ?_)
        have hkey : dKey p.decls[k] = some (p.decls[k].name, ByteArray.empty) := by simp [dKey, k1]
        cases hlk : lkp (tabTo p.decls k) (p.decls[k].name, ByteArray.empty) with
        | some j =>
          have hT : tabTo p.decls (k + 1) = tabTo p.decls k := by simp [tabTo, List.getElem?_eq_getElem hlt, hkey, hlk]
          refine awp_any 10 (by kernel_rfl) (by kernel_rfl) rfl (fun g11 hg11 ops11 KR11 hops11 hKR11 => ?_)
          refine qrun_last 10 hops11 ?_
          simp only [go_sem, mget_tab', KS.fits, KC.fitsL, KC.fits, ksK, Bool.and_self, hlk, List.nil_append, List.nil_append]
          refine aops_last 1 hops11 ?_
          simp only [go_sem, List.nil_append, List.nil_append]
          refine hKR11 _ ?_
          refine hK14 _ ?_
          refine awp_seq_k (fun K15 hK15 => ?_)
          refine awp_plain 2 (by kernel_rfl) rfl (fun g12 hg12 => ?_)
          simp only [go_sem, Bool.not_true, List.nil_append, List.nil_append]
          refine hK15 _ ?_
          refine awp_f rfl ?_
          refine awp_skip ?_
          refine hK7 _ ?_
          refine awp_plain 2 (by kernel_rfl) rfl (fun g14 hg14 => ?_)
          simp only [go_sem, prC, exC, List.cons_append, List.nil_append, prC, exC, List.cons_append, List.nil_append, slDe]
          try simp (disch := omega) only [wrapN]
          refine ⟨_, ?_, k + 1, hlt, rfl, le_of ?_⟩
          · omega
          rw [hT]
          simp only [go_sem, ksK]
          omega
        | none =>
          have hT : tabTo p.decls (k + 1) = tabTo p.decls k ++ [((p.decls[k].name, ByteArray.empty), k)] := by simp [tabTo, List.getElem?_eq_getElem hlt, hkey, hlk]
          have hput := mput_tab' _ p.decls[k].name ByteArray.empty k hlk
          refine awp_any 10 (by kernel_rfl) (by kernel_rfl) rfl (fun g11 hg11 ops11 KR11 hops11 hKR11 => ?_)
          refine qrun_last 10 hops11 ?_
          simp only [go_sem, mget_tab', KS.fits, KC.fitsL, KC.fits, ksK, Bool.and_self, hlk, List.nil_append, List.nil_append]
          refine aops_last 1 hops11 ?_
          simp only [go_sem, List.nil_append, List.nil_append]
          refine hKR11 _ ?_
          refine hK14 _ ?_
          refine awp_seq_k (fun K16 hK16 => ?_)
          refine awp_plain 2 (by kernel_rfl) rfl (fun g12 hg12 => ?_)
          simp only [go_sem, Bool.not_false, List.nil_append, List.nil_append]
          refine hK16 _ ?_
          refine awp_t rfl ?_
          refine awp_any 6 (by kernel_rfl) (by kernel_rfl) rfl (fun g13 hg13 ops13 KR13 hops13 hKR13 => ?_)
          refine qrun_last 6 hops13 ?_
          simp only [go_sem, List.nil_append, List.nil_append]
          refine aops_last 1 hops13 ?_
          simp only [go_sem, hput, KS.fits, KC.fitsL, KC.fits, Bool.and_self]
          refine hKR13 _ ?_
          refine hK7 _ ?_
          refine awp_plain 2 (by kernel_rfl) rfl (fun g14 hg14 => ?_)
          simp only [go_sem, prC, exC, List.cons_append, List.nil_append, prC, exC, List.cons_append, List.nil_append, slDe]
          try simp (disch := omega) only [wrapN]
          refine ⟨_, ?_, k + 1, hlt, rfl, le_of ?_⟩
          · omega
          rw [hT]
          simp only [go_sem, ksK]
          omega
      · by_cases k2 : p.decls[k].kind = 2
        · refine awp_plain 2 (by kernel_rfl) rfl (fun g7 hg7 => ?_)
          simp only [go_sem, k1, decide_false, List.nil_append, List.nil_append]
          refine hK13 _ ?_
          refine awp_f rfl ?_
          refine awp_plain 2 (by kernel_rfl) rfl (fun g8 hg8 => ?_)
          simp only [go_sem, k2, decide_true, List.nil_append, List.nil_append]
          refine hK12 _ ?_
          refine awp_t rfl ?_
          refine awp_skip ?_
          refine hK10 _ ?_
          refine awp_seq_k (fun K17 hK17 => ?_)
          have hkey : dKey p.decls[k] = some (p.decls[k].name, ByteArray.empty) := by simp [dKey, k2]
          cases hlk : lkp (tabTo p.decls k) (p.decls[k].name, ByteArray.empty) with
          | some j =>
            have hT : tabTo p.decls (k + 1) = tabTo p.decls k := by simp [tabTo, List.getElem?_eq_getElem hlt, hkey, hlk]
            refine awp_any 10 (by kernel_rfl) (by kernel_rfl) rfl (fun g11 hg11 ops11 KR11 hops11 hKR11 => ?_)
            refine qrun_last 10 hops11 ?_
            simp only [go_sem, mget_tab', KS.fits, KC.fitsL, KC.fits, ksK, Bool.and_self, hlk, List.nil_append, List.nil_append]
            refine aops_last 1 hops11 ?_
            simp only [go_sem, List.nil_append, List.nil_append]
            refine hKR11 _ ?_
            refine hK17 _ ?_
            refine awp_seq_k (fun K18 hK18 => ?_)
            refine awp_plain 2 (by kernel_rfl) rfl (fun g12 hg12 => ?_)
            simp only [go_sem, Bool.not_true, List.nil_append, List.nil_append]
            refine hK18 _ ?_
            refine awp_f rfl ?_
            refine awp_skip ?_
            refine hK7 _ ?_
            refine awp_plain 2 (by kernel_rfl) rfl (fun g14 hg14 => ?_)
            simp only [go_sem, prC, exC, List.cons_append, List.nil_append, prC, exC, List.cons_append, List.nil_append, slDe]
            try simp (disch := omega) only [wrapN]
            refine ⟨_, ?_, k + 1, hlt, rfl, le_of ?_⟩
            · omega
            rw [hT]
            simp only [go_sem, ksK]
            omega
          | none =>
            have hT : tabTo p.decls (k + 1) = tabTo p.decls k ++ [((p.decls[k].name, ByteArray.empty), k)] := by simp [tabTo, List.getElem?_eq_getElem hlt, hkey, hlk]
            have hput := mput_tab' _ p.decls[k].name ByteArray.empty k hlk
            refine awp_any 10 (by kernel_rfl) (by kernel_rfl) rfl (fun g11 hg11 ops11 KR11 hops11 hKR11 => ?_)
            refine qrun_last 10 hops11 ?_
            simp only [go_sem, mget_tab', KS.fits, KC.fitsL, KC.fits, ksK, Bool.and_self, hlk, List.nil_append, List.nil_append]
            refine aops_last 1 hops11 ?_
            simp only [go_sem, List.nil_append, List.nil_append]
            refine hKR11 _ ?_
            refine hK17 _ ?_
            refine awp_seq_k (fun K19 hK19 => ?_)
            refine awp_plain 2 (by kernel_rfl) rfl (fun g12 hg12 => ?_)
            simp only [go_sem, Bool.not_false, List.nil_append, List.nil_append]
            refine hK19 _ ?_
            refine awp_t rfl ?_
            refine awp_any 6 (by kernel_rfl) (by kernel_rfl) rfl (fun g13 hg13 ops13 KR13 hops13 hKR13 => ?_)
            refine qrun_last 6 hops13 ?_
            simp only [go_sem, List.nil_append, List.nil_append]
            refine aops_last 1 hops13 ?_
            simp only [go_sem, hput, KS.fits, KC.fitsL, KC.fits, Bool.and_self]
            refine hKR13 _ ?_
            refine hK7 _ ?_
            refine awp_plain 2 (by kernel_rfl) rfl (fun g14 hg14 => ?_)
            simp only [go_sem, prC, exC, List.cons_append, List.nil_append, prC, exC, List.cons_append, List.nil_append, slDe]
            try simp (disch := omega) only [wrapN]
            refine ⟨_, ?_, k + 1, hlt, rfl, le_of ?_⟩
            · omega
            rw [hT]
            simp only [go_sem, ksK]
            omega
        · by_cases k3 : p.decls[k].kind = 3
          · have hsz : p.decls[k].sig.name.size ≤ 1000000 := (h.1.2 _ (List.getElem_mem hlt)).2.2.2.2.2.2.1.1
            refine awp_plain 2 (by kernel_rfl) rfl (fun g7 hg7 => ?_)
            simp only [go_sem, k1, decide_false, List.nil_append, List.nil_append]
            refine hK13 _ ?_
            refine awp_f rfl ?_
            refine awp_plain 2 (by kernel_rfl) rfl (fun g8 hg8 => ?_)
            simp only [go_sem, k2, decide_false, List.nil_append, List.nil_append]
            refine hK12 _ ?_
            refine awp_f rfl ?_
            refine awp_seq_k (fun K20 hK20 => ?_)
            refine awp_plain 2 (by kernel_rfl) rfl (fun g9 hg9 => ?_)
            simp only [go_sem, k3, decide_true, List.nil_append, List.nil_append]
            refine hK20 _ ?_
            refine awp_t rfl ?_
            have hs0 : 1 + p.decls[k].sig.name.size ≤ 9223372036854775807 := by omega
            refine awp_plain 6 (by kernel_rfl) rfl (fun g10 hg10 => ?_)
            simp only [go_sem, hs0, List.cons_append, List.nil_append, List.cons_append, List.nil_append]
            try simp (disch := omega) only [wrapN, wrapB, Int.tdiv_eq_ediv_of_nonneg, Int.tmod_eq_emod_of_nonneg]
            refine hK10 _ ?_
            refine awp_seq_k (fun K21 hK21 => ?_)
            have hkey : dKey p.decls[k] = some (p.decls[k].name, ⟨#[46]⟩ ++ p.decls[k].sig.name) := by simp [dKey, k3]
            cases hlk : lkp (tabTo p.decls k) (p.decls[k].name, (⟨#[46]⟩ ++ p.decls[k].sig.name)) with
            | some j =>
              have hT : tabTo p.decls (k + 1) = tabTo p.decls k := by simp [tabTo, List.getElem?_eq_getElem hlt, hkey, hlk]
              refine awp_any 10 (by kernel_rfl) (by kernel_rfl) rfl (fun g11 hg11 ops11 KR11 hops11 hKR11 => ?_)
              refine qrun_last 10 hops11 ?_
              simp only [go_sem, mget_tab', KS.fits, KC.fitsL, KC.fits, ksK, Bool.and_self, hlk, List.nil_append, List.nil_append]
              refine aops_last 1 hops11 ?_
              simp only [go_sem, List.nil_append, List.nil_append]
              refine hKR11 _ ?_
              refine hK21 _ ?_
              refine awp_seq_k (fun K22 hK22 => ?_)
              refine awp_plain 2 (by kernel_rfl) rfl (fun g12 hg12 => ?_)
              simp only [go_sem, Bool.not_true, List.nil_append, List.nil_append]
              refine hK22 _ ?_
              refine awp_f rfl ?_
              refine awp_skip ?_
              refine hK7 _ ?_
              refine awp_plain 2 (by kernel_rfl) rfl (fun g14 hg14 => ?_)
              simp only [go_sem, prC, exC, List.cons_append, List.nil_append, prC, exC, List.cons_append, List.nil_append, slDe]
              try simp (disch := omega) only [wrapN]
              refine ⟨_, ?_, k + 1, hlt, rfl, le_of ?_⟩
              · omega
              rw [hT]
              simp only [go_sem, ksK]
              omega
            | none =>
              have hT : tabTo p.decls (k + 1) = tabTo p.decls k ++ [((p.decls[k].name, (⟨#[46]⟩ ++ p.decls[k].sig.name)), k)] := by simp [tabTo, List.getElem?_eq_getElem hlt, hkey, hlk]
              have hput := mput_tab' _ p.decls[k].name (⟨#[46]⟩ ++ p.decls[k].sig.name) k hlk
              refine awp_any 10 (by kernel_rfl) (by kernel_rfl) rfl (fun g11 hg11 ops11 KR11 hops11 hKR11 => ?_)
              refine qrun_last 10 hops11 ?_
              simp only [go_sem, mget_tab', KS.fits, KC.fitsL, KC.fits, ksK, Bool.and_self, hlk, List.nil_append, List.nil_append]
              refine aops_last 1 hops11 ?_
              simp only [go_sem, List.nil_append, List.nil_append]
              refine hKR11 _ ?_
              refine hK21 _ ?_
              refine awp_seq_k (fun K23 hK23 => ?_)
              refine awp_plain 2 (by kernel_rfl) rfl (fun g12 hg12 => ?_)
              simp only [go_sem, Bool.not_false, List.nil_append, List.nil_append]
              refine hK23 _ ?_
              refine awp_t rfl ?_
              refine awp_any 6 (by kernel_rfl) (by kernel_rfl) rfl (fun g13 hg13 ops13 KR13 hops13 hKR13 => ?_)
              refine qrun_last 6 hops13 ?_
              simp only [go_sem, List.nil_append, List.nil_append]
              refine aops_last 1 hops13 ?_
              simp only [go_sem, hput, KS.fits, KC.fitsL, KC.fits, Bool.and_self]
              refine hKR13 _ ?_
              refine hK7 _ ?_
              refine awp_plain 2 (by kernel_rfl) rfl (fun g14 hg14 => ?_)
              simp only [go_sem, prC, exC, List.cons_append, List.nil_append, prC, exC, List.cons_append, List.nil_append, slDe]
              try simp (disch := omega) only [wrapN]
              refine ⟨_, ?_, k + 1, hlt, rfl, le_of ?_⟩
              · omega
              rw [hT]
              simp only [go_sem, ksK]
              omega
          · have hkey : dKey p.decls[k] = none := by simp [dKey, k1, k2, k3]
            have hT : tabTo p.decls (k + 1) = tabTo p.decls k := by simp [tabTo, List.getElem?_eq_getElem hlt, hkey]
            refine awp_plain 2 (by kernel_rfl) rfl (fun g7 hg7 => ?_)
            simp only [go_sem, k1, decide_false, List.nil_append, List.nil_append]
            refine hK13 _ ?_
            refine awp_f rfl ?_
            refine awp_plain 2 (by kernel_rfl) rfl (fun g8 hg8 => ?_)
            simp only [go_sem, k2, decide_false, List.nil_append, List.nil_append]
            refine hK12 _ ?_
            refine awp_f rfl ?_
            refine awp_seq_k (fun K24 hK24 => ?_)
            refine awp_plain 2 (by kernel_rfl) rfl (fun g9 hg9 => ?_)
            simp only [go_sem, k3, decide_false, List.nil_append, List.nil_append]
            refine hK24 _ ?_
            refine awp_f rfl ?_
            refine awp_exit ?_
            refine hK7 _ ?_
            refine awp_plain 2 (by kernel_rfl) rfl (fun g14 hg14 => ?_)
            simp only [go_sem, prC, exC, List.cons_append, List.nil_append, prC, exC, List.cons_append, List.nil_append, slDe]
            try simp (disch := omega) only [wrapN]
            refine ⟨_, ?_, k + 1, hlt, rfl, le_of ?_⟩
            · omega
            rw [hT]
            simp only [go_sem, ksK]
            omega
    · refine awp_seq_k (fun K25 hK25 => ?_)
      refine awp_plain 1 (by kernel_rfl) rfl (fun g3 hg3 => ?_)
      simp only [go_sem, hlt, prC, exC, List.cons_append, List.nil_append, prC, exC, List.cons_append, List.nil_append, slDe]
      refine hK25 _ ?_
      refine awp_seq_k (fun K26 hK26 => ?_)
      refine awp_f rfl ?_
      refine awp_exit ?_
      refine hK3 _ ?_
      refine awp_seq_k (fun K27 hK27 => ?_)
      have : k = p.decls.length := by omega
      subst this
      refine awp_plain 2 (by kernel_rfl) rfl (fun g15 hg15 => ?_)
      simp only [go_sem, List.nil_append, List.nil_append]
      refine hK27 _ ?_
      refine awp_ret ?_
      refine ret_fmap ⟨g1, 11, 0⟩ ?_
      simp only [go_sem]
      refine ret_still ⟨g1, 13, 0⟩ ?_
      simp only [go_sem, boxD]
      refine ends_ev rfl ?_
      simp only [go_sem]
      exact Co.refl _

/-! Looking up. -/
def zDe : List D := [dI 0, .val (.string ByteArray.empty), .val (.slice none 0 0), .val (.slice none 0 0), .val (.slice none 0 0), .val (.string ByteArray.empty), .val (.slice none 0 0)] ++ zSi ++ [dI 0, .val (.string ByteArray.empty), .val (.string ByteArray.empty), .val (.slice none 0 0), dI 0, .val (.slice none 0 0), .val (.slice none 0 0), dI 0] ++ [dI 0]
def zeroDe : Dec := ⟨0, ByteArray.empty, [], [], [], ByteArray.empty, [], zeroSi, zeroEx, 0⟩
theorem coZeroDe : Co (.agg zDe) (encDe zeroDe) := .agg (.cons (.refl _) (.cons (.refl _) (.cons (.nil _) (.cons (.nil _) (.cons (.nil _) (.cons (.refl _) (.cons (.nil _) (.cons (.refl _) (.cons (.nil _) (.cons (.nil _) (.cons (.refl _) (.cons (.nil _) (.cons (.refl _) (.cons (.refl _) (.cons (.refl _) (.cons (.refl _) (.cons (.refl _) (.cons (.nil _) (.cons (.refl _) (.cons (.nil _) (.cons (.nil _) (.cons (.refl _) (.cons (.refl _) .nil)))))))))))))))))))))))
def getDe (p : Prg) (k : Str × Str) : Option Dec := (tfind p.decls k).bind fun i => p.decls[i]?
theorem getDe_some {p : Prg} {k : Str × Str} {i : Nat} (h : tfind p.decls k = some i) : ∃ hi : i < p.decls.length, getDe p k = some p.decls[i] := by
  obtain ⟨hi, _⟩ := List.findIdx?_eq_some_iff_getElem.1 h
  exact ⟨hi, by simp [getDe, h, hi]⟩

theorem get_calls (p : Prg) (a b : Str) (g d : Nat) : ACalls E 38 [encTb p, .agg [.val (.string a), .val (.string b)]] [] g d (.tup [encDe ((getDe p (a, b)).getD zeroDe), dB (getDe p (a, b)).isSome]) [] := by
  have hlk := tab_find p.decls (a, b)
  refine acalls_of_awp (fn := Tryd.f38) (N := 31) Tryd.call38 Tryd.func38 rfl rfl (by simp) ?_
  simp only [go_sem]
  refine awp_seq_k (fun K1 hK1 => ?_)
  refine awp_plain 3 (by kernel_rfl) rfl (fun g0 hg0 => ?_)
  simp only [go_sem, encTb, tbC, prC, exC, List.cons_append, List.nil_append]
  refine hK1 _ ?_
  refine awp_seq_k (fun K2 hK2 => ?_)
  refine awp_seq_k (fun K3 hK3 => ?_)
  refine awp_plain 2 (by kernel_rfl) rfl (fun g1 hg1 => ?_)
  simp only [go_sem, List.nil_append]
  refine hK3 _ ?_
  refine awp_f rfl ?_
  refine awp_skip ?_
  refine hK2 _ ?_
  refine awp_seq_k (fun K4 hK4 => ?_)
  cases hf : tfind p.decls (a, b) with
  | none =>
    rw [hf] at hlk
    refine awp_any 10 (by kernel_rfl) (by kernel_rfl) rfl (fun g3 hg3 ops3 KR3 hops3 hKR3 => ?_)
    refine qrun_last 10 hops3 ?_
    simp only [go_sem, mget_tab', KS.fits, KC.fitsL, KC.fits, ksK, Bool.and_self, hlk, List.nil_append]
    refine aops_last 1 hops3 ?_
    simp only [go_sem, List.nil_append]
    refine hKR3 _ ?_
    refine hK4 _ ?_
    refine awp_seq_k (fun K5 hK5 => ?_)
    refine awp_seq_k (fun K6 hK6 => ?_)
    refine awp_plain 2 (by kernel_rfl) rfl (fun g4 hg4 => ?_)
    simp only [go_sem, Bool.not_false, List.nil_append]
    refine hK6 _ ?_
    refine awp_t rfl ?_
    refine awp_seq_k (fun K7 hK7 => ?_)
    refine awp_plain 3 (by kernel_rfl) rfl (fun g5 hg5 => ?_)
    simp only [go_sem, List.cons_append, List.nil_append]
    refine hK7 _ ?_
    refine awp_ret ?_
    have : getDe p (a, b) = none := by simp [getDe, hf]
    rw [this]
    refine ends_ev rfl ?_
    simp only [go_sem]
    exact Co.tup (.cons coZeroDe (.cons (.refl _) .nil))
  | some i =>
    rw [hf] at hlk
    obtain ⟨hi, hg⟩ := getDe_some hf
    refine awp_any 10 (by kernel_rfl) (by kernel_rfl) rfl (fun g3 hg3 ops3 KR3 hops3 hKR3 => ?_)
    refine qrun_last 10 hops3 ?_
    simp only [go_sem, mget_tab', KS.fits, KC.fitsL, KC.fits, ksK, Bool.and_self, hlk, List.nil_append]
    refine aops_last 1 hops3 ?_
    simp only [go_sem, List.nil_append]
    refine hKR3 _ ?_
    refine hK4 _ ?_
    refine awp_seq_k (fun K8 hK8 => ?_)
    refine awp_seq_k (fun K9 hK9 => ?_)
    refine awp_plain 2 (by kernel_rfl) rfl (fun g4 hg4 => ?_)
    simp only [go_sem, Bool.not_true, List.nil_append]
    refine hK9 _ ?_
    refine awp_f rfl ?_
    refine awp_skip ?_
    refine hK8 _ ?_
    refine awp_seq_k (fun K10 hK10 => ?_)
    refine awp_plain 10 (by kernel_rfl) rfl (fun g6 hg6 => ?_)
    simp only [go_sem, getM hi, exC, List.cons_append, List.nil_append, exC, List.cons_append, List.nil_append, deC, siC]
    refine hK10 _ ?_
    refine awp_ret ?_
    rw [hg]
    refine ends_ev rfl ?_
    simp only [go_sem]
    exact Co.refl _
end Go.Proofs.T


namespace Go.Proofs.T
open Go Go.Ab Go.RowKit

/-! ## The reference: declarations by name -/

theorem dot_ne (a : Str) : (ByteArray.empty : Str) ≠ ⟨#[46]⟩ ++ a := by
  intro h
  have := congrArg ByteArray.size h
  simp [ByteArray.size_append] at this
  have e : (⟨#[46]⟩ : ByteArray).size = 1 := rfl
  omega
def isDe (d : Dec) (n : Str) : Bool := decide ((d.kind = 1 ∨ d.kind = 2) ∧ d.name = n)
def isMe (d : Dec) (n m : Str) : Bool := decide (d.kind = 3 ∧ d.name = n ∧ d.sig.name = m)
theorem dKey_ty (d : Dec) (n : Str) : decide (dKey d = some (n, ByteArray.empty)) = isDe d n := by
  unfold dKey isDe
  by_cases h : d.kind = 1 ∨ d.kind = 2
  · simp [h]
  · simp only [h, if_false, false_and, decide_false]
    split
    · simp [Ne.symm (dot_ne d.sig.name)]
    · simp
def tyFind (p : Prg) (n : Str) : Option Nat := p.decls.findIdx? fun d => isDe d n
def meFind (p : Prg) (n m : Str) : Option Nat := p.decls.findIdx? fun d => isMe d n m
theorem tfind_ty (p : Prg) (n : Str) : tfind p.decls (n, ByteArray.empty) = tyFind p n := by
  unfold tfind tyFind
  congr 1
  funext d
  exact dKey_ty d n
end Go.Proofs.T


namespace Go.Proofs.T
open Go Go.Ab Go.RowKit

def tyDe (p : Prg) (n : Str) : Option Dec := (tyFind p n).bind fun i => p.decls[i]?
theorem getDe_ty (p : Prg) (n : Str) : getDe p (n, ByteArray.empty) = tyDe p n := by simp [getDe, tyDe, tfind_ty]
def kindOf (p : Prg) (n : Str) : Int := ((tyDe p n).getD zeroDe).kind
def fmsOf (p : Prg) (n : Str) : List Formal := ((tyDe p n).getD zeroDe).formals
def instOf (p : Prg) (x : Ty) (k : Int) : Bool := decide (kindOf p x.name = k) && decide ((fmsOf p x.name).length = x.args.length)
theorem tyDe_mem {p : Prg} {n : Str} {d : Dec} (h : tyDe p n = some d) : d ∈ p.decls := by
  unfold tyDe at h
  obtain ⟨i, _, hi⟩ := Option.bind_eq_some_iff.1 h
  exact List.mem_of_getElem? hi
theorem smDe_zero : smDe zeroDe := by
  have ht : smTy zeroTy := (smTy_iff _).2 ⟨by simp [zeroTy], by simp [zeroTy], by simp [zeroTy]⟩
  have hs : smSi zeroSi := ⟨by simp [zeroSi], ⟨by simp [zeroSi], by simp [zeroSi]⟩, ⟨by simp [zeroSi], by simp [zeroSi]⟩, ht⟩
  have he : smEx zeroEx := (smEx_iff _).2 ⟨by simp [zeroEx], ht, ⟨by simp [zeroEx], by simp [zeroEx]⟩, by simp [zeroEx], by simp [zeroEx]⟩
  exact ⟨by simp [zeroDe], ⟨by simp [zeroDe], by simp [zeroDe]⟩, ⟨by simp [zeroDe], by simp [zeroDe]⟩, ⟨by simp [zeroDe], by simp [zeroDe]⟩, by simp [zeroDe], ⟨by simp [zeroDe], by simp [zeroDe]⟩, hs, he⟩
theorem smDe_get {p : Prg} (h : smPr p) (n : Str) : smDe ((tyDe p n).getD zeroDe) := by
  cases hd : tyDe p n with
  | none => exact smDe_zero
  | some d => exact h.1.2 d (tyDe_mem hd)

/-! The reference. -/
/-! The table. -/
theorem tbKind_calls (p : Prg) (n : Str) (g d : Nat) : ACalls E 14 [encTb p, encS n] [] g d (dI (kindOf p n)) [] := by
  have hg := get_calls p n ByteArray.empty
  rw [getDe_ty] at hg
  refine acalls_of_awp (fn := Tryd.f14) (N := 16) Tryd.call14 Tryd.func14 rfl rfl (by simp) ?_
  simp only [go_sem]
  refine awp_seq_k (fun K1 hK1 => ?_)
  refine awp_plain 1 (by kernel_rfl) rfl (fun g0 hg0 => ?_)
  simp only [go_sem]
  refine hK1 _ ?_
  refine awp_seq_k (fun K2 hK2 => ?_)
  refine awp_ops (by kernel_rfl) rfl (fun g1 hg1 ops1 KR1 hops1 hKR1 => ?_)
  refine aops_eval 3 hops1 ?_
  simp only [go_sem]
  refine aops_pure hops1 rfl rfl rfl (hg _ _) (CoL.refl _) ?_
  refine aops_last 6 hops1 ?_
  simp only [go_sem]
  refine hKR1 _ ?_
  refine hK2 _ ?_
  refine awp_seq_k (fun K3 hK3 => ?_)
  refine awp_plain 3 (by kernel_rfl) rfl (fun g2 hg2 => ?_)
  simp only [go_sem, List.nil_append]
  refine hK3 _ ?_
  refine awp_ret ?_
  refine ends_ev rfl ?_
  simp only [go_sem]
  exact Co.refl _
theorem tbFms_calls (p : Prg) (h : smPr p) (n : Str) (g d : Nat) : ACalls E 18 [encTb p, encS n] [] g d (slFm (fmsOf p n)) [] := by
  have hg := get_calls p n ByteArray.empty
  rw [getDe_ty] at hg
  have hs := smDe_get h n
  have hj := join_calls ((tyDe p n).getD zeroDe).formals [] (by have := hs.2.1.1; omega) (by simp) hs.2.1.2 (by simp)
  rw [List.append_nil] at hj
  refine acalls_of_awp (fn := Tryd.f18) (N := 17) Tryd.call18 Tryd.func18 rfl rfl (by simp) ?_
  simp only [go_sem]
  refine awp_seq_k (fun K1 hK1 => ?_)
  refine awp_plain 1 (by kernel_rfl) rfl (fun g0 hg0 => ?_)
  simp only [go_sem]
  refine hK1 _ ?_
  refine awp_seq_k (fun K2 hK2 => ?_)
  refine awp_ops (by kernel_rfl) rfl (fun g1 hg1 ops1 KR1 hops1 hKR1 => ?_)
  refine aops_eval 3 hops1 ?_
  simp only [go_sem]
  refine aops_pure hops1 rfl rfl rfl (hg _ _) (CoL.refl _) ?_
  refine aops_last 6 hops1 ?_
  simp only [go_sem]
  refine hKR1 _ ?_
  refine hK2 _ ?_
  refine awp_seq_k (fun K3 hK3 => ?_)
  refine awp_ops (by kernel_rfl) rfl (fun g2 hg2 ops2 KR2 hops2 hKR2 => ?_)
  refine aops_eval 2 hops2 ?_
  simp only [go_sem, List.nil_append]
  refine aops_pure hops2 rfl rfl rfl (hj _ _) (.cons (.refl _) (.cons (.nil _) .nil)) ?_
  refine aops_last 1 hops2 ?_
  simp only [go_sem, List.nil_append]
  refine hKR2 _ ?_
  refine hK3 _ ?_
  refine awp_ret ?_
  refine ends_ev rfl ?_
  simp only [go_sem]
  exact Co.refl _

theorem tbInst_calls (p : Prg) (x : Ty) (k : Int) (hk : k ≠ 0) (g d : Nat) : ACalls E 33 [encTb p, encTy x, dI k] [] g d (.tup [encDe ((tyDe p x.name).getD zeroDe), dB (instOf p x k)]) [] := by
  have hg := get_calls p x.name ByteArray.empty
  rw [getDe_ty] at hg
  cases hs : (tyDe p x.name).isSome with
  | false =>
    have h0 : tyDe p x.name = none := by simpa using hs
    have e : instOf p x k = false := by simp [instOf, kindOf, h0, zeroDe, Ne.symm hk]
    rw [hs] at hg
    refine acalls_of_awp (fn := Tryd.f33) (N := 35) Tryd.call33 Tryd.func33 rfl rfl (by simp) ?_
    simp only [go_sem]
    refine awp_seq_k (fun K1 hK1 => ?_)
    refine awp_plain 3 (by kernel_rfl) rfl (fun g0 hg0 => ?_)
    simp only [go_sem]
    refine hK1 _ ?_
    refine awp_seq_k (fun K2 hK2 => ?_)
    refine awp_ops (by kernel_rfl) rfl (fun g1 hg1 ops1 KR1 hops1 hKR1 => ?_)
    refine aops_eval 4 hops1 ?_
    simp only [go_sem]
    refine aops_pure hops1 rfl rfl rfl (hg _ _) (CoL.refl _) ?_
    refine aops_last 6 hops1 ?_
    simp only [go_sem, deC, siC, exC, List.cons_append, List.nil_append]
    refine hKR1 _ ?_
    refine hK2 _ ?_
    refine awp_seq_k (fun K3 hK3 => ?_)
    refine awp_lateq 17 ⟨g0, 6, 0⟩ rfl rfl rfl rfl (by kernel_rfl) rfl ?_
    simp only [go_sem]
    intro g2 hg2 ops2 KR2 hops2 hKR2
    refine qrun_last 17 hops2 ?_
    simp only [go_sem, List.cons_append, List.nil_append]
    refine aops_last 1 hops2 ?_
    simp only [go_sem, List.nil_append]
    refine hKR2 _ ?_
    refine hK3 _ ?_
    refine awp_ret ?_
    rw [e]
    refine ends_ev rfl ?_
    simp only [go_sem]
    exact Co.refl _
  | true =>
    rw [hs] at hg
    by_cases h1 : ((tyDe p x.name).getD zeroDe).kind = k
    · subst h1
      have e : instOf p x ((tyDe p x.name).getD zeroDe).kind = decide ((((tyDe p x.name).getD zeroDe).formals.length : Int) = x.args.length) := by
        by_cases hl : ((tyDe p x.name).getD zeroDe).formals.length = x.args.length
        · simp [instOf, kindOf, fmsOf, hl]
        · have hl2 : ¬ ((((tyDe p x.name).getD zeroDe).formals.length : Int) = x.args.length) := by omega
          simp only [instOf, kindOf, fmsOf, hl, hl2, decide_false, Bool.and_false]
      refine acalls_of_awp (fn := Tryd.f33) (N := 35) Tryd.call33 Tryd.func33 rfl rfl (by simp) ?_
      simp only [go_sem]
      refine awp_seq_k (fun K1 hK1 => ?_)
      refine awp_plain 3 (by kernel_rfl) rfl (fun g0 hg0 => ?_)
      simp only [go_sem]
      refine hK1 _ ?_
      refine awp_seq_k (fun K2 hK2 => ?_)
      refine awp_ops (by kernel_rfl) rfl (fun g1 hg1 ops1 KR1 hops1 hKR1 => ?_)
      refine aops_eval 4 hops1 ?_
      simp only [go_sem]
      refine aops_pure hops1 rfl rfl rfl (hg _ _) (CoL.refl _) ?_
      refine aops_last 6 hops1 ?_
      simp only [go_sem, deC, siC, exC, List.cons_append, List.nil_append]
      refine hKR1 _ ?_
      refine hK2 _ ?_
      refine awp_seq_k (fun K3 hK3 => ?_)
      refine awp_lateq 17 ⟨g0, 6, 0⟩ rfl rfl rfl rfl (by kernel_rfl) rfl ?_
      simp only [go_sem]
      intro g2 hg2 ops2 KR2 hops2 hKR2
      refine qrun_last 17 hops2 ?_
      simp only [go_sem, decide_true, List.length_map, List.cons_append, List.nil_append]
      refine aops_last 1 hops2 ?_
      simp only [go_sem, List.nil_append]
      refine hKR2 _ ?_
      refine hK3 _ ?_
      refine awp_ret ?_
      rw [e]
      refine ends_ev rfl ?_
      simp only [go_sem]
      exact Co.refl _
    · have e : instOf p x k = false := by simp [instOf, kindOf, h1]
      refine acalls_of_awp (fn := Tryd.f33) (N := 35) Tryd.call33 Tryd.func33 rfl rfl (by simp) ?_
      simp only [go_sem]
      refine awp_seq_k (fun K1 hK1 => ?_)
      refine awp_plain 3 (by kernel_rfl) rfl (fun g0 hg0 => ?_)
      simp only [go_sem]
      refine hK1 _ ?_
      refine awp_seq_k (fun K2 hK2 => ?_)
      refine awp_ops (by kernel_rfl) rfl (fun g1 hg1 ops1 KR1 hops1 hKR1 => ?_)
      refine aops_eval 4 hops1 ?_
      simp only [go_sem]
      refine aops_pure hops1 rfl rfl rfl (hg _ _) (CoL.refl _) ?_
      refine aops_last 6 hops1 ?_
      simp only [go_sem, deC, siC, exC, List.cons_append, List.nil_append]
      refine hKR1 _ ?_
      refine hK2 _ ?_
      refine awp_seq_k (fun K3 hK3 => ?_)
      refine awp_lateq 17 ⟨g0, 6, 0⟩ rfl rfl rfl rfl (by kernel_rfl) rfl ?_
      simp only [go_sem]
      intro g2 hg2 ops2 KR2 hops2 hKR2
      refine qrun_last 17 hops2 ?_
      simp only [go_sem, h1, decide_false, List.cons_append, List.nil_append]
      refine aops_last 1 hops2 ?_
      simp only [go_sem, List.nil_append]
      refine hKR2 _ ?_
      refine hK3 _ ?_
      refine awp_ret ?_
      rw [e]
      refine ends_ev rfl ?_
      simp only [go_sem]
      exact Co.refl _

theorem tbProg_calls (p : Prg) (h : smPr p) (g d : Nat) : ACalls E 23 [encTb p] [] g d (encPr p) [] := by
  refine acalls_of_awp (fn := Tryd.f23) (N := 11) Tryd.call23 Tryd.func23 rfl rfl (by simp) ?_
  simp only [go_sem]
  refine awp_seq_k (fun K1 hK1 => ?_)
  refine awp_plain 1 (by kernel_rfl) rfl (fun g0 hg0 => ?_)
  simp only [go_sem, encTb, tbC, prC, exC, List.cons_append, List.nil_append]
  refine hK1 _ ?_
  refine awp_seq_k (fun K2 hK2 => ?_)
  refine awp_seq_k (fun K3 hK3 => ?_)
  refine awp_plain 2 (by kernel_rfl) rfl (fun g1 hg1 => ?_)
  simp only [go_sem, List.nil_append]
  refine hK3 _ ?_
  refine awp_f rfl ?_
  refine awp_skip ?_
  refine hK2 _ ?_
  refine awp_seq_k (fun K4 hK4 => ?_)
  refine awp_ops (by kernel_rfl) rfl (fun g3 hg3 ops3 KR3 hops3 hKR3 => ?_)
  refine aops_eval 4 hops3 ?_
  simp only [go_sem, List.nil_append]
  refine aops_pure hops3 rfl rfl rfl (clonePr p h _ _) (CoL.refl _) ?_
  refine aops_last 1 hops3 ?_
  simp only [go_sem, prC, exC, List.cons_append, List.nil_append]
  refine hKR3 _ ?_
  refine hK4 _ ?_
  refine awp_ret ?_
  refine ends_ev rfl ?_
  simp only [go_sem]
  exact Co.refl _

end Go.Proofs.T


namespace Go.Proofs.T
open Go Go.Ab Go.RowKit

/-! ## Fields -/

def fldsOf (d : Dec) (us : List Ty) : List Param := d.fields.map (mapPa (substTy (d.formals.map (·.name)) us))

theorem tbFields_calls (p : Prg) (h : smPr p) (x : Ty) (hx : smTy x) (g d : Nat) :
    ACalls E 12 [encTb p, encTy x] [] g d (.tup [slPa (if instOf p x 1 = true then fldsOf ((tyDe p x.name).getD zeroDe) x.args else []), dB (instOf p x 1)]) [] := by
  have hi := tbInst_calls p x 1 (by decide)
  have hs := smDe_get h x.name
  have hxa := ((smTy_iff x).1 hx)
  generalize (tyDe p x.name).getD zeroDe = e at hi hs
  obtain ⟨-, ⟨f1, f2⟩, ⟨f3, f4⟩, -⟩ := hs
  refine acalls_of_awp (fn := Tryd.f12) (N := 44) Tryd.call12 Tryd.func12 rfl rfl (by simp) ?_
  simp only [go_sem]
  refine awp_seq_k (fun K1 hK1 => ?_)
  refine awp_plain 3 (by kernel_rfl) rfl (fun g0 hg0 => ?_)
  simp only [go_sem, List.nil_append]
  refine hK1 _ ?_
  refine awp_seq_k (fun K2 hK2 => ?_)
  refine awp_ops (by kernel_rfl) rfl (fun g1 hg1 ops1 KR1 hops1 hKR1 => ?_)
  refine aops_eval 2 hops1 ?_
  simp only [go_sem, List.nil_append]
  cases hins : instOf p x 1 with
  | false =>
    refine aops_pure hops1 rfl rfl rfl (hi _ _) (CoL.refl _) ?_
    refine aops_last 6 hops1 ?_
    simp only [go_sem, hins, deC, siC, exC, List.cons_append, List.nil_append]
    refine hKR1 _ ?_
    refine hK2 _ ?_
    refine awp_seq_k (fun K3 hK3 => ?_)
    refine awp_seq_k (fun K4 hK4 => ?_)
    refine awp_plain 2 (by kernel_rfl) rfl (fun g2 hg2 => ?_)
    simp only [go_sem, Bool.not_false, List.nil_append]
    refine hK4 _ ?_
    refine awp_t rfl ?_
    refine awp_seq_k (fun K5 hK5 => ?_)
    refine awp_plain 2 (by kernel_rfl) rfl (fun g3 hg3 => ?_)
    simp only [go_sem, List.nil_append]
    refine hK5 _ ?_
    refine awp_ret ?_
    rw [hins, if_neg (by decide)]
    refine ends_ev rfl ?_
    simp only [go_sem]
    exact Co.tup (.cons (.nil _) (.cons (.refl _) .nil))
  | true =>
    refine aops_pure hops1 rfl rfl rfl (hi _ _) (CoL.refl _) ?_
    refine aops_last 6 hops1 ?_
    simp only [go_sem, hins, deC, siC, exC, List.cons_append, List.nil_append]
    refine hKR1 _ ?_
    refine hK2 _ ?_
    refine awp_seq_k (fun K6 hK6 => ?_)
    refine awp_seq_k (fun K7 hK7 => ?_)
    refine awp_plain 2 (by kernel_rfl) rfl (fun g2 hg2 => ?_)
    simp only [go_sem, Bool.not_true, List.nil_append]
    refine hK7 _ ?_
    refine awp_f rfl ?_
    refine awp_skip ?_
    refine hK6 _ ?_
    refine awp_seq_k (fun K8 hK8 => ?_)
    refine awp_plain 1 (by kernel_rfl) rfl (fun g4 hg4 => ?_)
    simp only [go_sem, List.nil_append]
    refine hK8 _ ?_
    refine awp_seq_k (fun K9 hK9 => ?_)
    refine awp_seq_k (fun K10 hK10 => ?_)
    refine awp_plain 4 (by kernel_rfl) rfl (fun g5 hg5 => ?_)
    simp only [go_sem, List.nil_append]
    refine hK10 _ ?_
    refine awp_block ?_
    refine awp_nil 8 62 5 rfl fun gn hgn => ?_
    have hn0 : gn ≠ g0 := fresh_g hgn 3 0 (by simp [go_sem])
    have hn1 : gn ≠ g1 := fresh_g hgn 6 0 (by simp [go_sem])
    refine awp_loop (fun m s => ∃ k a i, k ≤ e.fields.length ∧ m = e.fields.length - k ∧ a ≠ g0 ∧ a ≠ g1 ∧
        Le { env := [(3, .ptr ⟨g0, 3, 0⟩ 0), (6, .ptr ⟨g1, 6, 0⟩ 0), (20, slPa e.fields), (21, dN e.fields.length), (22, dN k), (8, .own ⟨a, i, 0⟩ k)],
             σ := [(⟨g0, 3, 0⟩, .box 25 (tyC x)), (⟨g1, 6, 0⟩, .box 52 (deC e)), (⟨a, i, 0⟩, .arr 62 5 ((e.fields.take k).map fun f => encPa (mapPa (substTy (e.formals.map (·.name)) x.args) f)))] } s) e.fields.length ?_ ?_
    · refine ⟨0, gn, 0, Nat.zero_le _, rfl, hn0, hn1, le_of ?_⟩
      simp only [go_sem, deC, siC, exC, List.cons_append, List.nil_append, tyC, hn0, hn1, Ne.symm hn0, Ne.symm hn1, List.take_zero, List.map_nil, deC, siC, exC, List.cons_append, List.nil_append, tyC]
      trivial
    · rintro m s ⟨k, a, i, hk, rfl, ha0, ha1, hle⟩
      refine awp_keep hle ?_
      clear hle
      have hfl : (fldsOf e x.args).length = e.fields.length := by simp [fldsOf]
      by_cases hlt : k < e.fields.length
      · refine awp_seq_k (fun K11 hK11 => ?_)
        refine awp_plain 1 (by kernel_rfl) rfl (fun g6 hg6 => ?_)
        simp only [go_sem, deC, siC, exC, List.cons_append, List.nil_append, tyC, deC, siC, exC, List.cons_append, List.nil_append, tyC, hlt, mapPa, encPa]
        refine hK11 _ ?_
        refine awp_seq_k (fun K12 hK12 => ?_)
        refine awp_t rfl ?_
        refine awp_skip ?_
        refine hK12 _ ?_
        refine awp_seq_k (fun K13 hK13 => ?_)
        refine awp_block ?_
        refine awp_seq_k (fun K14 hK14 => ?_)
        refine awp_plain 4 (by kernel_rfl) rfl (fun g7 hg7 => ?_)
        simp only [go_sem, getM hlt, List.cons_append, List.nil_append, List.cons_append, List.nil_append, encPa]
        refine hK14 _ ?_
        have hn7_a : g7 ≠ a := fresh_g hg7 i 0 (by simp [go_sem, Ne.symm ha0, Ne.symm ha1])
        have hn7_g0 : g7 ≠ g0 := fresh_g hg7 3 0 (by simp [go_sem])
        have hn7_g1 : g7 ≠ g1 := fresh_g hg7 6 0 (by simp [go_sem])
        refine awp_any 15 (by kernel_rfl) (by kernel_rfl) rfl (fun g8 hg8 ops8 KR8 hops8 hKR8 => ?_)
        refine qrun_eval 7 hops8 ?_
        simp only [go_sem, List.nil_append, List.nil_append, ha1, Ne.symm hn7_a, Ne.symm hn7_g0, hn7_g1, Ne.symm hn7_g1]
        refine qrun_pure hops8 rfl rfl rfl (names_calls e.formals (by omega) _ _) (CoL.refl _) rfl ?_
        refine qrun_eval 2 hops8 ?_
        simp only [go_sem, List.nil_append, List.nil_append, ha0, hn7_g0]
        refine qrun_pure hops8 rfl rfl rfl (subst_calls (e.formals.map (·.name)) x.args (by simp; omega) hxa.2.2 _ (f4 _ (List.getElem_mem hlt)).2 _ _) (CoL.refl _) rfl ?_
        refine qrun_last 4 hops8 ?_
        simp only [go_sem, List.cons_append, List.nil_append, List.cons_append, List.nil_append, Ne.symm hn7_a, Ne.symm hn7_g0, Ne.symm hn7_g1]
        refine aops_eval 0 hops8 ?_
        simp only [go_sem]
        refine aops_app hops8 rfl rfl rfl rfl rfl es36 sz62 by62 ze62 rfl (by decide) ?_
        simp only [go_sem, List.length_take_of_le (Nat.le_of_lt hlt), Ne.symm ha0, Ne.symm ha1, hn7_a]
        first | refine ⟨⟨by omega, by omega⟩, ?_⟩ | skip
        refine aops_last 1 hops8 ?_
        simp only [go_sem, List.nil_append, List.nil_append]
        refine hKR8 _ ?_
        refine hK13 _ ?_
        have hn8_g0 : g8 ≠ g0 := fresh_g hg8 3 0 (by simp [go_sem, hn7_g0])
        have hn8_g1 : g8 ≠ g1 := fresh_g hg8 6 0 (by simp [go_sem, hn7_g1])
        refine awp_plain 2 (by kernel_rfl) rfl (fun g9 hg9 => ?_)
        simp only [go_sem, deC, siC, exC, List.cons_append, List.nil_append, tyC, deC, siC, exC, List.cons_append, List.nil_append, tyC, mapPa, encPa]
        try simp (disch := omega) only [wrapN]
        refine ⟨_, ?_, k + 1, g8, 41, hlt, rfl, hn8_g0, hn8_g1, le_of ?_⟩
        · omega
        simp only [go_sem, ← takeM _ hlt, hn7_g0, hn7_g1, hn8_g0, Ne.symm hn8_g0, hn8_g1, Ne.symm hn8_g1]
        omega
      · refine awp_seq_k (fun K15 hK15 => ?_)
        refine awp_plain 1 (by kernel_rfl) rfl (fun g6 hg6 => ?_)
        simp only [go_sem, hlt, deC, siC, exC, List.cons_append, List.nil_append, tyC, deC, siC, exC, List.cons_append, List.nil_append, tyC]
        refine hK15 _ ?_
        refine awp_seq_k (fun K16 hK16 => ?_)
        refine awp_f rfl ?_
        refine awp_exit ?_
        refine hK9 _ ?_
        refine awp_seq_k (fun K17 hK17 => ?_)
        have : k = e.fields.length := by omega
        subst this
        refine awp_plain 3 (by kernel_rfl) rfl (fun g10 hg10 => ?_)
        simp only [go_sem, List.take_length, List.nil_append, List.nil_append]
        refine hK17 _ ?_
        refine awp_ret ?_
        refine ret_frz ⟨a, i, 0⟩ ?_
        simp only [go_sem, Ne.symm ha0, Ne.symm ha1]
        rw [hins, if_pos rfl]
        refine ends_ev rfl ?_
        simp only [go_sem]
        exact Co.of_eq (by simp [fldsOf, List.map_map, Function.comp_def, encPa, paC])

end Go.Proofs.T

