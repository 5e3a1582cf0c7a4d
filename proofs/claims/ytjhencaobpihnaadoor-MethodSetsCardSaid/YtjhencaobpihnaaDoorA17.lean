/- A part of the proof, under no conditions of its own: A17. -/
import Derived.Test.YtjhencaobpihnaaDoorYD
namespace Go.Proofs.T
open Go Go.Ab Go.RowKit

def cntS (v : Str) (n : Nat) : Nat := n + 1 + v.size / 50
def cntHead (d : Dec) (n : Nat) : Nat := cnt cntPa d.fields (cnt cntFm d.formals (n + 1 + d.name.size / 50 + d.recv.size / 50))
def cntTail (d : Dec) (n : Nat) : Nat := if n ≤ 2000 then countEx d.body (cntSi d.sig n) else n
def cntDe (d : Dec) (n : Nat) : Nat := cntTail d (cnt cntS d.vars (cnt cntSi d.sigs (cntHead d n)))
def cntPr (p : Prg) : Nat := cnt cntDe p.decls (countEx p.main 0)

theorem cntS_le (v : Str) (h : v.size ≤ 9223372036854775807) (n : Nat) (hn : n ≤ 2000) : cntS v n ≤ 2 * big := by unfold cntS big; omega
theorem cntSi_small (s : Sig) (h : okSi s) (n : Nat) (hn : n ≤ 2000) : cntSi s n ≤ 7 * big := by
  have := cntSi_le s h n
  unfold big at *
  omega
theorem cntHead_le (d : Dec) (h : okDe d) (n : Nat) : cntHead d n ≤ n + 3 * big ∨ cntHead d n ≤ 3 * big := by
  obtain ⟨h1, ⟨h2, h3⟩, ⟨h4, h5⟩, _, h6, _⟩ := h
  have a1 := cnt_le (3 * big) d.formals (n + 1 + d.name.size / 50 + d.recv.size / 50) (fun a ha n hn => cntFm_le a (h3 a ha) n hn)
  have a2 := cnt_le (3 * big) d.fields (cnt cntFm d.formals (n + 1 + d.name.size / 50 + d.recv.size / 50)) (fun a ha n hn => cntPa_le a (h5 a ha) n hn)
  unfold cntHead
  unfold big at *
  omega
theorem cntTail_le (d : Dec) (h : okDe d) (n : Nat) : cntTail d n ≤ n ∨ cntTail d n ≤ 10 * big := by
  obtain ⟨_, _, _, _, _, _, h7, h8⟩ := h
  unfold cntTail
  split
  · rename_i hn
    have a1 := cntSi_le d.sig h7 n
    have a2 := countEx_le d.body h8 (cntSi d.sig n)
    unfold big at *
    omega
  · left; exact Nat.le_refl _
theorem cntDe_small (d : Dec) (h : okDe d) (n : Nat) (hn : n ≤ 2000) : cntDe d n ≤ 10 * big := by
  have h0 := h
  obtain ⟨h1, ⟨h2, h3⟩, ⟨h4, h5⟩, ⟨h6, h7⟩, h8, ⟨h9, h10⟩, h11, h12⟩ := h
  have a1 := cntHead_le d h0 n
  have a2 := cnt_le (7 * big) d.sigs (cntHead d n) (fun a ha n hn => cntSi_small a (h7 a ha) n hn)
  have a3 := cnt_le (7 * big) d.vars (cnt cntSi d.sigs (cntHead d n)) (fun a ha n hn => Nat.le_trans (cntS_le a (h10 a ha) n hn) (by unfold big; omega))
  have a4 := cntTail_le d h0 (cnt cntS d.vars (cnt cntSi d.sigs (cntHead d n)))
  unfold cntDe
  unfold big at *
  omega

theorem cntPr_calls (p : Prg) (hp : okPr p) (g d : Nat) : ACalls E 13 [encPr p] [] g d (dN (cntPr p)) [] := by
  have hbig : big = 184467440737097518 := rfl
  obtain ⟨⟨h1, h2⟩, h3⟩ := hp
  have b0 := countEx_le p.main h3 0
  refine acalls_of_awp (fn := Tryd.f13) (N := 94) Tryd.call13 Tryd.func13 rfl rfl (by simp) ?_
  simp only [go_sem]
  refine awp_seq_k (fun K1 hK1 => ?_)
  refine awp_plain 2 (by kernel_rfl) rfl (fun g0 hg0 => ?_)
  simp only [go_sem]
  refine hK1 _ ?_
  refine awp_seq_k (fun K2 hK2 => ?_)
  refine awp_ops (by kernel_rfl) rfl (fun g1 hg1 ops1 KR1 hops1 hKR1 => ?_)
  refine aops_eval 2 hops1 ?_
  simp only [go_sem]
  refine aops_pure hops1 rfl rfl rfl (countEx_calls _ h3 0 _ _ (by omega)) (CoL.refl _) ?_
  refine aops_last 1 hops1 ?_
  simp only [go_sem]
  refine hKR1 _ ?_
  refine hK2 _ ?_
  refine awp_seq_k (fun K3 hK3 => ?_)
  refine awp_seq_k (fun K4 hK4 => ?_)
  refine awp_plain 1 (by kernel_rfl) rfl (fun g2 hg2 => ?_)
  simp only [go_sem]
  refine hK4 _ ?_
  refine awp_block ?_
  refine awp_loop (fun m s => ∃ k n', k ≤ p.decls.length ∧ m = p.decls.length - k ∧ n' ≤ 10 * big ∧ cnt cntDe (p.decls.drop k) n' = cntPr p ∧
      Le { env := [(1, .ptr ⟨g0, 1, 0⟩ 0), (3, dN n'), (4, dN k)], σ := [(⟨g0, 1, 0⟩, .box 30 (prC p))] } s) p.decls.length ?_ ?_
  · refine ⟨0, countEx p.main 0, Nat.zero_le _, rfl, by omega, rfl, le_of ?_⟩
    simp only [go_sem]
    trivial
  · rintro m s ⟨k, n', hk, rfl, hn', hc, hle⟩
    refine awp_keep hle ?_
    clear hle
    by_cases hlt : k < p.decls.length
    · by_cases hle : n' ≤ 2000
      · have hle' : (n' : Int) ≤ 2000 := by omega
        have g1 := getM (f := encDe) hlt
        have hd := h2 _ (List.getElem_mem hlt)
        have hd0 := hd
        rw [cnt_step hlt hle] at hc
        have b1 := cntDe_small _ hd n' hle
        generalize p.decls[k] = D at *
        obtain ⟨i1, ⟨i2, i3⟩, ⟨i4, i5⟩, ⟨i6, i7⟩, i8, ⟨i9, i10⟩, i11, i12⟩ := hd
        have a1 := cntHead_le D hd0 n'
        have f1 := cnt_le (3 * big) D.formals (n' + 1 + D.name.size / 50 + D.recv.size / 50) (fun a ha n hn => cntFm_le a (i3 a ha) n hn)
        refine awp_seq_k (fun K5 hK5 => ?_)
        refine awp_seq_k (fun K6 hK6 => ?_)
        refine awp_plain 9 (by kernel_rfl) rfl (fun g3 hg3 => ?_)
        simp only [go_sem, hle', hlt]
        refine hK6 _ ?_
        refine awp_t rfl ?_
        refine awp_skip ?_
        refine hK5 _ ?_
        refine awp_seq_k (fun K7 hK7 => ?_)
        refine awp_block ?_
        refine awp_seq_k (fun K8 hK8 => ?_)
        refine awp_plain 7 (by kernel_rfl) rfl (fun g5 hg5 => ?_)
        simp only [go_sem, g1]
        refine hK8 _ ?_
        refine awp_seq_k (fun K9 hK9 => ?_)
        refine awp_any 18 (by kernel_rfl) (by kernel_rfl) rfl (fun g6 hg6 ops6 KR6 hops6 hKR6 => ?_)
        refine qrun_eval 16 hops6 ?_
        simp only [go_sem]
        try simp (disch := omega) only [wrapN, Int.tdiv_eq_ediv_of_nonneg]
        refine qrun_pure hops6 rfl rfl rfl (cntFm_calls D.formals (n' + 1 + D.name.size / 50 + D.recv.size / 50) i2 i3 (by omega) _ _) (CoL.refl _) rfl ?_
        refine qrun_pure hops6 rfl rfl rfl (cntPa_calls D.fields _ i4 i5 (by omega) _ _) (CoL.refl _) rfl ?_
        refine qrun_last 0 hops6 ?_
        simp only [go_sem]
        refine aops_last 1 hops6 ?_
        simp only [go_sem]
        refine hKR6 _ ?_
        refine hK9 _ ?_
        refine awp_seq_k (fun K10 hK10 => ?_)
        refine awp_seq_k (fun K11 hK11 => ?_)
        refine awp_plain 1 (by kernel_rfl) rfl (fun g7 hg7 => ?_)
        simp only [go_sem]
        refine hK11 _ ?_
        refine awp_block ?_
        generalize hH : cntHead D n' = H at *
        have hHd : H = cnt cntPa D.fields (cnt cntFm D.formals (n' + 1 + D.name.size / 50 + D.recv.size / 50)) := by rw [← hH]; rfl
        rw [← hHd]
        refine awp_loop (fun m s => ∃ j u, j ≤ D.sigs.length ∧ m = D.sigs.length - j ∧ u ≤ 14 * big ∧ cnt cntSi D.sigs (cntHead D n') = cnt cntSi (D.sigs.drop j) u ∧
            Le { env := [(1, .ptr ⟨g0, 1, 0⟩ 0), (3, dN u), (4, dN k), (5, .ptr ⟨g5, 5, 0⟩ 0), (6, dN j)], σ := [(⟨g0, 1, 0⟩, .box 30 (prC p)), (⟨g5, 5, 0⟩, .box 48 (deC D))] } s) D.sigs.length ?_ ?_
        · refine ⟨0, H, Nat.zero_le _, rfl, by omega, by rw [hH]; rfl, le_of ?_⟩
          simp only [go_sem]
          trivial
        · rintro m s ⟨j, u, hj, rfl, hub, hu0, hle2⟩
          refine awp_keep hle2 ?_
          clear hle2
          by_cases hjt : j < D.sigs.length
          · have g2 := getM (f := encSi) hjt
            by_cases hu : u ≤ 2000
            · have hu' : (u : Int) ≤ 2000 := by omega
              have s1 := cntSi_small _ (i7 _ (List.getElem_mem hjt)) u hu
              refine awp_seq_k (fun K12 hK12 => ?_)
              refine awp_seq_k (fun K13 hK13 => ?_)
              refine awp_plain 9 (by kernel_rfl) rfl (fun g8 hg8 => ?_)
              simp only [go_sem, hu', hjt]
              refine hK13 _ ?_
              refine awp_t rfl ?_
              refine awp_skip ?_
              refine hK12 _ ?_
              refine awp_seq_k (fun K14 hK14 => ?_)
              refine awp_block ?_
              refine awp_ops (by kernel_rfl) rfl (fun g10 hg10 ops10 KR10 hops10 hKR10 => ?_)
              refine aops_eval 6 hops10 ?_
              simp only [go_sem, g2]
              refine aops_pure hops10 rfl rfl rfl (cntSi_calls _ u (i7 _ (List.getElem_mem hjt)) (by omega) _ _) (CoL.refl _) ?_
              refine aops_last 1 hops10 ?_
              simp only [go_sem]
              refine hKR10 _ ?_
              refine hK14 _ ?_
              refine awp_plain 3 (by kernel_rfl) rfl (fun g9 hg9 => ?_)
              simp only [go_sem]
              try simp (disch := omega) only [wrapN]
              rw [cnt_step hjt hu] at hu0
              refine ⟨_, ?_, j + 1, cntSi D.sigs[j] u, hjt, rfl, by omega, hu0, le_of ?_⟩
              · omega
              simp only [go_sem]
              omega
            · have hu' : ¬ (u : Int) ≤ 2000 := by omega
              rw [cnt_stop hu] at hu0
              refine awp_seq_k (fun K15 hK15 => ?_)
              refine awp_seq_k (fun K16 hK16 => ?_)
              refine awp_plain 9 (by kernel_rfl) rfl (fun g8 hg8 => ?_)
              simp only [go_sem, hu', hjt]
              refine hK16 _ ?_
              refine awp_f rfl ?_
              refine awp_exit ?_
              refine hK10 _ ?_
              refine awp_seq_k (fun K17 hK17 => ?_)
              refine awp_seq_k (fun K18 hK18 => ?_)
              refine awp_plain 1 (by kernel_rfl) rfl (fun g11 hg11 => ?_)
              simp only [go_sem]
              refine hK18 _ ?_
              refine awp_block ?_
              refine awp_loop (fun m s => ∃ j v, j ≤ D.vars.length ∧ m = D.vars.length - j ∧ v ≤ 15 * big ∧ cnt cntS D.vars (cnt cntSi D.sigs (cntHead D n')) = cnt cntS (D.vars.drop j) v ∧
                  Le { env := [(1, .ptr ⟨g0, 1, 0⟩ 0), (3, dN v), (4, dN k), (5, .ptr ⟨g5, 5, 0⟩ 0), (7, dN j)], σ := [(⟨g0, 1, 0⟩, .box 30 (prC p)), (⟨g5, 5, 0⟩, .box 48 (deC D))] } s) D.vars.length ?_ ?_
              · refine ⟨0, u, Nat.zero_le _, rfl, by omega, by rw [hu0]; rfl, le_of ?_⟩
                simp only [go_sem]
                trivial
              · rintro m s ⟨j, v, hj, rfl, hvb, hv0, hle3⟩
                refine awp_keep hle3 ?_
                clear hle3
                by_cases hjt : j < D.vars.length
                · have g3 := getM (f := encS) hjt
                  by_cases hv2 : v ≤ 2000
                  · have hv2' : (v : Int) ≤ 2000 := by omega
                    have s1 := i10 _ (List.getElem_mem hjt)
                    have s2 := cntS_le _ s1 v hv2
                    refine awp_seq_k (fun K19 hK19 => ?_)
                    refine awp_seq_k (fun K20 hK20 => ?_)
                    refine awp_plain 9 (by kernel_rfl) rfl (fun g12 hg12 => ?_)
                    simp only [go_sem, hv2', hjt]
                    refine hK20 _ ?_
                    refine awp_t rfl ?_
                    refine awp_skip ?_
                    refine hK19 _ ?_
                    refine awp_seq_k (fun K21 hK21 => ?_)
                    refine awp_block ?_
                    refine awp_plain 11 (by kernel_rfl) rfl (fun g14 hg14 => ?_)
                    simp only [go_sem, g3]
                    try simp (disch := omega) only [wrapN, Int.tdiv_eq_ediv_of_nonneg]
                    refine hK21 _ ?_
                    refine awp_plain 3 (by kernel_rfl) rfl (fun g13 hg13 => ?_)
                    simp only [go_sem]
                    try simp (disch := omega) only [wrapN]
                    rw [cnt_step hjt hv2] at hv0
                    refine ⟨_, ?_, j + 1, cntS D.vars[j] v, hjt, rfl, by omega, hv0, le_of ?_⟩
                    · omega
                    simp only [go_sem, cntS]
                    omega
                  · have hv2' : ¬ (v : Int) ≤ 2000 := by omega
                    rw [cnt_stop hv2] at hv0
                    refine awp_seq_k (fun K22 hK22 => ?_)
                    refine awp_seq_k (fun K23 hK23 => ?_)
                    refine awp_plain 9 (by kernel_rfl) rfl (fun g12 hg12 => ?_)
                    simp only [go_sem, hv2', hjt]
                    refine hK23 _ ?_
                    refine awp_f rfl ?_
                    refine awp_exit ?_
                    refine hK17 _ ?_
                    refine awp_seq_k (fun K24 hK24 => ?_)
                    by_cases hv : v ≤ 2000
                    · have hv' : (v : Int) ≤ 2000 := by omega
                      have t1 := cntSi_le D.sig i11 v
                      have t2 := countEx_le D.body i12 (cntSi D.sig v)
                      have ht : cntTail D v = countEx D.body (cntSi D.sig v) := by unfold cntTail; rw [if_pos hv]
                      refine awp_plain 2 (by kernel_rfl) rfl (fun g15 hg15 => ?_)
                      simp only [go_sem, hv']
                      refine hK24 _ ?_
                      refine awp_t rfl ?_
                      refine awp_any 7 (by kernel_rfl) (by kernel_rfl) rfl (fun g16 hg16 ops16 KR16 hops16 hKR16 => ?_)
                      refine qrun_eval 5 hops16 ?_
                      simp only [go_sem]
                      refine qrun_pure hops16 rfl rfl rfl (cntSi_calls D.sig v i11 (by omega) _ _) (CoL.refl _) rfl ?_
                      refine qrun_pure hops16 rfl rfl rfl (countEx_calls _ i12 _ _ _ (by omega)) (CoL.refl _) rfl ?_
                      refine qrun_last 0 hops16 ?_
                      simp only [go_sem]
                      refine aops_last 1 hops16 ?_
                      simp only [go_sem]
                      refine hKR16 _ ?_
                      refine hK7 _ ?_
                      refine awp_plain 3 (by kernel_rfl) rfl (fun g4 hg4 => ?_)
                      simp only [go_sem]
                      try simp (disch := omega) only [wrapN]
                      refine ⟨_, ?_, k + 1, cntDe D n', hlt, rfl, by omega, hc, le_of ?_⟩
                      · omega
                      rw [show cntDe D n' = countEx D.body (cntSi D.sig v) by rw [← ht, ← hv0]; rfl]
                      simp only [go_sem]
                      omega
                    · have hv' : ¬ (v : Int) ≤ 2000 := by omega
                      have ht : cntTail D v = v := by unfold cntTail; rw [if_neg hv]
                      refine awp_plain 2 (by kernel_rfl) rfl (fun g15 hg15 => ?_)
                      simp only [go_sem, hv']
                      refine hK24 _ ?_
                      refine awp_f rfl ?_
                      refine awp_skip ?_
                      refine hK7 _ ?_
                      refine awp_plain 3 (by kernel_rfl) rfl (fun g4 hg4 => ?_)
                      simp only [go_sem]
                      try simp (disch := omega) only [wrapN]
                      refine ⟨_, ?_, k + 1, cntDe D n', hlt, rfl, by omega, hc, le_of ?_⟩
                      · omega
                      rw [show cntDe D n' = v by rw [← ht, ← hv0]; rfl]
                      simp only [go_sem]
                      omega
                · rw [dropN _ _ (by omega)] at hv0
                  simp only [cnt] at hv0
                  refine awp_seq_k (fun K25 hK25 => ?_)
                  refine awp_seq_k (fun K26 hK26 => ?_)
                  refine awp_plain 9 (by kernel_rfl) rfl (fun g12 hg12 => ?_)
                  simp only [go_sem, hjt]
                  refine hK26 _ ?_
                  refine awp_f rfl ?_
                  refine awp_exit ?_
                  refine hK17 _ ?_
                  refine awp_seq_k (fun K27 hK27 => ?_)
                  by_cases hv : v ≤ 2000
                  · have hv' : (v : Int) ≤ 2000 := by omega
                    have t1 := cntSi_le D.sig i11 v
                    have t2 := countEx_le D.body i12 (cntSi D.sig v)
                    have ht : cntTail D v = countEx D.body (cntSi D.sig v) := by unfold cntTail; rw [if_pos hv]
                    refine awp_plain 2 (by kernel_rfl) rfl (fun g15 hg15 => ?_)
                    simp only [go_sem, hv']
                    refine hK27 _ ?_
                    refine awp_t rfl ?_
                    refine awp_any 7 (by kernel_rfl) (by kernel_rfl) rfl (fun g16 hg16 ops16 KR16 hops16 hKR16 => ?_)
                    refine qrun_eval 5 hops16 ?_
                    simp only [go_sem]
                    refine qrun_pure hops16 rfl rfl rfl (cntSi_calls D.sig v i11 (by omega) _ _) (CoL.refl _) rfl ?_
                    refine qrun_pure hops16 rfl rfl rfl (countEx_calls _ i12 _ _ _ (by omega)) (CoL.refl _) rfl ?_
                    refine qrun_last 0 hops16 ?_
                    simp only [go_sem]
                    refine aops_last 1 hops16 ?_
                    simp only [go_sem]
                    refine hKR16 _ ?_
                    refine hK7 _ ?_
                    refine awp_plain 3 (by kernel_rfl) rfl (fun g4 hg4 => ?_)
                    simp only [go_sem]
                    try simp (disch := omega) only [wrapN]
                    refine ⟨_, ?_, k + 1, cntDe D n', hlt, rfl, by omega, hc, le_of ?_⟩
                    · omega
                    rw [show cntDe D n' = countEx D.body (cntSi D.sig v) by rw [← ht, ← hv0]; rfl]
                    simp only [go_sem]
                    omega
                  · have hv' : ¬ (v : Int) ≤ 2000 := by omega
                    have ht : cntTail D v = v := by unfold cntTail; rw [if_neg hv]
                    refine awp_plain 2 (by kernel_rfl) rfl (fun g15 hg15 => ?_)
                    simp only [go_sem, hv']
                    refine hK27 _ ?_
                    refine awp_f rfl ?_
                    refine awp_skip ?_
                    refine hK7 _ ?_
                    refine awp_plain 3 (by kernel_rfl) rfl (fun g4 hg4 => ?_)
                    simp only [go_sem]
                    try simp (disch := omega) only [wrapN]
                    refine ⟨_, ?_, k + 1, cntDe D n', hlt, rfl, by omega, hc, le_of ?_⟩
                    · omega
                    rw [show cntDe D n' = v by rw [← ht, ← hv0]; rfl]
                    simp only [go_sem]
                    omega
          · rw [dropN _ _ (by omega)] at hu0
            simp only [cnt] at hu0
            refine awp_seq_k (fun K28 hK28 => ?_)
            refine awp_seq_k (fun K29 hK29 => ?_)
            refine awp_plain 9 (by kernel_rfl) rfl (fun g8 hg8 => ?_)
            simp only [go_sem, hjt]
            refine hK29 _ ?_
            refine awp_f rfl ?_
            refine awp_exit ?_
            refine hK10 _ ?_
            refine awp_seq_k (fun K30 hK30 => ?_)
            refine awp_seq_k (fun K31 hK31 => ?_)
            refine awp_plain 1 (by kernel_rfl) rfl (fun g11 hg11 => ?_)
            simp only [go_sem]
            refine hK31 _ ?_
            refine awp_block ?_
            refine awp_loop (fun m s => ∃ j v, j ≤ D.vars.length ∧ m = D.vars.length - j ∧ v ≤ 15 * big ∧ cnt cntS D.vars (cnt cntSi D.sigs (cntHead D n')) = cnt cntS (D.vars.drop j) v ∧
                Le { env := [(1, .ptr ⟨g0, 1, 0⟩ 0), (3, dN v), (4, dN k), (5, .ptr ⟨g5, 5, 0⟩ 0), (7, dN j)], σ := [(⟨g0, 1, 0⟩, .box 30 (prC p)), (⟨g5, 5, 0⟩, .box 48 (deC D))] } s) D.vars.length ?_ ?_
            · refine ⟨0, u, Nat.zero_le _, rfl, by omega, by rw [hu0]; rfl, le_of ?_⟩
              simp only [go_sem]
              trivial
            · rintro m s ⟨j, v, hj, rfl, hvb, hv0, hle3⟩
              refine awp_keep hle3 ?_
              clear hle3
              by_cases hjt : j < D.vars.length
              · have g3 := getM (f := encS) hjt
                by_cases hv2 : v ≤ 2000
                · have hv2' : (v : Int) ≤ 2000 := by omega
                  have s1 := i10 _ (List.getElem_mem hjt)
                  have s2 := cntS_le _ s1 v hv2
                  refine awp_seq_k (fun K32 hK32 => ?_)
                  refine awp_seq_k (fun K33 hK33 => ?_)
                  refine awp_plain 9 (by kernel_rfl) rfl (fun g12 hg12 => ?_)
                  simp only [go_sem, hv2', hjt]
                  refine hK33 _ ?_
                  refine awp_t rfl ?_
                  refine awp_skip ?_
                  refine hK32 _ ?_
                  refine awp_seq_k (fun K34 hK34 => ?_)
                  refine awp_block ?_
                  refine awp_plain 11 (by kernel_rfl) rfl (fun g14 hg14 => ?_)
                  simp only [go_sem, g3]
                  try simp (disch := omega) only [wrapN, Int.tdiv_eq_ediv_of_nonneg]
                  refine hK34 _ ?_
                  refine awp_plain 3 (by kernel_rfl) rfl (fun g13 hg13 => ?_)
                  simp only [go_sem]
                  try simp (disch := omega) only [wrapN]
                  rw [cnt_step hjt hv2] at hv0
                  refine ⟨_, ?_, j + 1, cntS D.vars[j] v, hjt, rfl, by omega, hv0, le_of ?_⟩
                  · omega
                  simp only [go_sem, cntS]
                  omega
                · have hv2' : ¬ (v : Int) ≤ 2000 := by omega
                  rw [cnt_stop hv2] at hv0
                  refine awp_seq_k (fun K35 hK35 => ?_)
                  refine awp_seq_k (fun K36 hK36 => ?_)
                  refine awp_plain 9 (by kernel_rfl) rfl (fun g12 hg12 => ?_)
                  simp only [go_sem, hv2', hjt]
                  refine hK36 _ ?_
                  refine awp_f rfl ?_
                  refine awp_exit ?_
                  refine hK30 _ ?_
                  refine awp_seq_k (fun K37 hK37 => ?_)
                  by_cases hv : v ≤ 2000
                  · have hv' : (v : Int) ≤ 2000 := by omega
                    have t1 := cntSi_le D.sig i11 v
                    have t2 := countEx_le D.body i12 (cntSi D.sig v)
                    have ht : cntTail D v = countEx D.body (cntSi D.sig v) := by unfold cntTail; rw [if_pos hv]
                    refine awp_plain 2 (by kernel_rfl) rfl (fun g15 hg15 => ?_)
                    simp only [go_sem, hv']
                    refine hK37 _ ?_
                    refine awp_t rfl ?_
                    refine awp_any 7 (by kernel_rfl) (by kernel_rfl) rfl (fun g16 hg16 ops16 KR16 hops16 hKR16 => ?_)
                    refine qrun_eval 5 hops16 ?_
                    simp only [go_sem]
                    refine qrun_pure hops16 rfl rfl rfl (cntSi_calls D.sig v i11 (by omega) _ _) (CoL.refl _) rfl ?_
                    refine qrun_pure hops16 rfl rfl rfl (countEx_calls _ i12 _ _ _ (by omega)) (CoL.refl _) rfl ?_
                    refine qrun_last 0 hops16 ?_
                    simp only [go_sem]
                    refine aops_last 1 hops16 ?_
                    simp only [go_sem]
                    refine hKR16 _ ?_
                    refine hK7 _ ?_
                    refine awp_plain 3 (by kernel_rfl) rfl (fun g4 hg4 => ?_)
                    simp only [go_sem]
                    try simp (disch := omega) only [wrapN]
                    refine ⟨_, ?_, k + 1, cntDe D n', hlt, rfl, by omega, hc, le_of ?_⟩
                    · omega
                    rw [show cntDe D n' = countEx D.body (cntSi D.sig v) by rw [← ht, ← hv0]; rfl]
                    simp only [go_sem]
                    omega
                  · have hv' : ¬ (v : Int) ≤ 2000 := by omega
                    have ht : cntTail D v = v := by unfold cntTail; rw [if_neg hv]
                    refine awp_plain 2 (by kernel_rfl) rfl (fun g15 hg15 => ?_)
                    simp only [go_sem, hv']
                    refine hK37 _ ?_
                    refine awp_f rfl ?_
                    refine awp_skip ?_
                    refine hK7 _ ?_
                    refine awp_plain 3 (by kernel_rfl) rfl (fun g4 hg4 => ?_)
                    simp only [go_sem]
                    try simp (disch := omega) only [wrapN]
                    refine ⟨_, ?_, k + 1, cntDe D n', hlt, rfl, by omega, hc, le_of ?_⟩
                    · omega
                    rw [show cntDe D n' = v by rw [← ht, ← hv0]; rfl]
                    simp only [go_sem]
                    omega
              · rw [dropN _ _ (by omega)] at hv0
                simp only [cnt] at hv0
                refine awp_seq_k (fun K38 hK38 => ?_)
                refine awp_seq_k (fun K39 hK39 => ?_)
                refine awp_plain 9 (by kernel_rfl) rfl (fun g12 hg12 => ?_)
                simp only [go_sem, hjt]
                refine hK39 _ ?_
                refine awp_f rfl ?_
                refine awp_exit ?_
                refine hK30 _ ?_
                refine awp_seq_k (fun K40 hK40 => ?_)
                by_cases hv : v ≤ 2000
                · have hv' : (v : Int) ≤ 2000 := by omega
                  have t1 := cntSi_le D.sig i11 v
                  have t2 := countEx_le D.body i12 (cntSi D.sig v)
                  have ht : cntTail D v = countEx D.body (cntSi D.sig v) := by unfold cntTail; rw [if_pos hv]
                  refine awp_plain 2 (by kernel_rfl) rfl (fun g15 hg15 => ?_)
                  simp only [go_sem, hv']
                  refine hK40 _ ?_
                  refine awp_t rfl ?_
                  refine awp_any 7 (by kernel_rfl) (by kernel_rfl) rfl (fun g16 hg16 ops16 KR16 hops16 hKR16 => ?_)
                  refine qrun_eval 5 hops16 ?_
                  simp only [go_sem]
                  refine qrun_pure hops16 rfl rfl rfl (cntSi_calls D.sig v i11 (by omega) _ _) (CoL.refl _) rfl ?_
                  refine qrun_pure hops16 rfl rfl rfl (countEx_calls _ i12 _ _ _ (by omega)) (CoL.refl _) rfl ?_
                  refine qrun_last 0 hops16 ?_
                  simp only [go_sem]
                  refine aops_last 1 hops16 ?_
                  simp only [go_sem]
                  refine hKR16 _ ?_
                  refine hK7 _ ?_
                  refine awp_plain 3 (by kernel_rfl) rfl (fun g4 hg4 => ?_)
                  simp only [go_sem]
                  try simp (disch := omega) only [wrapN]
                  refine ⟨_, ?_, k + 1, cntDe D n', hlt, rfl, by omega, hc, le_of ?_⟩
                  · omega
                  rw [show cntDe D n' = countEx D.body (cntSi D.sig v) by rw [← ht, ← hv0]; rfl]
                  simp only [go_sem]
                  omega
                · have hv' : ¬ (v : Int) ≤ 2000 := by omega
                  have ht : cntTail D v = v := by unfold cntTail; rw [if_neg hv]
                  refine awp_plain 2 (by kernel_rfl) rfl (fun g15 hg15 => ?_)
                  simp only [go_sem, hv']
                  refine hK40 _ ?_
                  refine awp_f rfl ?_
                  refine awp_skip ?_
                  refine hK7 _ ?_
                  refine awp_plain 3 (by kernel_rfl) rfl (fun g4 hg4 => ?_)
                  simp only [go_sem]
                  try simp (disch := omega) only [wrapN]
                  refine ⟨_, ?_, k + 1, cntDe D n', hlt, rfl, by omega, hc, le_of ?_⟩
                  · omega
                  rw [show cntDe D n' = v by rw [← ht, ← hv0]; rfl]
                  simp only [go_sem]
                  omega
      · have hle' : ¬ (n' : Int) ≤ 2000 := by omega
        refine awp_seq_k (fun K41 hK41 => ?_)
        refine awp_seq_k (fun K42 hK42 => ?_)
        refine awp_plain 9 (by kernel_rfl) rfl (fun g3 hg3 => ?_)
        simp only [go_sem, hle', hlt]
        refine hK42 _ ?_
        rw [cnt_stop hle] at hc
        subst hc
        refine awp_f rfl ?_
        refine awp_exit ?_
        refine hK3 _ ?_
        refine awp_seq_k (fun K43 hK43 => ?_)
        refine awp_plain 2 (by kernel_rfl) rfl (fun g17 hg17 => ?_)
        simp only [go_sem]
        refine hK43 _ ?_
        refine awp_ret ?_
        refine ends_ev rfl ?_
        simp only [go_sem]
        exact Co.refl _
    · refine awp_seq_k (fun K44 hK44 => ?_)
      refine awp_seq_k (fun K45 hK45 => ?_)
      refine awp_plain 9 (by kernel_rfl) rfl (fun g3 hg3 => ?_)
      simp only [go_sem, hlt]
      refine hK45 _ ?_
      rw [dropN _ _ (by omega)] at hc
      simp only [cnt] at hc
      subst hc
      refine awp_f rfl ?_
      refine awp_exit ?_
      refine hK3 _ ?_
      refine awp_seq_k (fun K46 hK46 => ?_)
      refine awp_plain 2 (by kernel_rfl) rfl (fun g17 hg17 => ?_)
      simp only [go_sem]
      refine hK46 _ ?_
      refine awp_ret ?_
      refine ends_ev rfl ?_
      simp only [go_sem]
      exact Co.refl _

theorem few06_calls (p : Prg) (hp : okPr p) (g d : Nat) : ACalls E 5 [encPr p] [] g d (dB (decide (cntPr p ≤ 600))) [] := by
  have h : ((cntPr p : Int) ≤ 600) = (cntPr p ≤ 600) := by apply propext; omega
  refine acalls_of_awp (fn := Tryd.f5) (N := 6) Tryd.call5 Tryd.func5 rfl rfl (by simp) ?_
  simp only [go_sem]
  refine awp_seq_k (fun K1 hK1 => ?_)
  refine awp_plain 2 (by kernel_rfl) rfl (fun g0 hg0 => ?_)
  simp only [go_sem]
  refine hK1 _ ?_
  refine awp_seq_k (fun K2 hK2 => ?_)
  refine awp_ops (by kernel_rfl) rfl (fun g1 hg1 ops1 KR1 hops1 hKR1 => ?_)
  refine aops_eval 1 hops1 ?_
  simp only [go_sem]
  refine aops_pure hops1 rfl rfl rfl (cntPr_calls _ hp _ _) (CoL.refl _) ?_
  refine aops_last 2 hops1 ?_
  simp only [go_sem]
  refine hKR1 _ ?_
  refine hK2 _ ?_
  refine awp_ret ?_
  refine ends_ev rfl ?_
  simp only [go_sem]
  exact Co.of_eq (by simp only [h])

theorem few04_calls (t : Ty) (ht : okTy t) (g d : Nat) : ACalls E 7 [encTy t] [] g d (dB (decide (count t 0 ≤ 200))) [] := by
  have h : ((count t 0 : Int) ≤ 200) = (count t 0 ≤ 200) := by apply propext; omega
  refine acalls_of_awp (fn := Tryd.f7) (N := 6) Tryd.call7 Tryd.func7 rfl rfl (by simp) ?_
  simp only [go_sem]
  refine awp_seq_k (fun K1 hK1 => ?_)
  refine awp_plain 2 (by kernel_rfl) rfl (fun g0 hg0 => ?_)
  simp only [go_sem]
  refine hK1 _ ?_
  refine awp_seq_k (fun K2 hK2 => ?_)
  refine awp_ops (by kernel_rfl) rfl (fun g1 hg1 ops1 KR1 hops1 hKR1 => ?_)
  refine aops_eval 1 hops1 ?_
  simp only [go_sem]
  refine aops_pure hops1 rfl rfl rfl (count_calls _ ht 0 _ _ (by omega)) (CoL.refl _) ?_
  refine aops_last 2 hops1 ?_
  simp only [go_sem]
  refine hKR1 _ ?_
  refine hK2 _ ?_
  refine awp_ret ?_
  refine ends_ev rfl ?_
  simp only [go_sem]
  exact Co.of_eq (by simp only [h])

end Go.Proofs.T

