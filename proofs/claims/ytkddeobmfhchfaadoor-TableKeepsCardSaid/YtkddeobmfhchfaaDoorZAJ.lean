/- A part of the proof, under no conditions of its own: ZAJ. -/
import Derived.Test.YtkddeobmfhchfaaDoorZAI
namespace Go.Proofs.T
open Go Go.Ab Go.RowKit

def cntS (v : Str) (n : Nat) : Nat := n + 1 + v.size / 50
def cntHead (d : Dec) (n : Nat) : Nat := cnt cntPa d.fields (cnt cntFm d.formals (n + 1 + d.name.size / 50 + d.recv.size / 50))
def cntTail (d : Dec) (n : Nat) : Nat := if n ≤ 2000 then countEx d.body (cntSi d.sig n) else n
def cntDe (d : Dec) (n : Nat) : Nat := cntTail d (cnt cntS d.vars (cnt cntSi d.sigs (cntHead d n)))
def cntPr (p : Prg) : Nat := cnt cntDe p.decls (countEx p.main 0)

theorem cntS_le (v : Str) (h : v.size ≤ 9223372036854775807) (n : Nat) (hn : n ≤ 2000) : cntS v n ≤ 2 * big := by unfold cntS big; omega
theorem cntSi_small (s : Sig) (h : okSi s) (n : Nat) (hn : n ≤ 2000) : cntSi s n ≤ 7 * big := by
  have := cntSi_le s h n
  unfold big at *
  omega
theorem cntHead_le (d : Dec) (h : okDe d) (n : Nat) : cntHead d n ≤ n + 3 * big ∨ cntHead d n ≤ 3 * big := by
  obtain ⟨h1, ⟨h2, h3⟩, ⟨h4, h5⟩, _, h6, _⟩ := h
  have a1 := cnt_le (3 * big) d.formals (n + 1 + d.name.size / 50 + d.recv.size / 50) (fun a ha n hn => cntFm_le a (h3 a ha) n hn)
  have a2 := cnt_le (3 * big) d.fields (cnt cntFm d.formals (n + 1 + d.name.size / 50 + d.recv.size / 50)) (fun a ha n hn => cntPa_le a (h5 a ha) n hn)
  unfold cntHead
  unfold big at *
  omega
theorem cntTail_le (d : Dec) (h : okDe d) (n : Nat) : cntTail d n ≤ n ∨ cntTail d n ≤ 10 * big := by
  obtain ⟨_, _, _, _, _, _, h7, h8⟩ := h
  unfold cntTail
  split
  · rename_i hn
    have a1 := cntSi_le d.sig h7 n
    have a2 := countEx_le d.body h8 (cntSi d.sig n)
    unfold big at *
    omega
  · left; exact Nat.le_refl _
theorem cntDe_small (d : Dec) (h : okDe d) (n : Nat) (hn : n ≤ 2000) : cntDe d n ≤ 10 * big := by
  have h0 := h
  obtain ⟨h1, ⟨h2, h3⟩, ⟨h4, h5⟩, ⟨h6, h7⟩, h8, ⟨h9, h10⟩, h11, h12⟩ := h
  have a1 := cntHead_le d h0 n
  have a2 := cnt_le (7 * big) d.sigs (cntHead d n) (fun a ha n hn => cntSi_small a (h7 a ha) n hn)
  have a3 := cnt_le (7 * big) d.vars (cnt cntSi d.sigs (cntHead d n)) (fun a ha n hn => Nat.le_trans (cntS_le a (h10 a ha) n hn) (by unfold big; omega))
  have a4 := cntTail_le d h0 (cnt cntS d.vars (cnt cntSi d.sigs (cntHead d n)))
  unfold cntDe
  unfold big at *
  omega

theorem cntPr_calls (p : Prg) (hp : okPr p) (g d : Nat) : ACalls E 30 [encPr p] [] g d (dN (cntPr p)) [] := by
  have hbig : big = 184467440737097518 := rfl
  obtain ⟨⟨h1, h2⟩, h3⟩ := hp
  have b0 := countEx_le p.main h3 0
  refine acalls_of_awp (fn := Tryd.f30) (N := 94) Tryd.call30 Tryd.func30 rfl rfl (by simp) ?_
  simp only [go_sem]
  refine awp_seq_k (fun K1 hK1 => ?_)
  refine awp_plain 2 (by kernel_rfl) rfl (fun g0 hg0 => ?_)
  simp only [go_sem]
  refine hK1 _ ?_
  refine awp_seq_k (fun K2 hK2 => ?_)
  refine awp_ops (by kernel_rfl) rfl (fun g1 hg1 ops1 KR1 hops1 hKR1 => ?_)
  refine aops_eval 2 hops1 ?_
  simp only [go_sem]
  refine aops_pure hops1 rfl rfl rfl (countEx_calls _ h3 0 _ _ (by omega)) (CoL.refl _) ?_
  refine aops_last 1 hops1 ?_
  simp only [go_sem]
  refine hKR1 _ ?_
  refine hK2 _ ?_
  refine awp_seq_k (fun K3 hK3 => ?_)
  refine awp_seq_k (fun K4 hK4 => ?_)
  refine awp_plain 1 (by kernel_rfl) rfl (fun g2 hg2 => ?_)
  simp only [go_sem]
  refine hK4 _ ?_
  refine awp_block ?_
  refine awp_loop (fun m s => ∃ k n', k ≤ p.decls.length ∧ m = p.decls.length - k ∧ n' ≤ 10 * big ∧ cnt cntDe (p.decls.drop k) n' = cntPr p ∧
      Le { env := [(1, .ptr ⟨g0, 1, 0⟩ 0), (3, dN n'), (4, dN k)], σ := [(⟨g0, 1, 0⟩, .box 30 (prC p))] } s) p.decls.length ?_ ?_
  · refine ⟨0, countEx p.main 0, Nat.zero_le _, rfl, by omega, rfl, le_of ?_⟩
    simp only [go_sem]
    trivial
  · rintro m s ⟨k, n', hk, rfl, hn', hc, hle⟩
    refine awp_keep hle ?_
    clear hle
    by_cases hlt : k < p.decls.length
    · by_cases hle : n' ≤ 2000
      · have hle' : (n' : Int) ≤ 2000 := by omega
        have g1 := getM (f := encDe) hlt
        have hd := h2 _ (List.getElem_mem hlt)
        have hd0 := hd
        rw [cnt_step hlt hle] at hc
        have b1 := cntDe_small _ hd n' hle
        generalize p.decls[k] = D at *
        obtain ⟨i1, ⟨i2, i3⟩, ⟨i4, i5⟩, ⟨i6, i7⟩, i8, ⟨i9, i10⟩, i11, i12⟩ := hd
        have a1 := cntHead_le D hd0 n'
        have f1 := cnt_le (3 * big) D.formals (n' + 1 + D.name.size / 50 + D.recv.size / 50) (fun a ha n hn => cntFm_le a (i3 a ha) n hn)
        refine awp_seq_k (fun K5 hK5 => ?_)
        refine awp_seq_k (fun K6 hK6 => ?_)
        refine awp_plain 9 (by kernel_rfl) rfl (fun g3 hg3 => ?_)
        simp only [go_sem, hle', hlt]
        refine hK6 _ ?_
        refine awp_t rfl ?_
        refine awp_skip ?_
        refine hK5 _ ?_
        refine awp_seq_k (fun K7 hK7 => ?_)
        refine awp_block ?_
        refine awp_seq_k (fun K8 hK8 => ?_)
        refine awp_plain 7 (by kernel_rfl) rfl (fun g5 hg5 => ?_)
        simp only [go_sem, g1]
        refine hK8 _ ?_
        refine awp_seq_k (fun K9 hK9 => ?_)
        refine awp_any 18 (by kernel_rfl) (by kernel_rfl) rfl (fun g6 hg6 ops6 KR6 hops6 hKR6 => ?_)
        refine qrun_eval 16 hops6 ?_
        simp only [go_sem]
        try simp (disch := omega) only [wrapN, Int.tdiv_eq_ediv_of_nonneg]
        refine qrun_pure hops6 rfl rfl rfl (cntFm_calls D.formals (n' + 1 + D.name.size / 50 + D.recv.size / 50) i2 i3 (by omega) _ _) (CoL.refl _) rfl ?_
        refine qrun_pure hops6 rfl rfl rfl (cntPa_calls D.fields _ i4 i5 (by omega) _ _) (CoL.refl _) rfl ?_
        refine qrun_last 0 hops6 ?_
        simp only [go_sem]
        refine aops_last 1 hops6 ?_
        simp only [go_sem]
        refine hKR6 _ ?_
        refine hK9 _ ?_
        refine awp_seq_k (fun K10 hK10 => ?_)
        refine awp_seq_k (fun K11 hK11 => ?_)
        refine awp_plain 1 (by kernel_rfl) rfl (fun g7 hg7 => ?_)
        simp only [go_sem]
        refine hK11 _ ?_
        refine awp_block ?_
        generalize hH : cntHead D n' = H at *
        have hHd : H = cnt cntPa D.fields (cnt cntFm D.formals (n' + 1 + D.name.size / 50 + D.recv.size / 50)) := by rw [← hH]; rfl
        rw [← hHd]
        refine awp_loop (fun m s => ∃ j u, j ≤ D.sigs.length ∧ m = D.sigs.length - j ∧ u ≤ 14 * big ∧ cnt cntSi D.sigs (cntHead D n') = cnt cntSi (D.sigs.drop j) u ∧
            Le { env := [(1, .ptr ⟨g0, 1, 0⟩ 0), (3, dN u), (4, dN k), (5, .ptr ⟨g5, 5, 0⟩ 0), (6, dN j)], σ := [(⟨g0, 1, 0⟩, .box 30 (prC p)), (⟨g5, 5, 0⟩, .box 52 (deC D))] } s) D.sigs.length ?_ ?_
        · refine ⟨0, H, Nat.zero_le _, rfl, by omega, by rw [hH]; rfl, le_of ?_⟩
          simp only [go_sem]
          trivial
        · rintro m s ⟨j, u, hj, rfl, hub, hu0, hle2⟩
          refine awp_keep hle2 ?_
          clear hle2
          by_cases hjt : j < D.sigs.length
          · have g2 := getM (f := encSi) hjt
            by_cases hu : u ≤ 2000
            · have hu' : (u : Int) ≤ 2000 := by omega
              have s1 := cntSi_small _ (i7 _ (List.getElem_mem hjt)) u hu
              refine awp_seq_k (fun K12 hK12 => ?_)
              refine awp_seq_k (fun K13 hK13 => ?_)
              refine awp_plain 9 (by kernel_rfl) rfl (fun g8 hg8 => ?_)
              simp only [go_sem, hu', hjt]
              refine hK13 _ ?_
              refine awp_t rfl ?_
              refine awp_skip ?_
              refine hK12 _ ?_
              refine awp_seq_k (fun K14 hK14 => ?_)
              refine awp_block ?_
              refine awp_ops (by kernel_rfl) rfl (fun g10 hg10 ops10 KR10 hops10 hKR10 => ?_)
              refine aops_eval 6 hops10 ?_
              simp only [go_sem, g2]
              refine aops_pure hops10 rfl rfl rfl (cntSi_calls _ u (i7 _ (List.getElem_mem hjt)) (by omega) _ _) (CoL.refl _) ?_
              refine aops_last 1 hops10 ?_
              simp only [go_sem]
              refine hKR10 _ ?_
              refine hK14 _ ?_
              refine awp_plain 3 (by kernel_rfl) rfl (fun g9 hg9 => ?_)
              simp only [go_sem]
              try simp (disch := omega) only [wrapN]
              rw [cnt_step hjt hu] at hu0
              refine ⟨_, ?_, j + 1, cntSi D.sigs[j] u, hjt, rfl, by omega, hu0, le_of ?_⟩
              · omega
              simp only [go_sem]
              omega
            · have hu' : ¬ (u : Int) ≤ 2000 := by omega
              rw [cnt_stop hu] at hu0
              refine awp_seq_k (fun K15 hK15 => ?_)
              refine awp_seq_k (fun K16 hK16 => ?_)
              refine awp_plain 9 (by kernel_rfl) rfl (fun g8 hg8 => ?_)
              simp only [go_sem, hu', hjt]
              refine hK16 _ ?_
              refine awp_f rfl ?_
              refine awp_exit ?_
              refine hK10 _ ?_
              refine awp_seq_k (fun K17 hK17 => ?_)
              refine awp_seq_k (fun K18 hK18 => ?_)
              refine awp_plain 1 (by kernel_rfl) rfl (fun g11 hg11 => ?_)
              simp only [go_sem]
              refine hK18 _ ?_
              refine awp_block ?_
              refine awp_loop (fun m s => ∃ j v, j ≤ D.vars.length ∧ m = D.vars.length - j ∧ v ≤ 15 * big ∧ cnt cntS D.vars (cnt cntSi D.sigs (cntHead D n')) = cnt cntS (D.vars.drop j) v ∧
                  Le { env := [(1, .ptr ⟨g0, 1, 0⟩ 0), (3, dN v), (4, dN k), (5, .ptr ⟨g5, 5, 0⟩ 0), (7, dN j)], σ := [(⟨g0, 1, 0⟩, .box 30 (prC p)), (⟨g5, 5, 0⟩, .box 52 (deC D))] } s) D.vars.length ?_ ?_
              · refine ⟨0, u, Nat.zero_le _, rfl, by omega, by rw [hu0]; rfl, le_of ?_⟩
                simp only [go_sem]
                trivial
              · rintro m s ⟨j, v, hj, rfl, hvb, hv0, hle3⟩
                refine awp_keep hle3 ?_
                clear hle3
                by_cases hjt : j < D.vars.length
                · have g3 := getM (f := encS) hjt
                  by_cases hv2 : v ≤ 2000
                  · have hv2' : (v : Int) ≤ 2000 := by omega
                    have s1 := i10 _ (List.getElem_mem hjt)
                    have s2 := cntS_le _ s1 v hv2
                    refine awp_seq_k (fun K19 hK19 => ?_)
                    refine awp_seq_k (fun K20 hK20 => ?_)
                    refine awp_plain 9 (by kernel_rfl) rfl (fun g12 hg12 => ?_)
                    simp only [go_sem, hv2', hjt]
                    refine hK20 _ ?_
                    refine awp_t rfl ?_
                    refine awp_skip ?_
                    refine hK19 _ ?_
                    refine awp_seq_k (fun K21 hK21 => ?_)
                    refine awp_block ?_
                    refine awp_plain 11 (by kernel_rfl) rfl (fun g14 hg14 => ?_)
                    simp only [go_sem, g3]
                    try simp (disch := omega) only [wrapN, Int.tdiv_eq_ediv_of_nonneg]
                    refine hK21 _ ?_
                    refine awp_plain 3 (by kernel_rfl) rfl (fun g13 hg13 => ?_)
                    simp only [go_sem]
                    try simp (disch := omega) only [wrapN]
                    rw [cnt_step hjt hv2] at hv0
                    refine ⟨_, ?_, j + 1, cntS D.vars[j] v, hjt, rfl, by omega, hv0, le_of ?_⟩
                    · omega
                    simp only [go_sem, cntS]
                    omega
                  · have hv2' : ¬ (v : Int) ≤ 2000 := by omega
                    rw [cnt_stop hv2] at hv0
                    refine awp_seq_k (fun K22 hK22 => ?_)
                    refine awp_seq_k (fun K23 hK23 => ?_)
                    refine awp_plain 9 (by kernel_rfl) rfl (fun g12 hg12 => ?_)
                    simp only [go_sem, hv2', hjt]
                    refine hK23 _ ?_
                    refine awp_f rfl ?_
                    refine awp_exit ?_
                    refine hK17 _ ?_
                    refine awp_seq_k (fun K24 hK24 => ?_)
                    by_cases hv : v ≤ 2000
                    · have hv' : (v : Int) ≤ 2000 := by omega
                      have t1 := cntSi_le D.sig i11 v
                      have t2 := countEx_le D.body i12 (cntSi D.sig v)
                      have ht : cntTail D v = countEx D.body (cntSi D.sig v) := by unfold cntTail; rw [if_pos hv]
                      refine awp_plain 2 (by kernel_rfl) rfl (fun g15 hg15 => ?_)
                      simp only [go_sem, hv']
                      refine hK24 _ ?_
                      refine awp_t rfl ?_
                      refine awp_any 7 (by kernel_rfl) (by kernel_rfl) rfl (fun g16 hg16 ops16 KR16 hops16 hKR16 => ?_)
                      refine qrun_eval 5 hops16 ?_
                      simp only [go_sem]
                      refine qrun_pure hops16 rfl rfl rfl (cntSi_calls D.sig v i11 (by omega) _ _) (CoL.refl _) rfl ?_
                      refine qrun_pure hops16 rfl rfl rfl (countEx_calls _ i12 _ _ _ (by omega)) (CoL.refl _) rfl ?_
                      refine qrun_last 0 hops16 ?_
                      simp only [go_sem]
                      refine aops_last 1 hops16 ?_
                      simp only [go_sem]
                      refine hKR16 _ ?_
                      refine hK7 _ ?_
                      refine awp_plain 3 (by kernel_rfl) rfl (fun g4 hg4 => ?_)
                      simp only [go_sem]
                      try simp (disch := omega) only [wrapN]
                      refine ⟨_, ?_, k + 1, cntDe D n', hlt, rfl, by omega, hc, le_of ?_⟩
                      · omega
                      rw [show cntDe D n' = countEx D.body (cntSi D.sig v) by rw [← ht, ← hv0]; rfl]
                      simp only [go_sem]
                      omega
                    · have hv' : ¬ (v : Int) ≤ 2000 := by omega
                      have ht : cntTail D v = v := by unfold cntTail; rw [if_neg hv]
                      refine awp_plain 2 (by kernel_rfl) rfl (fun g15 hg15 => ?_)
                      simp only [go_sem, hv']
                      refine hK24 _ ?_
                      refine awp_f rfl ?_
                      refine awp_skip ?_
                      refine hK7 _ ?_
                      refine awp_plain 3 (by kernel_rfl) rfl (fun g4 hg4 => ?_)
                      simp only [go_sem]
                      try simp (disch := omega) only [wrapN]
                      refine ⟨_, ?_, k + 1, cntDe D n', hlt, rfl, by omega, hc, le_of ?_⟩
                      · omega
                      rw [show cntDe D n' = v by rw [← ht, ← hv0]; rfl]
                      simp only [go_sem]
                      omega
                · rw [dropN _ _ (by omega)] at hv0
                  simp only [cnt] at hv0
                  refine awp_seq_k (fun K25 hK25 => ?_)
                  refine awp_seq_k (fun K26 hK26 => ?_)
                  refine awp_plain 9 (by kernel_rfl) rfl (fun g12 hg12 => ?_)
                  simp only [go_sem, hjt]
                  refine hK26 _ ?_
                  refine awp_f rfl ?_
                  refine awp_exit ?_
                  refine hK17 _ ?_
                  refine awp_seq_k (fun K27 hK27 => ?_)
                  by_cases hv : v ≤ 2000
                  · have hv' : (v : Int) ≤ 2000 := by omega
                    have t1 := cntSi_le D.sig i11 v
                    have t2 := countEx_le D.body i12 (cntSi D.sig v)
                    have ht : cntTail D v = countEx D.body (cntSi D.sig v) := by unfold cntTail; rw [if_pos hv]
                    refine awp_plain 2 (by kernel_rfl) rfl (fun g15 hg15 => ?_)
                    simp only [go_sem, hv']
                    refine hK27 _ ?_
                    refine awp_t rfl ?_
                    refine awp_any 7 (by kernel_rfl) (by kernel_rfl) rfl (fun g16 hg16 ops16 KR16 hops16 hKR16 => ?_)
                    refine qrun_eval 5 hops16 ?_
                    simp only [go_sem]
                    refine qrun_pure hops16 rfl rfl rfl (cntSi_calls D.sig v i11 (by omega) _ _) (CoL.refl _) rfl ?_
                    refine qrun_pure hops16 rfl rfl rfl (countEx_calls _ i12 _ _ _ (by omega)) (CoL.refl _) rfl ?_
                    refine qrun_last 0 hops16 ?_
                    simp only [go_sem]
                    refine aops_last 1 hops16 ?_
                    simp only [go_sem]
                    refine hKR16 _ ?_
                    refine hK7 _ ?_
                    refine awp_plain 3 (by kernel_rfl) rfl (fun g4 hg4 => ?_)
                    simp only [go_sem]
                    try simp (disch := omega) only [wrapN]
                    refine ⟨_, ?_, k + 1, cntDe D n', hlt, rfl, by omega, hc, le_of ?_⟩
                    · omega
                    rw [show cntDe D n' = countEx D.body (cntSi D.sig v) by rw [← ht, ← hv0]; rfl]
                    simp only [go_sem]
                    omega
                  · have hv' : ¬ (v : Int) ≤ 2000 := by omega
                    have ht : cntTail D v = v := by unfold cntTail; rw [if_neg hv]
                    refine awp_plain 2 (by kernel_rfl) rfl (fun g15 hg15 => ?_)
                    simp only [go_sem, hv']
                    refine hK27 _ ?_
                    refine awp_f rfl ?_
                    refine awp_skip ?_
                    refine hK7 _ ?_
                    refine awp_plain 3 (by kernel_rfl) rfl (fun g4 hg4 => ?_)
                    simp only [go_sem]
                    try simp (disch := omega) only [wrapN]
                    refine ⟨_, ?_, k + 1, cntDe D n', hlt, rfl, by omega, hc, le_of ?_⟩
                    · omega
                    rw [show cntDe D n' = v by rw [← ht, ← hv0]; rfl]
                    simp only [go_sem]
                    omega
          · rw [dropN _ _ (by omega)] at hu0
            simp only [cnt] at hu0
            refine awp_seq_k (fun K28 hK28 => ?_)
            refine awp_seq_k (fun K29 hK29 => ?_)
            refine awp_plain 9 (by kernel_rfl) rfl (fun g8 hg8 => ?_)
            simp only [go_sem, hjt]
            refine hK29 _ ?_
            refine awp_f rfl ?_
            refine awp_exit ?_
            refine hK10 _ ?_
            refine awp_seq_k (fun K30 hK30 => ?_)
            refine awp_seq_k (fun K31 hK31 => ?_)
            refine awp_plain 1 (by kernel_rfl) rfl (fun g11 hg11 => ?_)
            simp only [go_sem]
            refine hK31 _ ?_
            refine awp_block ?_
            refine awp_loop (fun m s => ∃ j v, j ≤ D.vars.length ∧ m = D.vars.length - j ∧ v ≤ 15 * big ∧ cnt cntS D.vars (cnt cntSi D.sigs (cntHead D n')) = cnt cntS (D.vars.drop j) v ∧
                Le { env := [(1, .ptr ⟨g0, 1, 0⟩ 0), (3, dN v), (4, dN k), (5, .ptr ⟨g5, 5, 0⟩ 0), (7, dN j)], σ := [(⟨g0, 1, 0⟩, .box 30 (prC p)), (⟨g5, 5, 0⟩, .box 52 (deC D))] } s) D.vars.length ?_ ?_
            · refine ⟨0, u, Nat.zero_le _, rfl, by omega, by rw [hu0]; rfl, le_of ?_⟩
              simp only [go_sem]
              trivial
            · rintro m s ⟨j, v, hj, rfl, hvb, hv0, hle3⟩
              refine awp_keep hle3 ?_
              clear hle3
              by_cases hjt : j < D.vars.length
              · have g3 := getM (f := encS) hjt
                by_cases hv2 : v ≤ 2000
                · have hv2' : (v : Int) ≤ 2000 := by omega
                  have s1 := i10 _ (List.getElem_mem hjt)
                  have s2 := cntS_le _ s1 v hv2
                  refine awp_seq_k (fun K32 hK32 => ?_)
                  refine awp_seq_k (fun K33 hK33 => ?_)
                  refine awp_plain 9 (by kernel_rfl) rfl (fun g12 hg12 => ?_)
                  simp only [go_sem, hv2', hjt]
                  refine hK33 _ ?_
                  refine awp_t rfl ?_
                  refine awp_skip ?_
                  refine hK32 _ ?_
                  refine awp_seq_k (fun K34 hK34 => ?_)
                  refine awp_block ?_
                  refine awp_plain 11 (by kernel_rfl) rfl (fun g14 hg14 => ?_)
                  simp only [go_sem, g3]
                  try simp (disch := omega) only [wrapN, Int.tdiv_eq_ediv_of_nonneg]
                  refine hK34 _ ?_
                  refine awp_plain 3 (by kernel_rfl) rfl (fun g13 hg13 => ?_)
                  simp only [go_sem]
                  try simp (disch := omega) only [wrapN]
                  rw [cnt_step hjt hv2] at hv0
                  refine ⟨_, ?_, j + 1, cntS D.vars[j] v, hjt, rfl, by omega, hv0, le_of ?_⟩
                  · omega
                  simp only [go_sem, cntS]
                  omega
                · have hv2' : ¬ (v : Int) ≤ 2000 := by omega
                  rw [cnt_stop hv2] at hv0
                  refine awp_seq_k (fun K35 hK35 => ?_)
                  refine awp_seq_k (fun K36 hK36 => ?_)
                  refine awp_plain 9 (by kernel_rfl) rfl (fun g12 hg12 => ?_)
                  simp only [go_sem, hv2', hjt]
                  refine hK36 _ ?_
                  refine awp_f rfl ?_
                  refine awp_exit ?_
                  refine hK30 _ ?_
                  refine awp_seq_k (fun K37 hK37 => ?_)
                  by_cases hv : v ≤ 2000
                  · have hv' : (v : Int) ≤ 2000 := by omega
                    have t1 := cntSi_le D.sig i11 v
                    have t2 := countEx_le D.body i12 (cntSi D.sig v)
                    have ht : cntTail D v = countEx D.body (cntSi D.sig v) := by unfold cntTail; rw [if_pos hv]
                    refine awp_plain 2 (by kernel_rfl) rfl (fun g15 hg15 => ?_)
                    simp only [go_sem, hv']
                    refine hK37 _ ?_
                    refine awp_t rfl ?_
                    refine awp_any 7 (by kernel_rfl) (by kernel_rfl) rfl (fun g16 hg16 ops16 KR16 hops16 hKR16 => ?_)
                    refine qrun_eval 5 hops16 ?_
                    simp only [go_sem]
                    refine qrun_pure hops16 rfl rfl rfl (cntSi_calls D.sig v i11 (by omega) _ _) (CoL.refl _) rfl ?_
                    refine qrun_pure hops16 rfl rfl rfl (countEx_calls _ i12 _ _ _ (by omega)) (CoL.refl _) rfl ?_
                    refine qrun_last 0 hops16 ?_
                    simp only [go_sem]
                    refine aops_last 1 hops16 ?_
                    simp only [go_sem]
                    refine hKR16 _ ?_
                    refine hK7 _ ?_
                    refine awp_plain 3 (by kernel_rfl) rfl (fun g4 hg4 => ?_)
                    simp only [go_sem]
                    try simp (disch := omega) only [wrapN]
                    refine ⟨_, ?_, k + 1, cntDe D n', hlt, rfl, by omega, hc, le_of ?_⟩
                    · omega
                    rw [show cntDe D n' = countEx D.body (cntSi D.sig v) by rw [← ht, ← hv0]; rfl]
                    simp only [go_sem]
                    omega
                  · have hv' : ¬ (v : Int) ≤ 2000 := by omega
                    have ht : cntTail D v = v := by unfold cntTail; rw [if_neg hv]
                    refine awp_plain 2 (by kernel_rfl) rfl (fun g15 hg15 => ?_)
                    simp only [go_sem, hv']
                    refine hK37 _ ?_
                    refine awp_f rfl ?_
                    refine awp_skip ?_
                    refine hK7 _ ?_
                    refine awp_plain 3 (by kernel_rfl) rfl (fun g4 hg4 => ?_)
                    simp only [go_sem]
                    try simp (disch := omega) only [wrapN]
                    refine ⟨_, ?_, k + 1, cntDe D n', hlt, rfl, by omega, hc, le_of ?_⟩
                    · omega
                    rw [show cntDe D n' = v by rw [← ht, ← hv0]; rfl]
                    simp only [go_sem]
                    omega
              · rw [dropN _ _ (by omega)] at hv0
                simp only [cnt] at hv0
                refine awp_seq_k (fun K38 hK38 => ?_)
                refine awp_seq_k (fun K39 hK39 => ?_)
                refine awp_plain 9 (by kernel_rfl) rfl (fun g12 hg12 => ?_)
                simp only [go_sem, hjt]
                refine hK39 _ ?_
                refine awp_f rfl ?_
                refine awp_exit ?_
                refine hK30 _ ?_
                refine awp_seq_k (fun K40 hK40 => ?_)
                by_cases hv : v ≤ 2000
                · have hv' : (v : Int) ≤ 2000 := by omega
                  have t1 := cntSi_le D.sig i11 v
                  have t2 := countEx_le D.body i12 (cntSi D.sig v)
                  have ht : cntTail D v = countEx D.body (cntSi D.sig v) := by unfold cntTail; rw [if_pos hv]
                  refine awp_plain 2 (by kernel_rfl) rfl (fun g15 hg15 => ?_)
                  simp only [go_sem, hv']
                  refine hK40 _ ?_
                  refine awp_t rfl ?_
                  refine awp_any 7 (by kernel_rfl) (by kernel_rfl) rfl (fun g16 hg16 ops16 KR16 hops16 hKR16 => ?_)
                  refine qrun_eval 5 hops16 ?_
                  simp only [go_sem]
                  refine qrun_pure hops16 rfl rfl rfl (cntSi_calls D.sig v i11 (by omega) _ _) (CoL.refl _) rfl ?_
                  refine qrun_pure hops16 rfl rfl rfl (countEx_calls _ i12 _ _ _ (by omega)) (CoL.refl _) rfl ?_
                  refine qrun_last 0 hops16 ?_
                  simp only [go_sem]
                  refine aops_last 1 hops16 ?_
                  simp only [go_sem]
                  refine hKR16 _ ?_
                  refine hK7 _ ?_
                  refine awp_plain 3 (by kernel_rfl) rfl (fun g4 hg4 => ?_)
                  simp only [go_sem]
                  try simp (disch := omega) only [wrapN]
                  refine ⟨_, ?_, k + 1, cntDe D n', hlt, rfl, by omega, hc, le_of ?_⟩
                  · omega
                  rw [show cntDe D n' = countEx D.body (cntSi D.sig v) by rw [← ht, ← hv0]; rfl]
                  simp only [go_sem]
                  omega
                · have hv' : ¬ (v : Int) ≤ 2000 := by omega
                  have ht : cntTail D v = v := by unfold cntTail; rw [if_neg hv]
                  refine awp_plain 2 (by kernel_rfl) rfl (fun g15 hg15 => ?_)
                  simp only [go_sem, hv']
                  refine hK40 _ ?_
                  refine awp_f rfl ?_
                  refine awp_skip ?_
                  refine hK7 _ ?_
                  refine awp_plain 3 (by kernel_rfl) rfl (fun g4 hg4 => ?_)
                  simp only [go_sem]
                  try simp (disch := omega) only [wrapN]
                  refine ⟨_, ?_, k + 1, cntDe D n', hlt, rfl, by omega, hc, le_of ?_⟩
                  · omega
                  rw [show cntDe D n' = v by rw [← ht, ← hv0]; rfl]
                  simp only [go_sem]
                  omega
      · have hle' : ¬ (n' : Int) ≤ 2000 := by omega
        refine awp_seq_k (fun K41 hK41 => ?_)
        refine awp_seq_k (fun K42 hK42 => ?_)
        refine awp_plain 9 (by kernel_rfl) rfl (fun g3 hg3 => ?_)
        simp only [go_sem, hle', hlt]
        refine hK42 _ ?_
        rw [cnt_stop hle] at hc
        subst hc
        refine awp_f rfl ?_
        refine awp_exit ?_
        refine hK3 _ ?_
        refine awp_seq_k (fun K43 hK43 => ?_)
        refine awp_plain 2 (by kernel_rfl) rfl (fun g17 hg17 => ?_)
        simp only [go_sem]
        refine hK43 _ ?_
        refine awp_ret ?_
        refine ends_ev rfl ?_
        simp only [go_sem]
        exact Co.refl _
    · refine awp_seq_k (fun K44 hK44 => ?_)
      refine awp_seq_k (fun K45 hK45 => ?_)
      refine awp_plain 9 (by kernel_rfl) rfl (fun g3 hg3 => ?_)
      simp only [go_sem, hlt]
      refine hK45 _ ?_
      rw [dropN _ _ (by omega)] at hc
      simp only [cnt] at hc
      subst hc
      refine awp_f rfl ?_
      refine awp_exit ?_
      refine hK3 _ ?_
      refine awp_seq_k (fun K46 hK46 => ?_)
      refine awp_plain 2 (by kernel_rfl) rfl (fun g17 hg17 => ?_)
      simp only [go_sem]
      refine hK46 _ ?_
      refine awp_ret ?_
      refine ends_ev rfl ?_
      simp only [go_sem]
      exact Co.refl _

theorem few06_calls (p : Prg) (hp : okPr p) (g d : Nat) : ACalls E 9 [encPr p] [] g d (dB (decide (cntPr p ≤ 600))) [] := by
  have h : ((cntPr p : Int) ≤ 600) = (cntPr p ≤ 600) := by apply propext; omega
  refine acalls_of_awp (fn := Tryd.f9) (N := 6) Tryd.call9 Tryd.func9 rfl rfl (by simp) ?_
  simp only [go_sem]
  refine awp_seq_k (fun K1 hK1 => ?_)
  refine awp_plain 2 (by kernel_rfl) rfl (fun g0 hg0 => ?_)
  simp only [go_sem]
  refine hK1 _ ?_
  refine awp_seq_k (fun K2 hK2 => ?_)
  refine awp_ops (by kernel_rfl) rfl (fun g1 hg1 ops1 KR1 hops1 hKR1 => ?_)
  refine aops_eval 1 hops1 ?_
  simp only [go_sem]
  refine aops_pure hops1 rfl rfl rfl (cntPr_calls _ hp _ _) (CoL.refl _) ?_
  refine aops_last 2 hops1 ?_
  simp only [go_sem]
  refine hKR1 _ ?_
  refine hK2 _ ?_
  refine awp_ret ?_
  refine ends_ev rfl ?_
  simp only [go_sem]
  exact Co.of_eq (by simp only [h])

theorem few04_calls (t : Ty) (ht : okTy t) (g d : Nat) : ACalls E 10 [encTy t] [] g d (dB (decide (count t 0 ≤ 200))) [] := by
  have h : ((count t 0 : Int) ≤ 200) = (count t 0 ≤ 200) := by apply propext; omega
  refine acalls_of_awp (fn := Tryd.f10) (N := 6) Tryd.call10 Tryd.func10 rfl rfl (by simp) ?_
  simp only [go_sem]
  refine awp_seq_k (fun K1 hK1 => ?_)
  refine awp_plain 2 (by kernel_rfl) rfl (fun g0 hg0 => ?_)
  simp only [go_sem]
  refine hK1 _ ?_
  refine awp_seq_k (fun K2 hK2 => ?_)
  refine awp_ops (by kernel_rfl) rfl (fun g1 hg1 ops1 KR1 hops1 hKR1 => ?_)
  refine aops_eval 1 hops1 ?_
  simp only [go_sem]
  refine aops_pure hops1 rfl rfl rfl (count_calls _ ht 0 _ _ (by omega)) (CoL.refl _) ?_
  refine aops_last 2 hops1 ?_
  simp only [go_sem]
  refine hKR1 _ ?_
  refine hK2 _ ?_
  refine awp_ret ?_
  refine ends_ev rfl ?_
  simp only [go_sem]
  exact Co.of_eq (by simp only [h])

end Go.Proofs.T


namespace Go.Proofs.T
open Go Go.Ab Go.RowKit

/-! ## What is counted as small has small sizes -/

theorem cnt_ge {α : Type} {f : α → Nat → Nat} (hf : ∀ a n, n ≤ f a n) : ∀ (l : List α) (n : Nat), n ≤ cnt f l n
  | [], n => Nat.le_refl _
  | a :: r, n => by
    simp only [cnt]
    split
    · exact Nat.le_trans (hf a n) (cnt_ge hf r _)
    · exact Nat.le_refl _
theorem cnt_small {α : Type} {f : α → Nat → Nat} (hf : ∀ a n, n + 1 ≤ f a n) : ∀ (l : List α) (n : Nat), cnt f l n ≤ 2000 → n + l.length ≤ cnt f l n ∧ ∀ a ∈ l, ∃ m, f a m ≤ cnt f l n
  | [], n, _ => ⟨Nat.le_refl _, fun a h => by cases h⟩
  | a :: r, n, h => by
    have hg : ∀ m, m ≤ cnt f r m := fun m => cnt_ge (fun a n => Nat.le_trans (Nat.le_succ n) (hf a n)) r m
    have hn : n ≤ 2000 := by
      simp only [cnt] at h
      split at h
      · assumption
      · exact h
    simp only [cnt] at h ⊢
    rw [if_pos hn] at h ⊢
    obtain ⟨h1, h2⟩ := cnt_small hf r (f a n) h
    have := hf a n
    refine ⟨by simp only [List.length_cons]; omega, fun x hx => ?_⟩
    rcases List.mem_cons.1 hx with rfl | hx
    · exact ⟨n, hg _⟩
    · exact h2 x hx

theorem count_ge : ∀ (t : Ty) (n : Nat), n + 1 + t.name.size / 50 ≤ count t n := by
  refine Ty.ind fun t ih n => ?_
  rw [count_eq, countL_cnt]
  have : ∀ (l : List Ty), (∀ x ∈ l, ∀ n, n + 1 + x.name.size / 50 ≤ count x n) → ∀ n, n ≤ cnt count l n := by
    intro l
    induction l with
    | nil => intro _ n; exact Nat.le_refl _
    | cons a r ih2 =>
      intro h n
      simp only [cnt]
      split
      · have := h a List.mem_cons_self n
        exact Nat.le_trans (by omega) (ih2 (fun x hx => h x (List.mem_cons_of_mem _ hx)) _)
      · exact Nat.le_refl _
  exact this _ ih _

theorem count_sm : ∀ (t : Ty) (n : Nat), count t n ≤ 2000 → smTy t := by
  refine Ty.ind fun t ih n h => ?_
  have h0 := count_ge t n
  rw [count_eq, countL_cnt] at h
  obtain ⟨h1, h2⟩ := cnt_small (fun a n => by have := count_ge a n; omega) _ _ h
  refine (smTy_iff t).2 ⟨?_, by omega, fun x hx => ?_⟩
  · rw [count_eq, countL_cnt] at h0; omega
  · obtain ⟨m, hm⟩ := h2 x hx
    exact ih x hx m (by omega)

theorem cntFm_sm (f : Formal) (n : Nat) (h : cntFm f n ≤ 2000) : smFm f := by
  have := count_ge f.bound (n + 1 + f.name.size / 50)
  unfold cntFm at h
  exact ⟨by omega, count_sm _ _ h⟩
theorem cntPa_sm (f : Param) (n : Nat) (h : cntPa f n ≤ 2000) : smPa f := by
  have := count_ge f.type (n + 1 + f.name.size / 50)
  unfold cntPa at h
  exact ⟨by omega, count_sm _ _ h⟩
theorem cntFm_ge (f : Formal) (n : Nat) : n + 1 ≤ cntFm f n := by
  have := count_ge f.bound (n + 1 + f.name.size / 50)
  unfold cntFm; omega
theorem cntPa_ge (f : Param) (n : Nat) : n + 1 ≤ cntPa f n := by
  have := count_ge f.type (n + 1 + f.name.size / 50)
  unfold cntPa; omega
theorem cntFms_sm (l : List Formal) (n : Nat) (h : cnt cntFm l n ≤ 2000) : l.length ≤ 2000 ∧ ∀ f ∈ l, smFm f := by
  obtain ⟨h1, h2⟩ := cnt_small cntFm_ge l n h
  exact ⟨by omega, fun f hf => let ⟨m, hm⟩ := h2 f hf; cntFm_sm f m (by omega)⟩
theorem cntPas_sm (l : List Param) (n : Nat) (h : cnt cntPa l n ≤ 2000) : l.length ≤ 2000 ∧ ∀ f ∈ l, smPa f := by
  obtain ⟨h1, h2⟩ := cnt_small cntPa_ge l n h
  exact ⟨by omega, fun f hf => let ⟨m, hm⟩ := h2 f hf; cntPa_sm f m (by omega)⟩
theorem cntTys_sm (l : List Ty) (n : Nat) (h : cnt count l n ≤ 2000) : l.length ≤ 2000 ∧ ∀ f ∈ l, smTy f := by
  obtain ⟨h1, h2⟩ := cnt_small (fun t n => by have := count_ge t n; omega) l n h
  exact ⟨by omega, fun f hf => let ⟨m, hm⟩ := h2 f hf; count_sm f m (by omega)⟩

theorem cntSi_ge (s : Sig) (n : Nat) : n + 1 ≤ cntSi s n := by
  have h1 := cnt_ge (fun a n => Nat.le_trans (Nat.le_succ n) (cntFm_ge a n)) s.formals (n + s.name.size / 50)
  have h2 := cnt_ge (fun a n => Nat.le_trans (Nat.le_succ n) (cntPa_ge a n)) s.params (cnt cntFm s.formals (n + s.name.size / 50))
  have h3 := count_ge s.result (cnt cntPa s.params (cnt cntFm s.formals (n + s.name.size / 50)))
  unfold cntSi
  omega
theorem cntSi_sm (s : Sig) (n : Nat) (h : cntSi s n ≤ 2000) : smSi s ∧ s.formals.length ≤ 2000 ∧ s.params.length ≤ 2000 := by
  have h1 := cnt_ge (fun a n => Nat.le_trans (Nat.le_succ n) (cntFm_ge a n)) s.formals (n + s.name.size / 50)
  have h2 := cnt_ge (fun a n => Nat.le_trans (Nat.le_succ n) (cntPa_ge a n)) s.params (cnt cntFm s.formals (n + s.name.size / 50))
  have h3 := count_ge s.result (cnt cntPa s.params (cnt cntFm s.formals (n + s.name.size / 50)))
  unfold cntSi at h
  have a1 := cntFms_sm s.formals (n + s.name.size / 50) (by omega)
  have a2 := cntPas_sm s.params _ (show cnt cntPa s.params (cnt cntFm s.formals (n + s.name.size / 50)) ≤ 2000 by omega)
  exact ⟨⟨by omega, ⟨by omega, a1.2⟩, ⟨by omega, a2.2⟩, count_sm _ _ h⟩, a1.1, a2.1⟩

/-! ## The guards of the laws -/

def zeroEx : Ex := .mk 0 ByteArray.empty zeroTy [] [] 0
def decSig (s : Sig) : Dec := ⟨0, ByteArray.empty, [], [], [], ByteArray.empty, [], s, zeroEx, 0⟩
def decEnv (l : List Formal) : Dec := ⟨0, ByteArray.empty, l, [], [], ByteArray.empty, [], zeroSi, zeroEx, 0⟩
def few10 (s : Sig) : Bool := decide (cntPr ⟨[decSig s], zeroEx⟩ ≤ 600)
def fewEnv (l : List Formal) : Bool := decide (cntPr ⟨[decEnv l], zeroEx⟩ ≤ 600)

theorem countEx_ge : ∀ (e : Ex) (n : Nat), n + 1 ≤ countEx e n := by
  refine Ex.ind fun e ih n => ?_
  rw [countEx_eq]
  have h1 := count_ge e.type (n + e.name.size / 50)
  have h2 := cnt_ge (f := count) (fun t m => by have := count_ge t m; omega) e.targs (count e.type (n + e.name.size / 50))
  have : ∀ (l : List Ex), (∀ x ∈ l, ∀ n, n + 1 ≤ countEx x n) → ∀ n, n ≤ cnt countEx l n := by
    intro l
    induction l with
    | nil => intro _ n; exact Nat.le_refl _
    | cons a r ih2 =>
      intro h n
      simp only [cnt]
      split
      · have := h a List.mem_cons_self n
        exact Nat.le_trans (by omega) (ih2 (fun x hx => h x (List.mem_cons_of_mem _ hx)) _)
      · exact Nat.le_refl _
  have h3 := this e.kids ih (cnt count e.targs (count e.type (n + e.name.size / 50)))
  omega

end Go.Proofs.T


namespace Go.Proofs.T
open Go Go.Ab Go.RowKit

/-! ## Being the same is an equivalence -/

mutual
def strip : Ty → Ty
  | .mk n x _ => .mk n (strips x) 0
def strips : List Ty → List Ty
  | [] => []
  | t :: r => strip t :: strips r
end
mutual
theorem cmpTy_iff : ∀ (t u : Ty), cmpTy t u = 0 ↔ strip t = strip u
  | .mk a x p, .mk b y q => by
    simp only [cmpTy, strip, Ty.mk.injEq, and_true]
    rw [← cmpTys_iff x y, ← cmpS_zero]
    split
    · rename_i h; simp [h]
    · rename_i h; simp [h]
theorem cmpTys_iff : ∀ (x y : List Ty), cmpTys x y = 0 ↔ strips x = strips y
  | [], [] => by simp [cmpTys]
  | [], _ :: _ => by simp [cmpTys, strips]
  | _ :: _, [] => by simp [cmpTys, strips]
  | t :: x, u :: y => by
    simp only [cmpTys, strips, List.cons.injEq]
    rw [← cmpTys_iff x y, ← cmpTy_iff t u]
    split
    · rename_i h; simp [h]
    · rename_i h; simp [h]
end
theorem same_iff (t u : Ty) : same t u = true ↔ strip t = strip u := by simp [same, cmpTy_iff]
theorem same_self (t : Ty) : same t t = true := (same_iff t t).2 rfl

def keyFm (a : Formal) : Str × Ty := (a.name, strip a.bound)
def keyPa (a : Param) : Str × Ty := (a.name, strip a.type)
def keySi (s : Sig) : Str × List (Str × Ty) × List (Str × Ty) × Ty := (s.name, s.formals.map keyFm, s.params.map keyPa, strip s.result)
def key (s : Sig) := keySi (canonSi s)
theorem allB_self {α : Type} {p : α → α → Bool} (h : ∀ a, p a a = true) : ∀ x : List α, allB p x x = true
  | [] => rfl
  | a :: x => by simp [allB, h, allB_self h x]
theorem eqTy_self (t : Ty) : eqTy t t = true := (eqTy_iff t t).2 rfl
theorem refSi_self (q : Bool) (s : Sig) : refSi q s s = true := by
  have h1 : ∀ a, refFm q a a = true := fun a => by simp [refFm, same_self, eqTy_self]
  have h2 : ∀ a, refPa q a a = true := fun a => by simp [refPa, same_self, eqTy_self]
  simp [refSi, allB_self h1, allB_self h2, same_self, eqTy_self]

/-! ## The canonical form of a canonical form -/

end Go.Proofs.T


namespace Go.Proofs.T
open Go Go.Ab Go.RowKit

/-! ## What is compared with itself -/

theorem same05s (l : List Ty) (hl : l.length ≤ 9223372036854775807) (hl2 : ∀ t ∈ l, okTy t) (g d : Nat) : ACalls E 67 [slTy l, slTy l] [] g d (dB true) [] := by
  refine acalls_of_awp (fn := Tryd.f67) (N := 27) Tryd.call67 Tryd.func67 rfl rfl (by simp) ?_
  simp only [go_sem]
  refine awp_seq_k (fun K1 hK1 => ?_)
  refine awp_plain 1 (by kernel_rfl) rfl (fun g0 hg0 => ?_)
  simp only [go_sem]
  refine hK1 _ ?_
  refine awp_seq_k (fun K2 hK2 => ?_)
  refine awp_seq_k (fun K3 hK3 => ?_)
  refine awp_plain 5 (by kernel_rfl) rfl (fun g1 hg1 => ?_)
  simp only [go_sem, decide_true, Bool.not_true]
  refine hK3 _ ?_
  refine awp_f rfl ?_
  refine awp_skip ?_
  refine hK2 _ ?_
  refine awp_seq_k (fun K4 hK4 => ?_)
  refine awp_seq_k (fun K5 hK5 => ?_)
  refine awp_plain 1 (by kernel_rfl) rfl (fun g3 hg3 => ?_)
  simp only [go_sem]
  refine hK5 _ ?_
  refine awp_block ?_
  refine awp_loop (fun m s => ∃ k, k ≤ l.length ∧ m = l.length - k ∧ Le { env := [(0, slTy l), (1, slTy l), (5, dN k)], σ := [] } s) l.length ?_ ?_
  · refine ⟨0, Nat.zero_le _, rfl, le_of ?_⟩
    simp only [go_sem]
    trivial
  · rintro m s ⟨k, hk, rfl, hle⟩
    refine awp_keep hle ?_
    clear hle
    by_cases h : k < l.length
    · have hs : decide (cmpTy l[k] l[k] = 0) = true := same_self _
      refine awp_seq_k (fun K6 hK6 => ?_)
      refine awp_seq_k (fun K7 hK7 => ?_)
      refine awp_plain 4 (by kernel_rfl) rfl (fun g4 hg4 => ?_)
      simp only [go_sem, h]
      refine hK7 _ ?_
      refine awp_t rfl ?_
      refine awp_skip ?_
      refine hK6 _ ?_
      refine awp_seq_k (fun K8 hK8 => ?_)
      refine awp_block ?_
      refine awp_seq_k (fun K9 hK9 => ?_)
      refine awp_anyq (by kernel_rfl) rfl (fun g6 hg6 ops6 KR6 hops6 hKR6 => ?_)
      refine qrun_eval 8 hops6 ?_
      simp only [go_sem, getM h]
      refine qrun_pure hops6 rfl rfl rfl (ref04Same_calls _ l[k] (hl2 _ (List.getElem_mem h)) _ _) (CoL.refl _) rfl ?_
      refine qrun_last 1 hops6 ?_
      simp only [go_sem, hs, Bool.not_true]
      refine hKR6 _ ?_
      refine hK9 _ ?_
      refine awp_f rfl ?_
      refine awp_skip ?_
      refine hK8 _ ?_
      refine awp_plain 3 (by kernel_rfl) rfl (fun g5 hg5 => ?_)
      simp only [go_sem]
      try simp (disch := omega) only [wrapN]
      refine ⟨_, ?_, k + 1, h, rfl, le_of ?_⟩
      · omega
      simp only [go_sem]
      omega
    · refine awp_seq_k (fun K10 hK10 => ?_)
      refine awp_seq_k (fun K11 hK11 => ?_)
      refine awp_plain 4 (by kernel_rfl) rfl (fun g4 hg4 => ?_)
      simp only [go_sem, h]
      refine hK11 _ ?_
      refine awp_f rfl ?_
      refine awp_exit ?_
      refine hK4 _ ?_
      refine awp_seq_k (fun K12 hK12 => ?_)
      refine awp_plain 1 (by kernel_rfl) rfl (fun g8 hg8 => ?_)
      simp only [go_sem]
      refine hK12 _ ?_
      refine awp_ret ?_
      refine ends_ev rfl ?_
      simp only [go_sem]
      exact Co.refl _

theorem same05 : ∀ e : Ex, okEx e → ∀ g d, ACalls E 43 [encEx e, encEx e] [] g d (dB true) [] := by
  refine Ex.ind fun e ih => ?_
  intro he g d
  obtain ⟨h1, h2, ⟨h3, h4⟩, h5, h6⟩ := (okEx_iff e).1 he
  have hs : decide (cmpTy e.type e.type = 0) = true := same_self _
  refine acalls_of_awp (fn := Tryd.f43) (N := 62) Tryd.call43 Tryd.func43 rfl rfl (by simp) ?_
  simp only [go_sem]
  refine awp_seq_k (fun K1 hK1 => ?_)
  refine awp_plain 3 (by kernel_rfl) rfl (fun g0 hg0 => ?_)
  simp only [go_sem]
  refine hK1 _ ?_
  refine awp_seq_k (fun K2 hK2 => ?_)
  refine awp_seq_k (fun K3 hK3 => ?_)
  refine awp_ops (by kernel_rfl) rfl (fun g1 hg1 ops1 KR1 hops1 hKR1 => ?_)
  refine aops_eval 17 hops1 ?_
  simp only [go_sem, decide_true, Bool.not_true]
  refine aops_pure hops1 rfl rfl rfl (ref04Same_calls e.type e.type h2 _ _) (CoL.refl _) ?_
  refine aops_eval 7 hops1 ?_
  simp only [go_sem, hs, Bool.not_true]
  refine aops_pure hops1 rfl rfl rfl (same05s e.targs h3 h4 _ _) (CoL.refl _) ?_
  refine aops_last 11 hops1 ?_
  simp only [go_sem, decide_true, Bool.not_true]
  refine hKR1 _ ?_
  refine hK3 _ ?_
  refine awp_f rfl ?_
  refine awp_skip ?_
  refine hK2 _ ?_
  refine awp_seq_k (fun K4 hK4 => ?_)
  refine awp_seq_k (fun K5 hK5 => ?_)
  refine awp_plain 1 (by kernel_rfl) rfl (fun g3 hg3 => ?_)
  simp only [go_sem]
  refine hK5 _ ?_
  refine awp_block ?_
  refine awp_loop (fun m s => ∃ k, k ≤ e.kids.length ∧ m = e.kids.length - k ∧
      Le { env := [(2, .ptr ⟨g0, 2, 0⟩ 0), (3, .ptr ⟨g0, 3, 0⟩ 0), (5, dN k)], σ := [(⟨g0, 2, 0⟩, .box 28 (exC e)), (⟨g0, 3, 0⟩, .box 28 (exC e))] } s) e.kids.length ?_ ?_
  · refine ⟨0, Nat.zero_le _, rfl, le_of ?_⟩
    simp only [go_sem, exC]
    trivial
  · rintro m s ⟨k, hk, rfl, hle⟩
    refine awp_keep hle ?_
    clear hle
    by_cases h : k < e.kids.length
    · refine awp_seq_k (fun K6 hK6 => ?_)
      refine awp_seq_k (fun K7 hK7 => ?_)
      refine awp_plain 5 (by kernel_rfl) rfl (fun g4 hg4 => ?_)
      simp only [go_sem, h, exC]
      refine hK7 _ ?_
      refine awp_t rfl ?_
      refine awp_skip ?_
      refine hK6 _ ?_
      refine awp_seq_k (fun K8 hK8 => ?_)
      refine awp_block ?_
      refine awp_seq_k (fun K9 hK9 => ?_)
      refine awp_anyq (by kernel_rfl) rfl (fun g6 hg6 ops6 KR6 hops6 hKR6 => ?_)
      refine qrun_eval 10 hops6 ?_
      simp only [go_sem, getM h]
      refine qrun_pure hops6 rfl rfl rfl (ih _ (List.getElem_mem h) (h6 _ (List.getElem_mem h)) _ _) (CoL.refl _) rfl ?_
      refine qrun_last 1 hops6 ?_
      simp only [go_sem, Bool.not_true]
      refine hKR6 _ ?_
      refine hK9 _ ?_
      refine awp_f rfl ?_
      refine awp_skip ?_
      refine hK8 _ ?_
      refine awp_plain 3 (by kernel_rfl) rfl (fun g5 hg5 => ?_)
      simp only [go_sem]
      try simp (disch := omega) only [wrapN]
      refine ⟨_, ?_, k + 1, h, rfl, le_of ?_⟩
      · omega
      simp only [go_sem]
      omega
    · refine awp_seq_k (fun K10 hK10 => ?_)
      refine awp_seq_k (fun K11 hK11 => ?_)
      refine awp_plain 5 (by kernel_rfl) rfl (fun g4 hg4 => ?_)
      simp only [go_sem, h, exC]
      refine hK11 _ ?_
      refine awp_f rfl ?_
      refine awp_exit ?_
      refine hK4 _ ?_
      refine awp_seq_k (fun K12 hK12 => ?_)
      refine awp_plain 1 (by kernel_rfl) rfl (fun g8 hg8 => ?_)
      simp only [go_sem]
      refine hK12 _ ?_
      refine awp_ret ?_
      refine ends_ev rfl ?_
      simp only [go_sem]
      exact Co.refl _


theorem equal05 : ∀ e : Ex, okEx e → ∀ g d, ACalls E 44 [encEx e, encEx e] [] g d (dB true) [] := by
  refine Ex.ind fun e ih => ?_
  intro he g d
  obtain ⟨h1, h2, ⟨h3, h4⟩, h5, h6⟩ := (okEx_iff e).1 he
  have hs := eqTy_self e.type
  refine acalls_of_awp (fn := Tryd.f44) (N := 90) Tryd.call44 Tryd.func44 rfl rfl (by simp) ?_
  simp only [go_sem]
  refine awp_seq_k (fun K1 hK1 => ?_)
  refine awp_plain 3 (by kernel_rfl) rfl (fun g0 hg0 => ?_)
  simp only [go_sem]
  refine hK1 _ ?_
  refine awp_seq_k (fun K2 hK2 => ?_)
  refine awp_seq_k (fun K3 hK3 => ?_)
  refine awp_ops (by kernel_rfl) rfl (fun g1 hg1 ops1 KR1 hops1 hKR1 => ?_)
  refine aops_eval 24 hops1 ?_
  simp only [go_sem, decide_true, Bool.not_true]
  refine aops_pure hops1 rfl rfl rfl (ref04Equal_calls e.type h2 e.type _ _) (CoL.refl _) ?_
  refine aops_last 20 hops1 ?_
  simp only [go_sem, hs, Bool.not_true, decide_true]
  refine hKR1 _ ?_
  refine hK3 _ ?_
  refine awp_f rfl ?_
  refine awp_skip ?_
  refine hK2 _ ?_
  refine awp_seq_k (fun K4 hK4 => ?_)
  refine awp_seq_k (fun K5 hK5 => ?_)
  refine awp_plain 1 (by kernel_rfl) rfl (fun g3 hg3 => ?_)
  simp only [go_sem]
  refine hK5 _ ?_
  refine awp_block ?_
  refine awp_loop (fun m s => ∃ k, k ≤ e.targs.length ∧ m = e.targs.length - k ∧
      Le { env := [(2, .ptr ⟨g0, 2, 0⟩ 0), (3, .ptr ⟨g0, 3, 0⟩ 0), (5, dN k)], σ := [(⟨g0, 2, 0⟩, .box 28 (exC e)), (⟨g0, 3, 0⟩, .box 28 (exC e))] } s) e.targs.length ?_ ?_
  · refine ⟨0, Nat.zero_le _, rfl, le_of ?_⟩
    simp only [go_sem, exC]
    trivial
  · rintro m s ⟨k, hk, rfl, hle⟩
    refine awp_keep hle ?_
    clear hle
    by_cases h : k < e.targs.length
    · have hz := eqTy_self
      refine awp_seq_k (fun K6 hK6 => ?_)
      refine awp_seq_k (fun K7 hK7 => ?_)
      refine awp_plain 5 (by kernel_rfl) rfl (fun g4 hg4 => ?_)
      simp only [go_sem, h, exC]
      refine hK7 _ ?_
      refine awp_t rfl ?_
      refine awp_skip ?_
      refine hK6 _ ?_
      refine awp_seq_k (fun K8 hK8 => ?_)
      refine awp_block ?_
      refine awp_seq_k (fun K9 hK9 => ?_)
      refine awp_anyq (by kernel_rfl) rfl (fun g6 hg6 ops6 KR6 hops6 hKR6 => ?_)
      refine qrun_eval 10 hops6 ?_
      simp only [go_sem, getM h]
      refine qrun_pure hops6 rfl rfl rfl (ref04Equal_calls _ (h4 _ (List.getElem_mem h)) e.targs[k] _ _) (CoL.refl _) rfl ?_
      refine qrun_last 1 hops6 ?_
      simp only [go_sem, hz, Bool.not_true]
      refine hKR6 _ ?_
      refine hK9 _ ?_
      refine awp_f rfl ?_
      refine awp_skip ?_
      refine hK8 _ ?_
      refine awp_plain 3 (by kernel_rfl) rfl (fun g5 hg5 => ?_)
      simp only [go_sem]
      try simp (disch := omega) only [wrapN]
      refine ⟨_, ?_, k + 1, h, rfl, le_of ?_⟩
      · omega
      simp only [go_sem]
      omega
    · refine awp_seq_k (fun K10 hK10 => ?_)
      refine awp_seq_k (fun K11 hK11 => ?_)
      refine awp_plain 5 (by kernel_rfl) rfl (fun g4 hg4 => ?_)
      simp only [go_sem, h, exC]
      refine hK11 _ ?_
      refine awp_f rfl ?_
      refine awp_exit ?_
      refine hK4 _ ?_
      refine awp_seq_k (fun K12 hK12 => ?_)
      refine awp_seq_k (fun K13 hK13 => ?_)
      refine awp_plain 1 (by kernel_rfl) rfl (fun g8 hg8 => ?_)
      simp only [go_sem]
      refine hK13 _ ?_
      refine awp_block ?_
      refine awp_loop (fun m s => ∃ k, k ≤ e.kids.length ∧ m = e.kids.length - k ∧
          Le { env := [(2, .ptr ⟨g0, 2, 0⟩ 0), (3, .ptr ⟨g0, 3, 0⟩ 0), (6, dN k)], σ := [(⟨g0, 2, 0⟩, .box 28 (exC e)), (⟨g0, 3, 0⟩, .box 28 (exC e))] } s) e.kids.length ?_ ?_
      · refine ⟨0, Nat.zero_le _, rfl, le_of ?_⟩
        simp only [go_sem, exC]
        trivial
      · rintro m s ⟨k, hk, rfl, hle⟩
        refine awp_keep hle ?_
        clear hle
        by_cases h : k < e.kids.length
        · have hz := eqTy_self
          refine awp_seq_k (fun K14 hK14 => ?_)
          refine awp_seq_k (fun K15 hK15 => ?_)
          refine awp_plain 5 (by kernel_rfl) rfl (fun g9 hg9 => ?_)
          simp only [go_sem, h, exC]
          refine hK15 _ ?_
          refine awp_t rfl ?_
          refine awp_skip ?_
          refine hK14 _ ?_
          refine awp_seq_k (fun K16 hK16 => ?_)
          refine awp_block ?_
          refine awp_seq_k (fun K17 hK17 => ?_)
          refine awp_anyq (by kernel_rfl) rfl (fun g11 hg11 ops11 KR11 hops11 hKR11 => ?_)
          refine qrun_eval 10 hops11 ?_
          simp only [go_sem, getM h]
          refine qrun_pure hops11 rfl rfl rfl (ih _ (List.getElem_mem h) (h6 _ (List.getElem_mem h)) _ _) (CoL.refl _) rfl ?_
          refine qrun_last 1 hops11 ?_
          simp only [go_sem, Bool.not_true]
          refine hKR11 _ ?_
          refine hK17 _ ?_
          refine awp_f rfl ?_
          refine awp_skip ?_
          refine hK16 _ ?_
          refine awp_plain 3 (by kernel_rfl) rfl (fun g10 hg10 => ?_)
          simp only [go_sem]
          try simp (disch := omega) only [wrapN]
          refine ⟨_, ?_, k + 1, h, rfl, le_of ?_⟩
          · omega
          simp only [go_sem]
          omega
        · refine awp_seq_k (fun K18 hK18 => ?_)
          refine awp_seq_k (fun K19 hK19 => ?_)
          refine awp_plain 5 (by kernel_rfl) rfl (fun g9 hg9 => ?_)
          simp only [go_sem, h, exC]
          refine hK19 _ ?_
          refine awp_f rfl ?_
          refine awp_exit ?_
          refine hK12 _ ?_
          refine awp_seq_k (fun K20 hK20 => ?_)
          refine awp_plain 1 (by kernel_rfl) rfl (fun g13 hg13 => ?_)
          simp only [go_sem]
          refine hK20 _ ?_
          refine awp_ret ?_
          refine ends_ev rfl ?_
          simp only [go_sem]
          exact Co.refl _



theorem refFm_self (q : Bool) : ∀ a, refFm q a a = true := fun a => by simp [refFm, same_self, eqTy_self]
theorem refPa_self (q : Bool) : ∀ a, refPa q a a = true := fun a => by simp [refPa, same_self, eqTy_self]

theorem decl06 (q : Bool) (e : Dec) (he : okDe e) (g d : Nat) : ACalls E 17 [encDe e, encDe e, dB q] [] g d (dB true) [] := by
  obtain ⟨h1, ⟨h2, h3⟩, ⟨h4, h5⟩, ⟨h6, h7⟩, h8, ⟨h9, h10⟩, h11, h12⟩ := he
  have hf := allB_self (refFm_self q) e.formals
  have hp := allB_self (refPa_self q) e.fields
  have hsg := refSi_self q
  refine acalls_of_awp (fn := Tryd.f17) (N := 133) Tryd.call17 Tryd.func17 rfl rfl (by simp) ?_
  simp only [go_sem]
  refine awp_seq_k (fun K1 hK1 => ?_)
  refine awp_plain 3 (by kernel_rfl) rfl (fun g0 hg0 => ?_)
  simp only [go_sem]
  refine hK1 _ ?_
  refine awp_seq_k (fun K2 hK2 => ?_)
  refine awp_seq_k (fun K3 hK3 => ?_)
  refine awp_ops (by kernel_rfl) rfl (fun g1 hg1 ops1 KR1 hops1 hKR1 => ?_)
  refine aops_eval 25 hops1 ?_
  simp only [go_sem, decide_true, Bool.not_true, List.nil_append]
  refine aops_pure hops1 rfl rfl rfl (refFormals_calls q _ _ h2 h3 _ _) (CoL.refl _) ?_
  refine aops_eval 8 hops1 ?_
  simp only [go_sem, hf, Bool.not_true]
  refine aops_pure hops1 rfl rfl rfl (refParams_calls q _ _ h4 h5 _ _) (CoL.refl _) ?_
  refine aops_last 20 hops1 ?_
  simp only [go_sem, hp, Bool.not_true, decide_true]
  refine hKR1 _ ?_
  refine hK3 _ ?_
  refine awp_f rfl ?_
  refine awp_skip ?_
  refine hK2 _ ?_
  refine awp_seq_k (fun K4 hK4 => ?_)
  refine awp_seq_k (fun K5 hK5 => ?_)
  refine awp_plain 1 (by kernel_rfl) rfl (fun g3 hg3 => ?_)
  simp only [go_sem]
  refine hK5 _ ?_
  refine awp_block ?_
  refine awp_loop (fun m s => ∃ k, k ≤ e.sigs.length ∧ m = e.sigs.length - k ∧
      Le { env := [(2, dB q), (3, .ptr ⟨g0, 3, 0⟩ 0), (4, .ptr ⟨g0, 4, 0⟩ 0), (7, dN k)], σ := [(⟨g0, 3, 0⟩, .box 52 (deC e)), (⟨g0, 4, 0⟩, .box 52 (deC e))] } s) e.sigs.length ?_ ?_
  · refine ⟨0, Nat.zero_le _, rfl, le_of ?_⟩
    simp only [go_sem, deC, siC, exC, List.cons_append, List.nil_append]
    trivial
  · rintro m s ⟨k, hk, rfl, hle⟩
    refine awp_keep hle ?_
    clear hle
    by_cases h : k < e.sigs.length
    · refine awp_seq_k (fun K6 hK6 => ?_)
      refine awp_seq_k (fun K7 hK7 => ?_)
      refine awp_plain 5 (by kernel_rfl) rfl (fun g4 hg4 => ?_)
      simp only [go_sem, deC, siC, exC, List.cons_append, List.nil_append, h]
      refine hK7 _ ?_
      refine awp_t rfl ?_
      refine awp_skip ?_
      refine hK6 _ ?_
      refine awp_seq_k (fun K8 hK8 => ?_)
      refine awp_block ?_
      refine awp_seq_k (fun K9 hK9 => ?_)
      refine awp_anyq (by kernel_rfl) rfl (fun g6 hg6 ops6 KR6 hops6 hKR6 => ?_)
      refine qrun_eval 11 hops6 ?_
      simp only [go_sem, getM h, siC, List.nil_append]
      refine qrun_pure hops6 rfl rfl rfl (refSig_calls q _ _ (h7 _ (List.getElem_mem h)) _ _) (CoL.refl _) rfl ?_
      refine qrun_last 1 hops6 ?_
      simp only [go_sem, hsg, Bool.not_true, List.nil_append]
      refine hKR6 _ ?_
      refine hK9 _ ?_
      refine awp_f rfl ?_
      refine awp_skip ?_
      refine hK8 _ ?_
      refine awp_plain 3 (by kernel_rfl) rfl (fun g5 hg5 => ?_)
      simp only [go_sem, deC, siC, exC, List.cons_append, List.nil_append]
      try simp (disch := omega) only [wrapN]
      refine ⟨_, ?_, k + 1, h, rfl, le_of ?_⟩
      · omega
      simp only [go_sem]
      omega
    · refine awp_seq_k (fun K10 hK10 => ?_)
      refine awp_seq_k (fun K11 hK11 => ?_)
      refine awp_plain 5 (by kernel_rfl) rfl (fun g4 hg4 => ?_)
      simp only [go_sem, deC, siC, exC, List.cons_append, List.nil_append, h]
      refine hK11 _ ?_
      refine awp_f rfl ?_
      refine awp_exit ?_
      refine hK4 _ ?_
      refine awp_seq_k (fun K12 hK12 => ?_)
      refine awp_seq_k (fun K13 hK13 => ?_)
      refine awp_plain 1 (by kernel_rfl) rfl (fun g8 hg8 => ?_)
      simp only [go_sem, List.nil_append]
      refine hK13 _ ?_
      refine awp_block ?_
      refine awp_loop (fun m s => ∃ k, k ≤ e.vars.length ∧ m = e.vars.length - k ∧
          Le { env := [(2, dB q), (3, .ptr ⟨g0, 3, 0⟩ 0), (4, .ptr ⟨g0, 4, 0⟩ 0), (8, dN k)], σ := [(⟨g0, 3, 0⟩, .box 52 (deC e)), (⟨g0, 4, 0⟩, .box 52 (deC e))] } s) e.vars.length ?_ ?_
      · refine ⟨0, Nat.zero_le _, rfl, le_of ?_⟩
        simp only [go_sem, deC, siC, exC, List.cons_append, List.nil_append, deC, siC, exC, List.cons_append, List.nil_append]
        trivial
      · rintro m s ⟨k, hk, rfl, hle⟩
        refine awp_keep hle ?_
        clear hle
        by_cases h : k < e.vars.length
        · refine awp_seq_k (fun K14 hK14 => ?_)
          refine awp_seq_k (fun K15 hK15 => ?_)
          refine awp_plain 5 (by kernel_rfl) rfl (fun g9 hg9 => ?_)
          simp only [go_sem, deC, siC, exC, List.cons_append, List.nil_append, deC, siC, exC, List.cons_append, List.nil_append, h]
          refine hK15 _ ?_
          refine awp_t rfl ?_
          refine awp_skip ?_
          refine hK14 _ ?_
          refine awp_seq_k (fun K16 hK16 => ?_)
          refine awp_block ?_
          refine awp_seq_k (fun K17 hK17 => ?_)
          refine awp_anyq (by kernel_rfl) rfl (fun g11 hg11 ops11 KR11 hops11 hKR11 => ?_)
          refine qrun_last 11 hops11 ?_
          simp only [go_sem, getM h, decide_true, Bool.not_true, List.nil_append, List.nil_append]
          refine hKR11 _ ?_
          refine hK17 _ ?_
          skip
          refine awp_f rfl ?_
          refine awp_skip ?_
          refine hK16 _ ?_
          refine awp_plain 3 (by kernel_rfl) rfl (fun g10 hg10 => ?_)
          simp only [go_sem, deC, siC, exC, List.cons_append, List.nil_append, deC, siC, exC, List.cons_append, List.nil_append]
          try simp (disch := omega) only [wrapN]
          refine ⟨_, ?_, k + 1, h, rfl, le_of ?_⟩
          · omega
          simp only [go_sem]
          omega
        · refine awp_seq_k (fun K18 hK18 => ?_)
          refine awp_seq_k (fun K19 hK19 => ?_)
          refine awp_plain 5 (by kernel_rfl) rfl (fun g9 hg9 => ?_)
          simp only [go_sem, deC, siC, exC, List.cons_append, List.nil_append, deC, siC, exC, List.cons_append, List.nil_append, h]
          refine hK19 _ ?_
          refine awp_f rfl ?_
          refine awp_exit ?_
          refine hK12 _ ?_
          refine awp_seq_k (fun K20 hK20 => ?_)
          refine awp_seq_k (fun K21 hK21 => ?_)
          refine awp_ops (by kernel_rfl) rfl (fun g13 hg13 ops13 KR13 hops13 hKR13 => ?_)
          refine aops_eval 5 hops13 ?_
          simp only [go_sem, List.nil_append, List.nil_append]
          refine aops_pure hops13 rfl rfl rfl (refSig_calls q _ _ h11 _ _) (CoL.refl _) ?_
          refine aops_eval 6 hops13 ?_
          simp only [go_sem, hsg, Bool.not_true, List.nil_append, List.nil_append]
          refine aops_pure hops13 rfl rfl rfl (same05 e.body h12 _ _) (CoL.refl _) ?_
          refine aops_last 2 hops13 ?_
          simp only [go_sem, Bool.not_true, List.nil_append, List.nil_append]
          refine hKR13 _ ?_
          refine hK21 _ ?_
          refine awp_f rfl ?_
          refine awp_skip ?_
          refine hK20 _ ?_
          refine awp_seq_k (fun K22 hK22 => ?_)
          cases q with
          | false =>
            refine awp_plain 17 (by kernel_rfl) rfl (fun g15 hg15 => ?_)
            simp only [go_sem, Bool.not_false, List.nil_append, List.nil_append]
            refine hK22 _ ?_
            refine awp_ret ?_
            refine ends_ev rfl ?_
            simp only [go_sem]
            exact Co.refl _
          | true =>
            refine awp_ops (by kernel_rfl) rfl (fun g15 hg15 ops15 KR15 hops15 hKR15 => ?_)
            refine aops_eval 13 hops15 ?_
            simp only [go_sem, Bool.not_true, decide_true, List.nil_append, List.nil_append]
            refine aops_pure hops15 rfl rfl rfl (equal05 e.body h12 _ _) (CoL.refl _) ?_
            refine aops_last 3 hops15 ?_
            simp only [go_sem, List.nil_append, List.nil_append]
            refine hKR15 _ ?_
            refine hK22 _ ?_
            refine awp_ret ?_
            refine ends_ev rfl ?_
            simp only [go_sem]
            exact Co.refl _

theorem prog06 (q : Bool) (p : Prg) (hp : okPr p) (g d : Nat) : ACalls E 24 [encPr p, encPr p, dB q] [] g d (dB true) [] := by
  obtain ⟨⟨h1, h2⟩, h3⟩ := hp
  have fin : True := trivial
  refine acalls_of_awp (fn := Tryd.f24) (N := 54) Tryd.call24 Tryd.func24 rfl rfl (by simp) ?_
  simp only [go_sem]
  refine awp_seq_k (fun K1 hK1 => ?_)
  refine awp_plain 3 (by kernel_rfl) rfl (fun g0 hg0 => ?_)
  simp only [go_sem]
  refine hK1 _ ?_
  refine awp_seq_k (fun K2 hK2 => ?_)
  refine awp_seq_k (fun K3 hK3 => ?_)
  refine awp_ops (by kernel_rfl) rfl (fun g1 hg1 ops1 KR1 hops1 hKR1 => ?_)
  refine aops_eval 12 hops1 ?_
  simp only [go_sem, decide_true, Bool.not_true, List.nil_append]
  cases q with
  | false =>
    refine aops_pure hops1 rfl rfl rfl (same05 p.main h3 _ _) (CoL.refl _) ?_
    refine aops_last 13 hops1 ?_
    simp only [go_sem, Bool.not_true]
    refine hKR1 _ ?_
    refine hK3 _ ?_
    refine awp_f rfl ?_
    refine awp_skip ?_
    refine hK2 _ ?_
    refine awp_seq_k (fun K4 hK4 => ?_)
    refine awp_seq_k (fun K5 hK5 => ?_)
    refine awp_plain 1 (by kernel_rfl) rfl (fun g3 hg3 => ?_)
    simp only [go_sem]
    refine hK5 _ ?_
    refine awp_block ?_
    refine awp_loop (fun m s => ∃ k, k ≤ p.decls.length ∧ m = p.decls.length - k ∧
        Le { env := [(2, dB false), (3, .ptr ⟨g0, 3, 0⟩ 0), (4, .ptr ⟨g0, 4, 0⟩ 0), (7, dN k)], σ := [(⟨g0, 3, 0⟩, .box 30 (prC p)), (⟨g0, 4, 0⟩, .box 30 (prC p))] } s) p.decls.length ?_ ?_
    · refine ⟨0, Nat.zero_le _, rfl, le_of ?_⟩
      simp only [go_sem, prC, exC, List.cons_append, List.nil_append]
      trivial
    · rintro m s ⟨k, hk, rfl, hle⟩
      refine awp_keep hle ?_
      clear hle
      by_cases h : k < p.decls.length
      · refine awp_seq_k (fun K6 hK6 => ?_)
        refine awp_seq_k (fun K7 hK7 => ?_)
        refine awp_plain 5 (by kernel_rfl) rfl (fun g4 hg4 => ?_)
        simp only [go_sem, prC, exC, List.cons_append, List.nil_append, h]
        refine hK7 _ ?_
        refine awp_t rfl ?_
        refine awp_skip ?_
        refine hK6 _ ?_
        refine awp_seq_k (fun K8 hK8 => ?_)
        refine awp_block ?_
        refine awp_seq_k (fun K9 hK9 => ?_)
        refine awp_anyq (by kernel_rfl) rfl (fun g6 hg6 ops6 KR6 hops6 hKR6 => ?_)
        refine qrun_eval 11 hops6 ?_
        simp only [go_sem, getM h, exC, List.cons_append, List.nil_append]
        refine qrun_pure hops6 rfl rfl rfl (decl06 false _ (h2 _ (List.getElem_mem h)) _ _) (CoL.refl _) rfl ?_
        refine qrun_last 1 hops6 ?_
        simp only [go_sem, Bool.not_true, List.nil_append]
        refine hKR6 _ ?_
        refine hK9 _ ?_
        refine awp_f rfl ?_
        refine awp_skip ?_
        refine hK8 _ ?_
        refine awp_plain 3 (by kernel_rfl) rfl (fun g5 hg5 => ?_)
        simp only [go_sem, prC, exC, List.cons_append, List.nil_append]
        try simp (disch := omega) only [wrapN]
        refine ⟨_, ?_, k + 1, h, rfl, le_of ?_⟩
        · omega
        simp only [go_sem]
        omega
      · refine awp_seq_k (fun K10 hK10 => ?_)
        refine awp_seq_k (fun K11 hK11 => ?_)
        refine awp_plain 5 (by kernel_rfl) rfl (fun g4 hg4 => ?_)
        simp only [go_sem, prC, exC, List.cons_append, List.nil_append, h]
        refine hK11 _ ?_
        refine awp_f rfl ?_
        refine awp_exit ?_
        refine hK4 _ ?_
        refine awp_seq_k (fun K12 hK12 => ?_)
        refine awp_plain 1 (by kernel_rfl) rfl (fun g8 hg8 => ?_)
        simp only [go_sem, List.nil_append]
        refine hK12 _ ?_
        refine awp_ret ?_
        refine ends_ev rfl ?_
        simp only [go_sem]
        exact Co.refl _
  | true =>
    refine aops_pure hops1 rfl rfl rfl (same05 p.main h3 _ _) (CoL.refl _) ?_
    refine aops_eval 9 hops1 ?_
    simp only [go_sem, Bool.not_true]
    refine aops_pure hops1 rfl rfl rfl (equal05 p.main h3 _ _) (CoL.refl _) ?_
    refine aops_last 3 hops1 ?_
    simp only [go_sem, Bool.not_true]
    refine hKR1 _ ?_
    refine hK3 _ ?_
    refine awp_f rfl ?_
    refine awp_skip ?_
    refine hK2 _ ?_
    refine awp_seq_k (fun K13 hK13 => ?_)
    refine awp_seq_k (fun K14 hK14 => ?_)
    refine awp_plain 1 (by kernel_rfl) rfl (fun g3 hg3 => ?_)
    simp only [go_sem]
    refine hK14 _ ?_
    refine awp_block ?_
    refine awp_loop (fun m s => ∃ k, k ≤ p.decls.length ∧ m = p.decls.length - k ∧
        Le { env := [(2, dB true), (3, .ptr ⟨g0, 3, 0⟩ 0), (4, .ptr ⟨g0, 4, 0⟩ 0), (7, dN k)], σ := [(⟨g0, 3, 0⟩, .box 30 (prC p)), (⟨g0, 4, 0⟩, .box 30 (prC p))] } s) p.decls.length ?_ ?_
    · refine ⟨0, Nat.zero_le _, rfl, le_of ?_⟩
      simp only [go_sem, prC, exC, List.cons_append, List.nil_append]
      trivial
    · rintro m s ⟨k, hk, rfl, hle⟩
      refine awp_keep hle ?_
      clear hle
      by_cases h : k < p.decls.length
      · refine awp_seq_k (fun K15 hK15 => ?_)
        refine awp_seq_k (fun K16 hK16 => ?_)
        refine awp_plain 5 (by kernel_rfl) rfl (fun g4 hg4 => ?_)
        simp only [go_sem, prC, exC, List.cons_append, List.nil_append, h]
        refine hK16 _ ?_
        refine awp_t rfl ?_
        refine awp_skip ?_
        refine hK15 _ ?_
        refine awp_seq_k (fun K17 hK17 => ?_)
        refine awp_block ?_
        refine awp_seq_k (fun K18 hK18 => ?_)
        refine awp_anyq (by kernel_rfl) rfl (fun g6 hg6 ops6 KR6 hops6 hKR6 => ?_)
        refine qrun_eval 11 hops6 ?_
        simp only [go_sem, getM h, exC, List.cons_append, List.nil_append]
        refine qrun_pure hops6 rfl rfl rfl (decl06 true _ (h2 _ (List.getElem_mem h)) _ _) (CoL.refl _) rfl ?_
        refine qrun_last 1 hops6 ?_
        simp only [go_sem, Bool.not_true, List.nil_append]
        refine hKR6 _ ?_
        refine hK18 _ ?_
        refine awp_f rfl ?_
        refine awp_skip ?_
        refine hK17 _ ?_
        refine awp_plain 3 (by kernel_rfl) rfl (fun g5 hg5 => ?_)
        simp only [go_sem, prC, exC, List.cons_append, List.nil_append]
        try simp (disch := omega) only [wrapN]
        refine ⟨_, ?_, k + 1, h, rfl, le_of ?_⟩
        · omega
        simp only [go_sem]
        omega
      · refine awp_seq_k (fun K19 hK19 => ?_)
        refine awp_seq_k (fun K20 hK20 => ?_)
        refine awp_plain 5 (by kernel_rfl) rfl (fun g4 hg4 => ?_)
        simp only [go_sem, prC, exC, List.cons_append, List.nil_append, h]
        refine hK20 _ ?_
        refine awp_f rfl ?_
        refine awp_exit ?_
        refine hK13 _ ?_
        refine awp_seq_k (fun K21 hK21 => ?_)
        refine awp_plain 1 (by kernel_rfl) rfl (fun g8 hg8 => ?_)
        simp only [go_sem, List.nil_append]
        refine hK21 _ ?_
        refine awp_ret ?_
        refine ends_ev rfl ?_
        simp only [go_sem]
        exact Co.refl _

end Go.Proofs.T

