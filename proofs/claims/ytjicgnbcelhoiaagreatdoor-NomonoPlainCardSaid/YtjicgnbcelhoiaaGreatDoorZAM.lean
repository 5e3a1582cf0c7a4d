/- A part of the proof, under no conditions of its own: ZAM. -/
import Derived.Test.YtjicgnbcelhoiaaGreatDoorZAL
import Derived.Test.YtjicgnbcelhoiaaGreatDoorZAK
namespace Go.Proofs.T
open Go Go.Ab Go.RowKit
def cntS (v : Str) (n : Nat) : Nat := n + 1 + v.size / 50
def cntHead (d : Dec) (n : Nat) : Nat := cnt cntPa d.fields (cnt cntFm d.formals (n + 1 + d.name.size / 50 + d.recv.size / 50))
def cntTail (d : Dec) (n : Nat) : Nat := if n ≤ 2000 then countEx d.body (cntSi d.sig n) else n
def cntDe (d : Dec) (n : Nat) : Nat := cntTail d (cnt cntS d.vars (cnt cntSi d.sigs (cntHead d n)))
def cntPr (p : Prg) : Nat := cnt cntDe p.decls (countEx p.main 0)
theorem cntS_le (v : Str) (h : v.size ≤ 9223372036854775807) (n : Nat) (hn : n ≤ 2000) : cntS v n ≤ 2 * big := by unfold cntS big; omega
theorem cntSi_small (s : Sig) (h : okSi s) (n : Nat) (hn : n ≤ 2000) : cntSi s n ≤ 7 * big := by
 have := cntSi_le s h n
 unfold big at *
 omega
theorem cntHead_le (d : Dec) (h : okDe d) (n : Nat) : cntHead d n ≤ n + 3 * big ∨ cntHead d n ≤ 3 * big := by
 obtain ⟨h1, ⟨h2, h3⟩, ⟨h4, h5⟩, _, h6, _⟩ := h
 have a1 := cnt_le (3 * big) d.formals (n + 1 + d.name.size / 50 + d.recv.size / 50) (fun a ha n hn => cntFm_le a (h3 a ha) n hn)
 have a2 := cnt_le (3 * big) d.fields (cnt cntFm d.formals (n + 1 + d.name.size / 50 + d.recv.size / 50)) (fun a ha n hn => cntPa_le a (h5 a ha) n hn)
 unfold cntHead
 unfold big at *
 omega
theorem cntTail_le (d : Dec) (h : okDe d) (n : Nat) : cntTail d n ≤ n ∨ cntTail d n ≤ 10 * big := by
 obtain ⟨_, _, _, _, _, _, h7, h8⟩ := h
 unfold cntTail
 split
 ·rename_i hn
  have a1 := cntSi_le d.sig h7 n
  have a2 := countEx_le d.body h8 (cntSi d.sig n)
  unfold big at *
  omega
 ·left; exact Nat.le_refl _
theorem cntDe_small (d : Dec) (h : okDe d) (n : Nat) (hn : n ≤ 2000) : cntDe d n ≤ 10 * big := by
 have h0 := h
 obtain ⟨h1, ⟨h2, h3⟩, ⟨h4, h5⟩, ⟨h6, h7⟩, h8, ⟨h9, h10⟩, h11, h12⟩ := h
 have a1 := cntHead_le d h0 n
 have a2 := cnt_le (7 * big) d.sigs (cntHead d n) (fun a ha n hn => cntSi_small a (h7 a ha) n hn)
 have a3 := cnt_le (7 * big) d.vars (cnt cntSi d.sigs (cntHead d n)) (fun a ha n hn => Nat.le_trans (cntS_le a (h10 a ha) n hn) (by unfold big; omega))
 have a4 := cntTail_le d h0 (cnt cntS d.vars (cnt cntSi d.sigs (cntHead d n)))
 unfold cntDe
 unfold big at *
 omega
theorem cntPr_calls (p : Prg) (hp : okPr p) (g d : Nat) : ACalls E 49 [encPr p] [] g d (dN (cntPr p)) [] := by
 have hbig : big = 184467440737097518 := rfl
 obtain ⟨⟨h1, h2⟩, h3⟩ := hp
 have b0 := countEx_le p.main h3 0
 refine acalls_of_awp (fn := Tryz.f49) (N := 94) Tryz.call49 Tryz.func49 rfl rfl (by simp) ?_
 simp only [go_sem]
 refine awp_seq_k (fun K1 hK1 => ?_)
 refine awp_plain 2 (by kernel_rfl) rfl (fun g0 hg0 => ?_)
 simp only [go_sem]
 refine hK1 _ ?_
 refine awp_seq_k (fun K2 hK2 => ?_)
 refine awp_ops (by kernel_rfl) rfl (fun g1 hg1 ops1 KR1 hops1 hKR1 => ?_)
 refine aops_eval 2 hops1 ?_
 simp only [go_sem]
 refine aops_pure hops1 rfl rfl rfl (countEx_calls _ h3 0 _ _ (by omega)) (CoL.refl _) ?_
 refine aops_last 1 hops1 ?_
 simp only [go_sem]
 refine hKR1 _ ?_
 refine hK2 _ ?_
 refine awp_seq_k (fun K3 hK3 => ?_)
 refine awp_seq_k (fun K4 hK4 => ?_)
 refine awp_plain 1 (by kernel_rfl) rfl (fun g2 hg2 => ?_)
 simp only [go_sem]
 refine hK4 _ ?_
 refine awp_block ?_
 refine awp_loop (fun m s => ∃ k n', k ≤ p.decls.length ∧ m = p.decls.length - k ∧ n' ≤ 10 * big ∧ cnt cntDe (p.decls.drop k) n' = cntPr p ∧
   Le { env := [(1, .ptr ⟨g0, 1, 0⟩ 0), (3, dN n'), (4, dN k)], σ := [(⟨g0, 1, 0⟩, .box 30 (prC p))] } s) p.decls.length ?_ ?_
 ·refine ⟨0, countEx p.main 0, Nat.zero_le _, rfl, by omega, rfl, le_of ?_⟩
  simp only [go_sem]
  trivial
 ·rintro m s ⟨k, n', hk, rfl, hn', hc, hle⟩
  refine awp_keep hle ?_
  clear hle
  by_cases hlt : k < p.decls.length
  ·by_cases hle : n' ≤ 2000
   ·have hle' : (n' : Int) ≤ 2000 := by omega
    have g1 := getM (f := encDe) hlt
    have hd := h2 _ (List.getElem_mem hlt)
    have hd0 := hd
    rw [cnt_step hlt hle] at hc
    have b1 := cntDe_small _ hd n' hle
    generalize p.decls[k] = D at *
    obtain ⟨i1, ⟨i2, i3⟩, ⟨i4, i5⟩, ⟨i6, i7⟩, i8, ⟨i9, i10⟩, i11, i12⟩ := hd
    have a1 := cntHead_le D hd0 n'
    have f1 := cnt_le (3 * big) D.formals (n' + 1 + D.name.size / 50 + D.recv.size / 50) (fun a ha n hn => cntFm_le a (i3 a ha) n hn)
    refine awp_seq_k (fun K5 hK5 => ?_)
    refine awp_seq_k (fun K6 hK6 => ?_)
    refine awp_plain 9 (by kernel_rfl) rfl (fun g3 hg3 => ?_)
    simp only [go_sem, hle', hlt]
    refine hK6 _ ?_
    refine awp_t rfl ?_
    refine awp_skip ?_
    refine hK5 _ ?_
    refine awp_seq_k (fun K7 hK7 => ?_)
    refine awp_block ?_
    refine awp_seq_k (fun K8 hK8 => ?_)
    refine awp_plain 7 (by kernel_rfl) rfl (fun g5 hg5 => ?_)
    simp only [go_sem, g1]
    refine hK8 _ ?_
    refine awp_seq_k (fun K9 hK9 => ?_)
    refine awp_any 18 (by kernel_rfl) (by kernel_rfl) rfl (fun g6 hg6 ops6 KR6 hops6 hKR6 => ?_)
    refine qrun_eval 16 hops6 ?_
    simp only [go_sem]
    try simp (disch := omega) only [wrapN, Int.tdiv_eq_ediv_of_nonneg]
    refine qrun_pure hops6 rfl rfl rfl (cntFm_calls D.formals (n' + 1 + D.name.size / 50 + D.recv.size / 50) i2 i3 (by omega) _ _) (CoL.refl _) rfl ?_
    refine qrun_pure hops6 rfl rfl rfl (cntPa_calls D.fields _ i4 i5 (by omega) _ _) (CoL.refl _) rfl ?_
    refine qrun_last 0 hops6 ?_
    simp only [go_sem]
    refine aops_last 1 hops6 ?_
    simp only [go_sem]
    refine hKR6 _ ?_
    refine hK9 _ ?_
    refine awp_seq_k (fun K10 hK10 => ?_)
    refine awp_seq_k (fun K11 hK11 => ?_)
    refine awp_plain 1 (by kernel_rfl) rfl (fun g7 hg7 => ?_)
    simp only [go_sem]
    refine hK11 _ ?_
    refine awp_block ?_
    generalize hH : cntHead D n' = H at *
    have hHd : H = cnt cntPa D.fields (cnt cntFm D.formals (n' + 1 + D.name.size / 50 + D.recv.size / 50)) := by rw [← hH]; rfl
    rw [← hHd]
    refine awp_loop (fun m s => ∃ j u, j ≤ D.sigs.length ∧ m = D.sigs.length - j ∧ u ≤ 14 * big ∧ cnt cntSi D.sigs (cntHead D n') = cnt cntSi (D.sigs.drop j) u ∧
      Le { env := [(1, .ptr ⟨g0, 1, 0⟩ 0), (3, dN u), (4, dN k), (5, .ptr ⟨g5, 5, 0⟩ 0), (6, dN j)], σ := [(⟨g0, 1, 0⟩, .box 30 (prC p)), (⟨g5, 5, 0⟩, .box 71 (deC D))] } s) D.sigs.length ?_ ?_
    ·refine ⟨0, H, Nat.zero_le _, rfl, by omega, by rw [hH]; rfl, le_of ?_⟩
     simp only [go_sem]
     trivial
    ·rintro m s ⟨j, u, hj, rfl, hub, hu0, hle2⟩
     refine awp_keep hle2 ?_
     clear hle2
     by_cases hjt : j < D.sigs.length
     ·have g2 := getM (f := encSi) hjt
      by_cases hu : u ≤ 2000
      ·have hu' : (u : Int) ≤ 2000 := by omega
       have s1 := cntSi_small _ (i7 _ (List.getElem_mem hjt)) u hu
       refine awp_seq_k (fun K12 hK12 => ?_)
       refine awp_seq_k (fun K13 hK13 => ?_)
       refine awp_plain 9 (by kernel_rfl) rfl (fun g8 hg8 => ?_)
       simp only [go_sem, hu', hjt]
       refine hK13 _ ?_
       refine awp_t rfl ?_
       refine awp_skip ?_
       refine hK12 _ ?_
       refine awp_seq_k (fun K14 hK14 => ?_)
       refine awp_block ?_
       refine awp_ops (by kernel_rfl) rfl (fun g10 hg10 ops10 KR10 hops10 hKR10 => ?_)
       refine aops_eval 6 hops10 ?_
       simp only [go_sem, g2]
       refine aops_pure hops10 rfl rfl rfl (cntSi_calls _ u (i7 _ (List.getElem_mem hjt)) (by omega) _ _) (CoL.refl _) ?_
       refine aops_last 1 hops10 ?_
       simp only [go_sem]
       refine hKR10 _ ?_
       refine hK14 _ ?_
       refine awp_plain 3 (by kernel_rfl) rfl (fun g9 hg9 => ?_)
       simp only [go_sem]
       try simp (disch := omega) only [wrapN]
       rw [cnt_step hjt hu] at hu0
       refine ⟨_, ?_, j + 1, cntSi D.sigs[j] u, hjt, rfl, by omega, hu0, le_of ?_⟩
       ·omega
       simp only [go_sem]
       omega
      ·have hu' : ¬ (u : Int) ≤ 2000 := by omega
       rw [cnt_stop hu] at hu0
       refine awp_seq_k (fun K15 hK15 => ?_)
       refine awp_seq_k (fun K16 hK16 => ?_)
       refine awp_plain 9 (by kernel_rfl) rfl (fun g8 hg8 => ?_)
       simp only [go_sem, hu', hjt]
       refine hK16 _ ?_
       refine awp_f rfl ?_
       refine awp_exit ?_
       refine hK10 _ ?_
       refine awp_seq_k (fun K17 hK17 => ?_)
       refine awp_seq_k (fun K18 hK18 => ?_)
       refine awp_plain 1 (by kernel_rfl) rfl (fun g11 hg11 => ?_)
       simp only [go_sem]
       refine hK18 _ ?_
       refine awp_block ?_
       refine awp_loop (fun m s => ∃ j v, j ≤ D.vars.length ∧ m = D.vars.length - j ∧ v ≤ 15 * big ∧ cnt cntS D.vars (cnt cntSi D.sigs (cntHead D n')) = cnt cntS (D.vars.drop j) v ∧
         Le { env := [(1, .ptr ⟨g0, 1, 0⟩ 0), (3, dN v), (4, dN k), (5, .ptr ⟨g5, 5, 0⟩ 0), (7, dN j)], σ := [(⟨g0, 1, 0⟩, .box 30 (prC p)), (⟨g5, 5, 0⟩, .box 71 (deC D))] } s) D.vars.length ?_ ?_
       ·refine ⟨0, u, Nat.zero_le _, rfl, by omega, by rw [hu0]; rfl, le_of ?_⟩
        simp only [go_sem]
        trivial
       ·rintro m s ⟨j, v, hj, rfl, hvb, hv0, hle3⟩
        refine awp_keep hle3 ?_
        clear hle3
        by_cases hjt : j < D.vars.length
        ·have g3 := getM (f := encS) hjt
         by_cases hv2 : v ≤ 2000
         ·have hv2' : (v : Int) ≤ 2000 := by omega
          have s1 := i10 _ (List.getElem_mem hjt)
          have s2 := cntS_le _ s1 v hv2
          refine awp_seq_k (fun K19 hK19 => ?_)
          refine awp_seq_k (fun K20 hK20 => ?_)
          refine awp_plain 9 (by kernel_rfl) rfl (fun g12 hg12 => ?_)
          simp only [go_sem, hv2', hjt]
          refine hK20 _ ?_
          refine awp_t rfl ?_
          refine awp_skip ?_
          refine hK19 _ ?_
          refine awp_seq_k (fun K21 hK21 => ?_)
          refine awp_block ?_
          refine awp_plain 11 (by kernel_rfl) rfl (fun g14 hg14 => ?_)
          simp only [go_sem, g3]
          try simp (disch := omega) only [wrapN, Int.tdiv_eq_ediv_of_nonneg]
          refine hK21 _ ?_
          refine awp_plain 3 (by kernel_rfl) rfl (fun g13 hg13 => ?_)
          simp only [go_sem]
          try simp (disch := omega) only [wrapN]
          rw [cnt_step hjt hv2] at hv0
          refine ⟨_, ?_, j + 1, cntS D.vars[j] v, hjt, rfl, by omega, hv0, le_of ?_⟩
          ·omega
          simp only [go_sem, cntS]
          omega
         ·have hv2' : ¬ (v : Int) ≤ 2000 := by omega
          rw [cnt_stop hv2] at hv0
          refine awp_seq_k (fun K22 hK22 => ?_)
          refine awp_seq_k (fun K23 hK23 => ?_)
          refine awp_plain 9 (by kernel_rfl) rfl (fun g12 hg12 => ?_)
          simp only [go_sem, hv2', hjt]
          refine hK23 _ ?_
          refine awp_f rfl ?_
          refine awp_exit ?_
          refine hK17 _ ?_
          refine awp_seq_k (fun K24 hK24 => ?_)
          by_cases hv : v ≤ 2000
          ·have hv' : (v : Int) ≤ 2000 := by omega
           have t1 := cntSi_le D.sig i11 v
           have t2 := countEx_le D.body i12 (cntSi D.sig v)
           have ht : cntTail D v = countEx D.body (cntSi D.sig v) := by unfold cntTail; rw [if_pos hv]
           refine awp_plain 2 (by kernel_rfl) rfl (fun g15 hg15 => ?_)
           simp only [go_sem, hv']
           refine hK24 _ ?_
           refine awp_t rfl ?_
           refine awp_any 7 (by kernel_rfl) (by kernel_rfl) rfl (fun g16 hg16 ops16 KR16 hops16 hKR16 => ?_)
           refine qrun_eval 5 hops16 ?_
           simp only [go_sem]
           refine qrun_pure hops16 rfl rfl rfl (cntSi_calls D.sig v i11 (by omega) _ _) (CoL.refl _) rfl ?_
           refine qrun_pure hops16 rfl rfl rfl (countEx_calls _ i12 _ _ _ (by omega)) (CoL.refl _) rfl ?_
           refine qrun_last 0 hops16 ?_
           simp only [go_sem]
           refine aops_last 1 hops16 ?_
           simp only [go_sem]
           refine hKR16 _ ?_
           refine hK7 _ ?_
           refine awp_plain 3 (by kernel_rfl) rfl (fun g4 hg4 => ?_)
           simp only [go_sem]
           try simp (disch := omega) only [wrapN]
           refine ⟨_, ?_, k + 1, cntDe D n', hlt, rfl, by omega, hc, le_of ?_⟩
           ·omega
           rw [show cntDe D n' = countEx D.body (cntSi D.sig v) by rw [← ht, ← hv0]; rfl]
           simp only [go_sem]
           omega
          ·have hv' : ¬ (v : Int) ≤ 2000 := by omega
           have ht : cntTail D v = v := by unfold cntTail; rw [if_neg hv]
           refine awp_plain 2 (by kernel_rfl) rfl (fun g15 hg15 => ?_)
           simp only [go_sem, hv']
           refine hK24 _ ?_
           refine awp_f rfl ?_
           refine awp_skip ?_
           refine hK7 _ ?_
           refine awp_plain 3 (by kernel_rfl) rfl (fun g4 hg4 => ?_)
           simp only [go_sem]
           try simp (disch := omega) only [wrapN]
           refine ⟨_, ?_, k + 1, cntDe D n', hlt, rfl, by omega, hc, le_of ?_⟩
           ·omega
           rw [show cntDe D n' = v by rw [← ht, ← hv0]; rfl]
           simp only [go_sem]
           omega
        ·rw [dropN _ _ (by omega)] at hv0
         simp only [cnt] at hv0
         refine awp_seq_k (fun K25 hK25 => ?_)
         refine awp_seq_k (fun K26 hK26 => ?_)
         refine awp_plain 9 (by kernel_rfl) rfl (fun g12 hg12 => ?_)
         simp only [go_sem, hjt]
         refine hK26 _ ?_
         refine awp_f rfl ?_
         refine awp_exit ?_
         refine hK17 _ ?_
         refine awp_seq_k (fun K27 hK27 => ?_)
         by_cases hv : v ≤ 2000
         ·have hv' : (v : Int) ≤ 2000 := by omega
          have t1 := cntSi_le D.sig i11 v
          have t2 := countEx_le D.body i12 (cntSi D.sig v)
          have ht : cntTail D v = countEx D.body (cntSi D.sig v) := by unfold cntTail; rw [if_pos hv]
          refine awp_plain 2 (by kernel_rfl) rfl (fun g15 hg15 => ?_)
          simp only [go_sem, hv']
          refine hK27 _ ?_
          refine awp_t rfl ?_
          refine awp_any 7 (by kernel_rfl) (by kernel_rfl) rfl (fun g16 hg16 ops16 KR16 hops16 hKR16 => ?_)
          refine qrun_eval 5 hops16 ?_
          simp only [go_sem]
          refine qrun_pure hops16 rfl rfl rfl (cntSi_calls D.sig v i11 (by omega) _ _) (CoL.refl _) rfl ?_
          refine qrun_pure hops16 rfl rfl rfl (countEx_calls _ i12 _ _ _ (by omega)) (CoL.refl _) rfl ?_
          refine qrun_last 0 hops16 ?_
          simp only [go_sem]
          refine aops_last 1 hops16 ?_
          simp only [go_sem]
          refine hKR16 _ ?_
          refine hK7 _ ?_
          refine awp_plain 3 (by kernel_rfl) rfl (fun g4 hg4 => ?_)
          simp only [go_sem]
          try simp (disch := omega) only [wrapN]
          refine ⟨_, ?_, k + 1, cntDe D n', hlt, rfl, by omega, hc, le_of ?_⟩
          ·omega
          rw [show cntDe D n' = countEx D.body (cntSi D.sig v) by rw [← ht, ← hv0]; rfl]
          simp only [go_sem]
          omega
         ·have hv' : ¬ (v : Int) ≤ 2000 := by omega
          have ht : cntTail D v = v := by unfold cntTail; rw [if_neg hv]
          refine awp_plain 2 (by kernel_rfl) rfl (fun g15 hg15 => ?_)
          simp only [go_sem, hv']
          refine hK27 _ ?_
          refine awp_f rfl ?_
          refine awp_skip ?_
          refine hK7 _ ?_
          refine awp_plain 3 (by kernel_rfl) rfl (fun g4 hg4 => ?_)
          simp only [go_sem]
          try simp (disch := omega) only [wrapN]
          refine ⟨_, ?_, k + 1, cntDe D n', hlt, rfl, by omega, hc, le_of ?_⟩
          ·omega
          rw [show cntDe D n' = v by rw [← ht, ← hv0]; rfl]
          simp only [go_sem]
          omega
     ·rw [dropN _ _ (by omega)] at hu0
      simp only [cnt] at hu0
      refine awp_seq_k (fun K28 hK28 => ?_)
      refine awp_seq_k (fun K29 hK29 => ?_)
      refine awp_plain 9 (by kernel_rfl) rfl (fun g8 hg8 => ?_)
      simp only [go_sem, hjt]
      refine hK29 _ ?_
      refine awp_f rfl ?_
      refine awp_exit ?_
      refine hK10 _ ?_
      refine awp_seq_k (fun K30 hK30 => ?_)
      refine awp_seq_k (fun K31 hK31 => ?_)
      refine awp_plain 1 (by kernel_rfl) rfl (fun g11 hg11 => ?_)
      simp only [go_sem]
      refine hK31 _ ?_
      refine awp_block ?_
      refine awp_loop (fun m s => ∃ j v, j ≤ D.vars.length ∧ m = D.vars.length - j ∧ v ≤ 15 * big ∧ cnt cntS D.vars (cnt cntSi D.sigs (cntHead D n')) = cnt cntS (D.vars.drop j) v ∧
        Le { env := [(1, .ptr ⟨g0, 1, 0⟩ 0), (3, dN v), (4, dN k), (5, .ptr ⟨g5, 5, 0⟩ 0), (7, dN j)], σ := [(⟨g0, 1, 0⟩, .box 30 (prC p)), (⟨g5, 5, 0⟩, .box 71 (deC D))] } s) D.vars.length ?_ ?_
      ·refine ⟨0, u, Nat.zero_le _, rfl, by omega, by rw [hu0]; rfl, le_of ?_⟩
       simp only [go_sem]
       trivial
      ·rintro m s ⟨j, v, hj, rfl, hvb, hv0, hle3⟩
       refine awp_keep hle3 ?_
       clear hle3
       by_cases hjt : j < D.vars.length
       ·have g3 := getM (f := encS) hjt
        by_cases hv2 : v ≤ 2000
        ·have hv2' : (v : Int) ≤ 2000 := by omega
         have s1 := i10 _ (List.getElem_mem hjt)
         have s2 := cntS_le _ s1 v hv2
         refine awp_seq_k (fun K32 hK32 => ?_)
         refine awp_seq_k (fun K33 hK33 => ?_)
         refine awp_plain 9 (by kernel_rfl) rfl (fun g12 hg12 => ?_)
         simp only [go_sem, hv2', hjt]
         refine hK33 _ ?_
         refine awp_t rfl ?_
         refine awp_skip ?_
         refine hK32 _ ?_
         refine awp_seq_k (fun K34 hK34 => ?_)
         refine awp_block ?_
         refine awp_plain 11 (by kernel_rfl) rfl (fun g14 hg14 => ?_)
         simp only [go_sem, g3]
         try simp (disch := omega) only [wrapN, Int.tdiv_eq_ediv_of_nonneg]
         refine hK34 _ ?_
         refine awp_plain 3 (by kernel_rfl) rfl (fun g13 hg13 => ?_)
         simp only [go_sem]
         try simp (disch := omega) only [wrapN]
         rw [cnt_step hjt hv2] at hv0
         refine ⟨_, ?_, j + 1, cntS D.vars[j] v, hjt, rfl, by omega, hv0, le_of ?_⟩
         ·omega
         simp only [go_sem, cntS]
         omega
        ·have hv2' : ¬ (v : Int) ≤ 2000 := by omega
         rw [cnt_stop hv2] at hv0
         refine awp_seq_k (fun K35 hK35 => ?_)
         refine awp_seq_k (fun K36 hK36 => ?_)
         refine awp_plain 9 (by kernel_rfl) rfl (fun g12 hg12 => ?_)
         simp only [go_sem, hv2', hjt]
         refine hK36 _ ?_
         refine awp_f rfl ?_
         refine awp_exit ?_
         refine hK30 _ ?_
         refine awp_seq_k (fun K37 hK37 => ?_)
         by_cases hv : v ≤ 2000
         ·have hv' : (v : Int) ≤ 2000 := by omega
          have t1 := cntSi_le D.sig i11 v
          have t2 := countEx_le D.body i12 (cntSi D.sig v)
          have ht : cntTail D v = countEx D.body (cntSi D.sig v) := by unfold cntTail; rw [if_pos hv]
          refine awp_plain 2 (by kernel_rfl) rfl (fun g15 hg15 => ?_)
          simp only [go_sem, hv']
          refine hK37 _ ?_
          refine awp_t rfl ?_
          refine awp_any 7 (by kernel_rfl) (by kernel_rfl) rfl (fun g16 hg16 ops16 KR16 hops16 hKR16 => ?_)
          refine qrun_eval 5 hops16 ?_
          simp only [go_sem]
          refine qrun_pure hops16 rfl rfl rfl (cntSi_calls D.sig v i11 (by omega) _ _) (CoL.refl _) rfl ?_
          refine qrun_pure hops16 rfl rfl rfl (countEx_calls _ i12 _ _ _ (by omega)) (CoL.refl _) rfl ?_
          refine qrun_last 0 hops16 ?_
          simp only [go_sem]
          refine aops_last 1 hops16 ?_
          simp only [go_sem]
          refine hKR16 _ ?_
          refine hK7 _ ?_
          refine awp_plain 3 (by kernel_rfl) rfl (fun g4 hg4 => ?_)
          simp only [go_sem]
          try simp (disch := omega) only [wrapN]
          refine ⟨_, ?_, k + 1, cntDe D n', hlt, rfl, by omega, hc, le_of ?_⟩
          ·omega
          rw [show cntDe D n' = countEx D.body (cntSi D.sig v) by rw [← ht, ← hv0]; rfl]
          simp only [go_sem]
          omega
         ·have hv' : ¬ (v : Int) ≤ 2000 := by omega
          have ht : cntTail D v = v := by unfold cntTail; rw [if_neg hv]
          refine awp_plain 2 (by kernel_rfl) rfl (fun g15 hg15 => ?_)
          simp only [go_sem, hv']
          refine hK37 _ ?_
          refine awp_f rfl ?_
          refine awp_skip ?_
          refine hK7 _ ?_
          refine awp_plain 3 (by kernel_rfl) rfl (fun g4 hg4 => ?_)
          simp only [go_sem]
          try simp (disch := omega) only [wrapN]
          refine ⟨_, ?_, k + 1, cntDe D n', hlt, rfl, by omega, hc, le_of ?_⟩
          ·omega
          rw [show cntDe D n' = v by rw [← ht, ← hv0]; rfl]
          simp only [go_sem]
          omega
       ·rw [dropN _ _ (by omega)] at hv0
        simp only [cnt] at hv0
        refine awp_seq_k (fun K38 hK38 => ?_)
        refine awp_seq_k (fun K39 hK39 => ?_)
        refine awp_plain 9 (by kernel_rfl) rfl (fun g12 hg12 => ?_)
        simp only [go_sem, hjt]
        refine hK39 _ ?_
        refine awp_f rfl ?_
        refine awp_exit ?_
        refine hK30 _ ?_
        refine awp_seq_k (fun K40 hK40 => ?_)
        by_cases hv : v ≤ 2000
        ·have hv' : (v : Int) ≤ 2000 := by omega
         have t1 := cntSi_le D.sig i11 v
         have t2 := countEx_le D.body i12 (cntSi D.sig v)
         have ht : cntTail D v = countEx D.body (cntSi D.sig v) := by unfold cntTail; rw [if_pos hv]
         refine awp_plain 2 (by kernel_rfl) rfl (fun g15 hg15 => ?_)
         simp only [go_sem, hv']
         refine hK40 _ ?_
         refine awp_t rfl ?_
         refine awp_any 7 (by kernel_rfl) (by kernel_rfl) rfl (fun g16 hg16 ops16 KR16 hops16 hKR16 => ?_)
         refine qrun_eval 5 hops16 ?_
         simp only [go_sem]
         refine qrun_pure hops16 rfl rfl rfl (cntSi_calls D.sig v i11 (by omega) _ _) (CoL.refl _) rfl ?_
         refine qrun_pure hops16 rfl rfl rfl (countEx_calls _ i12 _ _ _ (by omega)) (CoL.refl _) rfl ?_
         refine qrun_last 0 hops16 ?_
         simp only [go_sem]
         refine aops_last 1 hops16 ?_
         simp only [go_sem]
         refine hKR16 _ ?_
         refine hK7 _ ?_
         refine awp_plain 3 (by kernel_rfl) rfl (fun g4 hg4 => ?_)
         simp only [go_sem]
         try simp (disch := omega) only [wrapN]
         refine ⟨_, ?_, k + 1, cntDe D n', hlt, rfl, by omega, hc, le_of ?_⟩
         ·omega
         rw [show cntDe D n' = countEx D.body (cntSi D.sig v) by rw [← ht, ← hv0]; rfl]
         simp only [go_sem]
         omega
        ·have hv' : ¬ (v : Int) ≤ 2000 := by omega
         have ht : cntTail D v = v := by unfold cntTail; rw [if_neg hv]
         refine awp_plain 2 (by kernel_rfl) rfl (fun g15 hg15 => ?_)
         simp only [go_sem, hv']
         refine hK40 _ ?_
         refine awp_f rfl ?_
         refine awp_skip ?_
         refine hK7 _ ?_
         refine awp_plain 3 (by kernel_rfl) rfl (fun g4 hg4 => ?_)
         simp only [go_sem]
         try simp (disch := omega) only [wrapN]
         refine ⟨_, ?_, k + 1, cntDe D n', hlt, rfl, by omega, hc, le_of ?_⟩
         ·omega
         rw [show cntDe D n' = v by rw [← ht, ← hv0]; rfl]
         simp only [go_sem]
         omega
   ·have hle' : ¬ (n' : Int) ≤ 2000 := by omega
    refine awp_seq_k (fun K41 hK41 => ?_)
    refine awp_seq_k (fun K42 hK42 => ?_)
    refine awp_plain 9 (by kernel_rfl) rfl (fun g3 hg3 => ?_)
    simp only [go_sem, hle', hlt]
    refine hK42 _ ?_
    rw [cnt_stop hle] at hc
    subst hc
    refine awp_f rfl ?_
    refine awp_exit ?_
    refine hK3 _ ?_
    refine awp_seq_k (fun K43 hK43 => ?_)
    refine awp_plain 2 (by kernel_rfl) rfl (fun g17 hg17 => ?_)
    simp only [go_sem]
    refine hK43 _ ?_
    refine awp_ret ?_
    refine ends_ev rfl ?_
    simp only [go_sem]
    exact Co.refl _
  ·refine awp_seq_k (fun K44 hK44 => ?_)
   refine awp_seq_k (fun K45 hK45 => ?_)
   refine awp_plain 9 (by kernel_rfl) rfl (fun g3 hg3 => ?_)
   simp only [go_sem, hlt]
   refine hK45 _ ?_
   rw [dropN _ _ (by omega)] at hc
   simp only [cnt] at hc
   subst hc
   refine awp_f rfl ?_
   refine awp_exit ?_
   refine hK3 _ ?_
   refine awp_seq_k (fun K46 hK46 => ?_)
   refine awp_plain 2 (by kernel_rfl) rfl (fun g17 hg17 => ?_)
   simp only [go_sem]
   refine hK46 _ ?_
   refine awp_ret ?_
   refine ends_ev rfl ?_
   simp only [go_sem]
   exact Co.refl _
theorem few06_calls (p : Prg) (hp : okPr p) (g d : Nat) : ACalls E 26 [encPr p] [] g d (dB (decide (cntPr p ≤ 600))) [] := by
 have h : ((cntPr p : Int) ≤ 600) = (cntPr p ≤ 600) := by apply propext; omega
 refine acalls_of_awp (fn := Tryz.f26) (N := 6) Tryz.call26 Tryz.func26 rfl rfl (by simp) ?_
 simp only [go_sem]
 refine awp_seq_k (fun K1 hK1 => ?_)
 refine awp_plain 2 (by kernel_rfl) rfl (fun g0 hg0 => ?_)
 simp only [go_sem]
 refine hK1 _ ?_
 refine awp_seq_k (fun K2 hK2 => ?_)
 refine awp_ops (by kernel_rfl) rfl (fun g1 hg1 ops1 KR1 hops1 hKR1 => ?_)
 refine aops_eval 1 hops1 ?_
 simp only [go_sem]
 refine aops_pure hops1 rfl rfl rfl (cntPr_calls _ hp _ _) (CoL.refl _) ?_
 refine aops_last 2 hops1 ?_
 simp only [go_sem]
 refine hKR1 _ ?_
 refine hK2 _ ?_
 refine awp_ret ?_
 refine ends_ev rfl ?_
 simp only [go_sem]
 exact Co.of_eq (by simp only [h])
end Go.Proofs.T
namespace Go.Proofs.T
open Go Go.Ab Go.RowKit
theorem cnt_ge {α : Type} {f : α → Nat → Nat} (hf : ∀ a n, n ≤ f a n) : ∀ (l : List α) (n : Nat), n ≤ cnt f l n
 | [], n => Nat.le_refl _
 | a :: r, n => by
  simp only [cnt]
  split
  ·exact Nat.le_trans (hf a n) (cnt_ge hf r _)
  ·exact Nat.le_refl _
theorem cnt_small {α : Type} {f : α → Nat → Nat} (hf : ∀ a n, n + 1 ≤ f a n) : ∀ (l : List α) (n : Nat), cnt f l n ≤ 2000 → n + l.length ≤ cnt f l n ∧ ∀ a ∈ l, ∃ m, f a m ≤ cnt f l n
 | [], n, _ => ⟨Nat.le_refl _, fun a h => by cases h⟩
 | a :: r, n, h => by
  have hg : ∀ m, m ≤ cnt f r m := fun m => cnt_ge (fun a n => Nat.le_trans (Nat.le_succ n) (hf a n)) r m
  have hn : n ≤ 2000 := by
   simp only [cnt] at h
   split at h
   ·assumption
   ·exact h
  simp only [cnt] at h ⊢
  rw [if_pos hn] at h ⊢
  obtain ⟨h1, h2⟩ := cnt_small hf r (f a n) h
  have := hf a n
  refine ⟨by simp only [List.length_cons]; omega, fun x hx => ?_⟩
  rcases List.mem_cons.1 hx with rfl | hx
  ·exact ⟨n, hg _⟩
  ·exact h2 x hx
theorem count_ge : ∀ (t : Ty) (n : Nat), n + 1 + t.name.size / 50 ≤ count t n := by
 refine Ty.ind fun t ih n => ?_
 rw [count_eq, countL_cnt]
 have : ∀ (l : List Ty), (∀ x ∈ l, ∀ n, n + 1 + x.name.size / 50 ≤ count x n) → ∀ n, n ≤ cnt count l n := by
  intro l
  induction l with
  | nil => intro _ n; exact Nat.le_refl _
  | cons a r ih2 =>
   intro h n
   simp only [cnt]
   split
   ·have := h a List.mem_cons_self n
    exact Nat.le_trans (by omega) (ih2 (fun x hx => h x (List.mem_cons_of_mem _ hx)) _)
   ·exact Nat.le_refl _
 exact this _ ih _
theorem count_sm : ∀ (t : Ty) (n : Nat), count t n ≤ 2000 → smTy t := by
 refine Ty.ind fun t ih n h => ?_
 have h0 := count_ge t n
 rw [count_eq, countL_cnt] at h
 obtain ⟨h1, h2⟩ := cnt_small (fun a n => by have := count_ge a n; omega) _ _ h
 refine (smTy_iff t).2 ⟨?_, by omega, fun x hx => ?_⟩
 ·rw [count_eq, countL_cnt] at h0; omega
 ·obtain ⟨m, hm⟩ := h2 x hx
  exact ih x hx m (by omega)
theorem cntFm_sm (f : Formal) (n : Nat) (h : cntFm f n ≤ 2000) : smFm f := by
 have := count_ge f.bound (n + 1 + f.name.size / 50)
 unfold cntFm at h
 exact ⟨by omega, count_sm _ _ h⟩
theorem cntPa_sm (f : Param) (n : Nat) (h : cntPa f n ≤ 2000) : smPa f := by
 have := count_ge f.type (n + 1 + f.name.size / 50)
 unfold cntPa at h
 exact ⟨by omega, count_sm _ _ h⟩
theorem cntFm_ge (f : Formal) (n : Nat) : n + 1 ≤ cntFm f n := by
 have := count_ge f.bound (n + 1 + f.name.size / 50)
 unfold cntFm; omega
theorem cntPa_ge (f : Param) (n : Nat) : n + 1 ≤ cntPa f n := by
 have := count_ge f.type (n + 1 + f.name.size / 50)
 unfold cntPa; omega
theorem cntFms_sm (l : List Formal) (n : Nat) (h : cnt cntFm l n ≤ 2000) : l.length ≤ 2000 ∧ ∀ f ∈ l, smFm f := by
 obtain ⟨h1, h2⟩ := cnt_small cntFm_ge l n h
 exact ⟨by omega, fun f hf => let ⟨m, hm⟩ := h2 f hf; cntFm_sm f m (by omega)⟩
theorem cntPas_sm (l : List Param) (n : Nat) (h : cnt cntPa l n ≤ 2000) : l.length ≤ 2000 ∧ ∀ f ∈ l, smPa f := by
 obtain ⟨h1, h2⟩ := cnt_small cntPa_ge l n h
 exact ⟨by omega, fun f hf => let ⟨m, hm⟩ := h2 f hf; cntPa_sm f m (by omega)⟩
theorem cntTys_sm (l : List Ty) (n : Nat) (h : cnt count l n ≤ 2000) : l.length ≤ 2000 ∧ ∀ f ∈ l, smTy f := by
 obtain ⟨h1, h2⟩ := cnt_small (fun t n => by have := count_ge t n; omega) l n h
 exact ⟨by omega, fun f hf => let ⟨m, hm⟩ := h2 f hf; count_sm f m (by omega)⟩
theorem cntSi_ge (s : Sig) (n : Nat) : n + 1 ≤ cntSi s n := by
 have h1 := cnt_ge (fun a n => Nat.le_trans (Nat.le_succ n) (cntFm_ge a n)) s.formals (n + s.name.size / 50)
 have h2 := cnt_ge (fun a n => Nat.le_trans (Nat.le_succ n) (cntPa_ge a n)) s.params (cnt cntFm s.formals (n + s.name.size / 50))
 have h3 := count_ge s.result (cnt cntPa s.params (cnt cntFm s.formals (n + s.name.size / 50)))
 unfold cntSi
 omega
theorem cntSi_sm (s : Sig) (n : Nat) (h : cntSi s n ≤ 2000) : smSi s ∧ s.formals.length ≤ 2000 ∧ s.params.length ≤ 2000 := by
 have h1 := cnt_ge (fun a n => Nat.le_trans (Nat.le_succ n) (cntFm_ge a n)) s.formals (n + s.name.size / 50)
 have h2 := cnt_ge (fun a n => Nat.le_trans (Nat.le_succ n) (cntPa_ge a n)) s.params (cnt cntFm s.formals (n + s.name.size / 50))
 have h3 := count_ge s.result (cnt cntPa s.params (cnt cntFm s.formals (n + s.name.size / 50)))
 unfold cntSi at h
 have a1 := cntFms_sm s.formals (n + s.name.size / 50) (by omega)
 have a2 := cntPas_sm s.params _ (show cnt cntPa s.params (cnt cntFm s.formals (n + s.name.size / 50)) ≤ 2000 by omega)
 exact ⟨⟨by omega, ⟨by omega, a1.2⟩, ⟨by omega, a2.2⟩, count_sm _ _ h⟩, a1.1, a2.1⟩
def zeroEx : Ex := .mk 0 ByteArray.empty zeroTy [] [] 0
def decSig (s : Sig) : Dec := ⟨0, ByteArray.empty, [], [], [], ByteArray.empty, [], s, zeroEx, 0⟩
def decEnv (l : List Formal) : Dec := ⟨0, ByteArray.empty, l, [], [], ByteArray.empty, [], zeroSi, zeroEx, 0⟩
def few10 (s : Sig) : Bool := decide (cntPr ⟨[decSig s], zeroEx⟩ ≤ 600)
def fewEnv (l : List Formal) : Bool := decide (cntPr ⟨[decEnv l], zeroEx⟩ ≤ 600)
theorem countEx_ge : ∀ (e : Ex) (n : Nat), n + 1 ≤ countEx e n := by
 refine Ex.ind fun e ih n => ?_
 rw [countEx_eq]
 have h1 := count_ge e.type (n + e.name.size / 50)
 have h2 := cnt_ge (f := count) (fun t m => by have := count_ge t m; omega) e.targs (count e.type (n + e.name.size / 50))
 have : ∀ (l : List Ex), (∀ x ∈ l, ∀ n, n + 1 ≤ countEx x n) → ∀ n, n ≤ cnt countEx l n := by
  intro l
  induction l with
  | nil => intro _ n; exact Nat.le_refl _
  | cons a r ih2 =>
   intro h n
   simp only [cnt]
   split
   ·have := h a List.mem_cons_self n
    exact Nat.le_trans (by omega) (ih2 (fun x hx => h x (List.mem_cons_of_mem _ hx)) _)
   ·exact Nat.le_refl _
 have h3 := this e.kids ih (cnt count e.targs (count e.type (n + e.name.size / 50)))
 omega
end Go.Proofs.T
namespace Go.Proofs.T
open Go Go.Ab Go.RowKit
mutual
def strip : Ty → Ty
 | .mk n x _ => .mk n (strips x) 0
def strips : List Ty → List Ty
 | [] => []
 | t :: r => strip t :: strips r
end
mutual
theorem cmpTy_iff : ∀ (t u : Ty), cmpTy t u = 0 ↔ strip t = strip u
 | .mk a x p, .mk b y q => by
  simp only [cmpTy, strip, Ty.mk.injEq, and_true]
  rw [← cmpTys_iff x y, ← cmpS_zero]
  split
  ·rename_i h; simp [h]
  ·rename_i h; simp [h]
theorem cmpTys_iff : ∀ (x y : List Ty), cmpTys x y = 0 ↔ strips x = strips y
 | [], [] => by simp [cmpTys]
 | [], _ :: _ => by simp [cmpTys, strips]
 | _ :: _, [] => by simp [cmpTys, strips]
 | t :: x, u :: y => by
  simp only [cmpTys, strips, List.cons.injEq]
  rw [← cmpTys_iff x y, ← cmpTy_iff t u]
  split
  ·rename_i h; simp [h]
  ·rename_i h; simp [h]
end
def keyFm (a : Formal) : Str × Ty := (a.name, strip a.bound)
def keyPa (a : Param) : Str × Ty := (a.name, strip a.type)
def keySi (s : Sig) : Str × List (Str × Ty) × List (Str × Ty) × Ty := (s.name, s.formals.map keyFm, s.params.map keyPa, strip s.result)
def key (s : Sig) := keySi (canonSi s)
end Go.Proofs.T
namespace Go.Proofs.T
open Go Go.Ab Go.RowKit
end Go.Proofs.T
namespace Go.Proofs.T
open Go Go.Ab Go.RowKit
mutual
def smEx : Ex → Prop
 | .mk _ n t a c _ => n.size ≤ 1000000 ∧ smTy t ∧ (a.length ≤ 1000000 ∧ ∀ x ∈ a, smTy x) ∧ c.length ≤ 1000000 ∧ smExs c
def smExs : List Ex → Prop
 | [] => True
 | t :: r => smEx t ∧ smExs r
end
theorem smExs_iff : ∀ l, smExs l ↔ ∀ t ∈ l, smEx t
 | [] => by simp [smExs]
 | t :: r => by simp [smExs, smExs_iff r]
theorem smEx_iff (e : Ex) : smEx e ↔ e.name.size ≤ 1000000 ∧ smTy e.type ∧ (e.targs.length ≤ 1000000 ∧ ∀ x ∈ e.targs, smTy x) ∧ e.kids.length ≤ 1000000 ∧ ∀ x ∈ e.kids, smEx x := by
 cases e
 simp [smEx, smExs_iff]
def smDe (d : Dec) : Prop := d.name.size ≤ 1000000 ∧ (d.formals.length ≤ 2000 ∧ ∀ f ∈ d.formals, smFm f) ∧ (d.fields.length ≤ 1000000 ∧ ∀ f ∈ d.fields, smPa f) ∧ (d.sigs.length ≤ 1000000 ∧ ∀ f ∈ d.sigs, smSi f) ∧ d.recv.size ≤ 1000000 ∧
 (d.vars.length ≤ 1000000 ∧ ∀ f ∈ d.vars, f.size ≤ 1000000) ∧ smSi d.sig ∧ smEx d.body
def smPr (p : Prg) : Prop := (p.decls.length ≤ 2000 ∧ ∀ f ∈ p.decls, smDe f) ∧ smEx p.main
end Go.Proofs.T
namespace Go.Proofs.T
open Go Go.Ab Go.RowKit
mutual
def nodesEx : Ex → List Ex
 | .mk k n t a c p => .mk k n t a c p :: nodesExs c
def nodesExs : List Ex → List Ex
 | [] => []
 | t :: r => nodesEx t ++ nodesExs r
end
theorem nodesEx_eq (e : Ex) : nodesEx e = e :: nodesExs e.kids := by cases e; rfl
theorem nodesExs_app : ∀ a b : List Ex, nodesExs (a ++ b) = nodesExs a ++ nodesExs b
 | [], b => rfl
 | x :: a, b => by simp [nodesExs, nodesExs_app a b]
theorem nodesExs_take (c : List Ex) (i : Nat) (h : i < c.length) : nodesExs (c.take (i + 1)) = nodesExs (c.take i) ++ nodesEx c[i] := by
 rw [List.take_add_one, List.getElem?_eq_getElem h, nodesExs_app]
 simp [nodesExs]
theorem nodesExs_get (c : List Ex) (i : Nat) (h : i < c.length) (j : Nat) (x : Ex) (hx : (nodesEx c[i])[j]? = some x) : (nodesExs c)[(nodesExs (c.take i)).length + j]? = some x := by
 have hj := (List.getElem?_eq_some_iff.1 hx).1
 have e : nodesExs c = (nodesExs (c.take i) ++ nodesEx c[i]) ++ nodesExs (c.drop (i + 1)) := by rw [← nodesExs_take c i h, ← nodesExs_app, List.take_append_drop]
 rw [e, List.getElem?_append_left (by simp; omega), List.getElem?_append_right (by omega)]
 simpa using hx
theorem yld_cells (n : Nm) : (D.yld n).cells = [.yld n] := rfl
theorem yld_one (n : Nm) : (D.yld n).one = true := rfl
attribute [go_sem] yld_cells yld_one
abbrev stopD (q : Nat) : D := .func (.func 140) [] [.ptr ⟨q, 3, 0⟩ 0]
def bx (n : Nm) (q : Nat) (P : Sto → Prop) (τ : Sto) : Prop := ∃ τ0, τ = (⟨q, 3, 0⟩, .box 86 [.yld n]) :: τ0 ∧ P τ0 ∧ get τ0 ⟨q, 3, 0⟩ = none
set_option maxRecDepth 100000 in
theorem indexK_calls (c : List Ex) (hc : c.length ≤ 9223372036854775807) (q : Nat) (I : Nat → Sto → Prop) (h : ∀ i (hi : i < c.length), IC E 140 [encEx c[i], .ptr ⟨q, 3, 0⟩ 0] (I i) (I (i + 1)) (dB false)) :
  IC E 146 [slEx c, stopD q] (I 0) (I c.length) (dI (-1)) := by
 refine icalls_of_awp (fn := Tryz.f146) (N := 19) Tryz.call146 Tryz.func146 rfl rfl (by simp) (fun g d τ hτ => ?_)
 simp only [go_sem]
 refine awp_seq_k (fun K1 hK1 => ?_)
 refine awp_plain 1 (by kernel_rfl) rfl (fun g0 hg0 => ?_)
 simp only [go_sem]
 refine hK1 _ ?_
 refine awp_seq_k (fun K2 hK2 => ?_)
 refine awp_seq_k (fun K3 hK3 => ?_)
 refine awp_plain 3 (by kernel_rfl) rfl (fun g1 hg1 => ?_)
 simp only [go_sem]
 refine hK3 _ ?_
 refine awp_block ?_
 refine awp_loop (fun m s => ∃ k τ', k ≤ c.length ∧ m = c.length - k ∧ I k τ' ∧ LeT { env := [(0, slEx c), (1, stopD q), (7, dN c.length), (8, dN k)], σ := τ' } s) c.length ?_ ?_
 ·refine ⟨0, τ, Nat.zero_le _, rfl, hτ, let_of rfl ?_⟩
  simp only [go_sem]
  trivial
 ·rintro m s ⟨k, τ', hk, rfl, hI, hle⟩
  refine awp_keepT hle ?_
  clear hle
  by_cases hlt : k < c.length
  ·refine awp_seq_k (fun K4 hK4 => ?_)
   refine awp_plain 1 (by kernel_rfl) rfl (fun g2 hg2 => ?_)
   simp only [go_sem, hlt]
   refine hK4 _ ?_
   refine awp_seq_k (fun K5 hK5 => ?_)
   refine awp_t rfl ?_
   refine awp_skip ?_
   refine hK5 _ ?_
   refine awp_seq_k (fun K6 hK6 => ?_)
   refine awp_block ?_
   refine awp_seq_k (fun K7 hK7 => ?_)
   refine awp_plain 2 (by kernel_rfl) rfl (fun g3 hg3 => ?_)
   simp only [go_sem]
   refine hK7 _ ?_
   refine awp_seq_k (fun K8 hK8 => ?_)
   refine awp_ops (by kernel_rfl) rfl (fun g4 hg4 ops4 KR4 hops4 hKR4 => ?_)
   refine aops_eval 5 hops4 ?_
   simp only [go_sem, getM hlt]
   refine aops_icall (own := []) (τ := τ') hops4 rfl rfl rfl (h k hlt) (CoL.refl _) rfl (fun p hp => nomatch hp) hI (fun τ2 hI2 _ => ?_)
   refine aops_last 0 hops4 ?_
   simp only [go_sem]
   refine hKR4 _ ?_
   refine hK8 _ ?_
   refine awp_f rfl ?_
   refine awp_skip ?_
   refine hK6 _ ?_
   refine awp_plain 2 (by kernel_rfl) rfl (fun g6 hg6 => ?_)
   simp only [go_sem]
   try simp (disch := omega) only [wrapN]
   refine ⟨_, ?_, k + 1, τ2, hlt, rfl, hI2, let_of rfl ?_⟩
   ·omega
   simp only [go_sem]
   omega
  ·have : k = c.length := by omega
   subst this
   refine awp_seq_k (fun K9 hK9 => ?_)
   refine awp_plain 1 (by kernel_rfl) rfl (fun g2 hg2 => ?_)
   simp only [go_sem, hlt]
   refine hK9 _ ?_
   refine awp_seq_k (fun K10 hK10 => ?_)
   refine awp_f rfl ?_
   refine awp_exit ?_
   refine hK2 _ ?_
   refine awp_seq_k (fun K11 hK11 => ?_)
   refine awp_plain 1 (by kernel_rfl) rfl (fun g7 hg7 => ?_)
   simp only [go_sem]
   refine hK11 _ ?_
   refine awp_ret ?_
   refine ends_tail (own := []) rfl rfl (by simp [go_sem]) (hI) ?_
   simp only [go_sem]
   exact Co.refl _
theorem containsK_calls (c : List Ex) (hc : c.length ≤ 9223372036854775807) (q : Nat) (I : Nat → Sto → Prop) (h : ∀ i (hi : i < c.length), IC E 140 [encEx c[i], .ptr ⟨q, 3, 0⟩ 0] (I i) (I (i + 1)) (dB false)) :
  IC E 141 [slEx c, stopD q] (I 0) (I c.length) (dB false) := by
 refine icalls_of_awp (fn := Tryz.f141) (N := 9) Tryz.call141 Tryz.func141 rfl rfl (by simp) (fun g d τ hτ => ?_)
 simp only [go_sem]
 refine awp_seq_k (fun K1 hK1 => ?_)
 refine awp_plain 1 (by kernel_rfl) rfl (fun g0 hg0 => ?_)
 simp only [go_sem]
 refine hK1 _ ?_
 refine awp_seq_k (fun K2 hK2 => ?_)
 refine awp_ops (by kernel_rfl) rfl (fun g1 hg1 ops1 KR1 hops1 hKR1 => ?_)
 refine aops_eval 2 hops1 ?_
 simp only [go_sem]
 refine aops_icall (own := []) (τ := τ) hops1 rfl rfl rfl (indexK_calls c hc q I h) (CoL.refl _) rfl (fun p hp => nomatch hp) hτ (fun τ2 hI2 _ => ?_)
 refine aops_last 2 hops1 ?_
 simp only [go_sem]
 refine hKR1 _ ?_
 refine hK2 _ ?_
 refine awp_ret ?_
 refine ends_tail (own := []) rfl rfl (by simp [go_sem]) (hI2) ?_
 simp only [go_sem]
 exact Co.of_eq rfl
theorem stop_calls (e : Ex) (n : Nm) (q : Nat) (Pre Post : Sto → Prop) (h : IC E 126 [encEx e, .yld n] Pre Post (dB true)) :
  IC E 140 [encEx e, .ptr ⟨q, 3, 0⟩ 0] (bx n q Pre) (bx n q Post) (dB false) := by
 refine icalls_of_awp (fn := Tryz.f140) (N := 8) Tryz.call140 Tryz.func140 rfl rfl (by simp) (fun g d τ hτ => ?_)
 simp only [go_sem]
 refine awp_seq_k (fun K1 hK1 => ?_)
 obtain ⟨τ0, rfl, hP, hq⟩ := hτ
 refine awp_plain 2 (by kernel_rfl) rfl (fun g0 hg0 => ?_)
 simp only [go_sem]
 refine hK1 _ ?_
 refine awp_seq_k (fun K2 hK2 => ?_)
 refine awp_ops (by kernel_rfl) rfl (fun g1 hg1 ops1 KR1 hops1 hKR1 => ?_)
 refine aops_eval 2 hops1 ?_
 simp only [go_sem]
 have hf : get τ0 ⟨g0, 2, 0⟩ = none := by simpa [go_sem] using hg0 2 0
 refine aops_icall (own := [_, _]) (τ := τ0) hops1 rfl rfl rfl h (CoL.refl _) rfl (fun p hp => ?_) hP (fun τ2 hP2 hX => ?_)
 ·rcases List.mem_cons.1 hp with rfl | hp
  ·exact hf
  ·rw [List.mem_singleton.1 hp]; exact hq
 refine aops_last 2 hops1 ?_
 simp only [go_sem]
 refine hKR1 _ ?_
 refine hK2 _ ?_
 refine awp_ret ?_
 have h2 := hX _ List.mem_cons_self
 have h3 := hX _ (List.mem_cons_of_mem _ List.mem_cons_self)
 refine ends_tail (own := [_]) rfl rfl (fun p hp => ?_) ⟨τ2, rfl, hP2, h3⟩ ?_
 ·rw [List.mem_singleton.1 hp]
  simpa [go_sem] using h2
 simp only [go_sem]
 exact Co.of_eq rfl
end Go.Proofs.T
namespace Go.Proofs.T
open Go Go.Ab Go.RowKit
def offK (c : List Ex) (i : Nat) : Nat := 1 + (nodesExs (c.take i)).length
set_option maxRecDepth 100000 in
theorem visit_calls (n : Nm) : ∀ (e : Ex), okEx e → ∀ I : Nat → Sto → Prop, (∀ j x, (nodesEx e)[j]? = some x → YC E n (encEx x) (I j) (I (j + 1))) → IC E 126 [encEx e, .yld n] (I 0) (I (nodesEx e).length) (dB true) := by
 intro e
 induction e using Ex.ind with
 | h e ih =>
 intro hok I hY
 obtain ⟨o1, o2, o3, o4, o5⟩ := (okEx_iff e).1 hok
 have hne := nodesEx_eq e
 refine icalls_of_awp (fn := Tryz.f126) (N := 16) Tryz.call126 Tryz.func126 rfl rfl (by simp) (fun g d τ hτ => ?_)
 simp only [go_sem]
 refine awp_seq_k (fun K1 hK1 => ?_)
 refine awp_plain 3 (by kernel_rfl) rfl (fun g0 hg0 => ?_)
 simp only [go_sem]
 refine hK1 _ ?_
 refine awp_seq_k (fun K2 hK2 => ?_)
 refine awp_seq_k (fun K3 hK3 => ?_)
 have hf2 : get τ ⟨g0, 2, 0⟩ = none := by simpa [go_sem] using hg0 2 0
 have hf3 : get τ ⟨g0, 3, 0⟩ = none := by simpa [go_sem] using hg0 3 0
 refine awp_ops (by kernel_rfl) rfl (fun g1 hg1 ops1 KR1 hops1 hKR1 => ?_)
 refine aops_eval 2 hops1 ?_
 simp only [go_sem]
 refine aops_yield (own := [_, _]) (τ := τ) hops1 rfl rfl rfl rfl rfl rfl (hY 0 e (by rw [hne]; rfl)) (Co.refl _) rfl (fun p hp => ?_) hτ (fun τ2 hI2 hX => ?_)
 ·rcases List.mem_cons.1 hp with rfl | hp
  ·exact hf3
  ·rw [List.mem_singleton.1 hp]; exact hf2
 refine aops_last 1 hops1 ?_
 simp only [go_sem]
 refine hKR1 _ ?_
 refine hK3 _ ?_
 refine awp_f rfl ?_
 refine awp_skip ?_
 refine hK2 _ ?_
 refine awp_seq_k (fun K4 hK4 => ?_)
 have h3 := hX _ List.mem_cons_self
 have h2 := hX _ (List.mem_cons_of_mem _ List.mem_cons_self)
 clear hX
 refine awp_keepT (st' := { env := [(2, .ptr ⟨g0, 2, 0⟩ 0), (3, .ptr ⟨g0, 3, 0⟩ 0)], σ := (⟨g0, 2, 0⟩, .box 28 (exC e)) :: (⟨g0, 3, 0⟩, .box 86 [.yld n]) :: τ2 }) ⟨leE_spec ?_, ?_⟩ ?_
 ·simp only [go_sem]
  try trivial
 ·intro m o hm
  simp only [Ab.get] at hm ⊢
  by_cases a : (⟨g0, 2, 0⟩ : Nm) = m
  ·have b : ¬ (⟨g0, 3, 0⟩ : Nm) = m := by rw [← a]; simp
   rw [if_pos a] at hm
   rw [if_neg b, if_pos a]
   exact hm
  ·rw [if_neg a] at hm
   by_cases b : (⟨g0, 3, 0⟩ : Nm) = m
   ·rw [if_pos b] at hm ⊢
    exact hm
   ·rw [if_neg b] at hm
    rw [if_neg b, if_neg a]
    exact hm
 refine awp_plain 2 (by kernel_rfl) rfl (fun g3 hg3 => ?_)
 simp only [go_sem]
 refine hK4 _ ?_
 refine awp_seq_k (fun K5 hK5 => ?_)
 refine awp_ops (by kernel_rfl) rfl (fun g4 hg4 ops4 KR4 hops4 hKR4 => ?_)
 refine aops_eval 3 hops4 ?_
 simp only [go_sem]
 refine aops_icall (own := [_]) (τ := (⟨g0, 3, 0⟩, .box 86 [.yld n]) :: τ2) hops4 rfl rfl rfl (containsK_calls e.kids o4 g0 (fun i => bx n g0 (I (offK e.kids i))) (fun i hi => ?_)) (CoL.refl _) rfl (fun p hp => ?_) ⟨τ2, rfl, hI2, h3⟩ (fun τ3 hI3 hX => ?_)
 ·refine stop_calls _ n g0 _ _ ?_
  have hlen : offK e.kids (i + 1) = offK e.kids i + (nodesEx e.kids[i]).length := by
   unfold offK
   rw [nodesExs_take e.kids i hi, List.length_append]
   omega
  rw [hlen]
  refine ih _ (List.getElem_mem hi) (o5 _ (List.getElem_mem hi)) (fun j => I (offK e.kids i + j)) (fun j x hx => ?_)
  have := hY (offK e.kids i + j) x (by
   rw [hne]
   have := nodesExs_get e.kids i hi j x hx
   have e1 : offK e.kids i + j = ((nodesExs (e.kids.take i)).length + j) + 1 := by unfold offK; omega
   rw [e1, List.getElem?_cons_succ]
   exact this)
  exact this
 ·rw [List.mem_singleton.1 hp]
  simpa [go_sem] using h2
 refine aops_last 2 hops4 ?_
 simp only [go_sem]
 refine hKR4 _ ?_
 refine hK5 _ ?_
 refine awp_ret ?_
 obtain ⟨τ4, rfl, hI4, h4⟩ := hI3
 have h5 := hX _ List.mem_cons_self
 have hlast : offK e.kids e.kids.length = (nodesEx e).length := by
  unfold offK
  rw [List.take_length, hne]
  simp
  omega
 rw [hlast] at hI4
 refine ends_tail (own := [_, _]) (τ := τ4) rfl rfl (fun p hp => ?_) hI4 ?_
 ·rcases List.mem_cons.1 hp with rfl | hp
  ·simpa [go_sem] using h5
  ·rw [List.mem_singleton.1 hp]; exact h4
 simp only [go_sem]
 exact Co.of_eq rfl
theorem all1_calls (e : Ex) (h : okEx e) (n : Nm) (I : Nat → Sto → Prop) (hY : ∀ k (hk : k < ((nodesEx e).map encEx).length), YC E n ((nodesEx e).map encEx)[k] (I k) (I (k + 1))) :
  IC E 125 [.yld n, .eptr (exC e)] (I 0) (I ((nodesEx e).map encEx).length) (.tup []) := by
 have hY' : ∀ j x, (nodesEx e)[j]? = some x → YC E n (encEx x) (I j) (I (j + 1)) := fun j x hx => by
  have hj := (List.getElem?_eq_some_iff.1 hx).1
  have := hY j (by simpa using hj)
  have e1 : (nodesEx e)[j] = x := (List.getElem?_eq_some_iff.1 hx).2
  simpa [e1] using this
 refine icalls_of_awp (fn := Tryz.f125) (N := 6) Tryz.call125 Tryz.func125 rfl rfl (by simp) (fun g d τ hτ => ?_)
 simp only [go_sem]
 refine awp_ops (by kernel_rfl) rfl (fun g0 hg0 ops0 KR0 hops0 hKR0 => ?_)
 refine aops_eval 2 hops0 ?_
 simp only [go_sem]
 refine aops_icall (own := []) (τ := τ) hops0 rfl rfl rfl (visit_calls n e h I hY') (CoL.refl _) rfl (fun p hp => nomatch hp) hτ (fun τ2 hI2 _ => ?_)
 refine aops_last 0 hops0 ?_
 simp only [go_sem]
 refine hKR0 _ ?_
 refine ends_tail (own := []) rfl rfl (by simp [go_sem]) (hI2) ?_
 simp only [go_sem]
 exact Co.refl _
theorem allX_calls (e : Ex) (g d : Nat) : ACalls E 93 [encEx e] [] g d (.func (.func 125) [] [.eptr (exC e)]) [] := by
 refine acalls_of_awp (fn := Tryz.f93) (N := 4) Tryz.call93 Tryz.func93 rfl rfl (by simp) ?_
 simp only [go_sem]
 refine awp_seq_k (fun K1 hK1 => ?_)
 refine awp_plain 2 (by kernel_rfl) rfl (fun g0 hg0 => ?_)
 simp only [go_sem]
 refine hK1 _ ?_
 refine awp_seq_k (fun K2 hK2 => ?_)
 refine awp_still ⟨g0, 1, 0⟩ ?_
 simp only [go_sem]
 refine awp_plain 2 (by kernel_rfl) rfl (fun g1 hg1 => ?_)
 simp only [go_sem]
 refine hK2 _ ?_
 refine awp_ret ?_
 refine ends_ev rfl ?_
 simp only [go_sem]
 exact Co.refl _
end Go.Proofs.T
namespace Go.Proofs.T
open Go Go.Ab Go.RowKit
def ndF (b : Bool) (s : Str) (n : Nat) : List Nd := (List.range n).map fun i : Nat => ⟨b, s, (i : Int)⟩
def siN (s : Sig) : List Nd := ndF true s.name s.formals.length
def ndD (d : Dec) : List Nd := ndF false d.name d.formals.length ++ (d.sigs ++ [d.sig]).flatMap siN
def ndP (p : Prg) : List Nd := p.decls.flatMap ndD
def ndS (q : Nat) (R : List Nd) (τ : Sto) : Prop := ∃ a i, a ≠ q ∧ τ = [(⟨q, 3, 0⟩, .box 35 [.own ⟨a, i, 0⟩ R.length]), (⟨a, i, 0⟩, .arr 37 3 (R.map encNd))]
end Go.Proofs.T
namespace Go.Proofs.T
open Go Go.Ab Go.RowKit
noncomputable def nodesOf (p : Prg) : List Nd := cpU (srt ltNd (ndP p)) (srt ltNd (ndP p)).length
abbrev bxN (a i : Nat) (q : Nat) (R : List Nd) : Sto := [(⟨q, 3, 0⟩, .box 35 [.own ⟨a, i, 0⟩ R.length]), (⟨a, i, 0⟩, .arr 37 3 (R.map encNd))]
end Go.Proofs.T
namespace Go.Proofs.T
open Go Go.Ab Go.RowKit
structure Ed where
 frm : Nd
 to : Nd
 ins : Bool
instance : Inhabited Ed := ⟨⟨default, default, false⟩⟩
theorem Ed.eq_iff {a b : Ed} : a = b ↔ a.frm = b.frm ∧ a.to = b.to ∧ a.ins = b.ins := by
 cases a
 cases b
 simp
def edC (e : Ed) : List D := [dB e.frm.method, encS e.frm.name, dI e.frm.idx, dB e.to.method, encS e.to.name, dI e.to.idx, dB e.ins]
def encEd (e : Ed) : D := .agg (edC e)
theorem encEd_cells (e : Ed) : (encEd e).cells = edC e := rfl
def slEd (l : List Ed) : D := .sl false (l.map encEd)
attribute [go_sem] encEd_cells encEd edC slEd
theorem lenRowsEd (l : List Ed) : lenRows 7 (l.map encEd) := fun r hr => by
 obtain ⟨n, _, rfl⟩ := List.mem_map.1 hr
 rfl
def cfEd (x y : Ed) : Int := or3 (cfNd x.frm y.frm) (cfNd x.to y.to) (cmpI (ordB x.ins) (ordB y.ins))
theorem goodEd : Good cfEd :=
 (goodNd.pull fun x : Ed => x.frm).lex ((goodNd.pull fun x : Ed => x.to).lex (goodI.pull fun x : Ed => ordB x.ins))
theorem cfEd_zero {x y : Ed} : cfEd x y = 0 ↔ x = y := by
 constructor
 ·intro h
  unfold cfEd or3 at h
  split at h
  ·rename_i h1
   split at h
   ·rename_i h2
    exact Ed.eq_iff.2 ⟨cfNd_zero.1 h1, cfNd_zero.1 h2, ordB_inj (cmpI_zero.1 h)⟩
   ·contradiction
  ·contradiction
 ·rintro rfl
  exact goodEd.zero _
def ltEd : Ed → Ed → Bool := Go.Proofs.ltOf cfEd
theorem ed_uniq {l l2 : List Ed} (hp : l2.Perm l) (ho : l2.Pairwise fun a b => Go.Proofs.ltOf cfEd b a = false) : l2 = srt ltEd l := by
 refine srt_uniq goodEd.swo (fun a _ b _ h1 h2 => ?_) hp ho
 simp only [Go.Proofs.ltOf, decide_eq_false_iff_not] at h1 h2
 have k1 := goodEd.anti a b
 have k2 := goodEd.anti b a
 exact cfEd_zero.1 (by omega)
theorem edCompare_calls (x y : Ed) (g d : Nat) : ACalls E 98 [encEd x, encEd y] [] g d (dI (cfEd x y)) [] := by
 refine acalls_of_awp (fn := Tryz.f98) (N := 24) Tryz.call98 Tryz.func98 rfl rfl (by simp) ?_
 simp only [go_sem]
 refine awp_seq_k (fun K1 hK1 => ?_)
 refine awp_plain 3 (by kernel_rfl) rfl (fun g0 hg0 => ?_)
 simp only [go_sem]
 refine hK1 _ ?_
 refine awp_seq_k (fun K2 hK2 => ?_)
 refine awp_any 19 (by kernel_rfl) (by kernel_rfl) rfl (fun g1 hg1 ops1 KR1 hops1 hKR1 => ?_)
 refine qrun_eval 4 hops1 ?_
 simp only [go_sem]
 refine qrun_pure hops1 rfl rfl rfl (ndCompare_calls x.frm y.frm _ _) (CoL.refl _) rfl ?_
 refine qrun_eval 4 hops1 ?_
 simp only [go_sem]
 refine qrun_pure hops1 rfl rfl rfl (ndCompare_calls x.to y.to _ _) (CoL.refl _) rfl ?_
 refine qrun_eval 2 hops1 ?_
 simp only [go_sem]
 refine qrun_pure hops1 rfl rfl rfl (order_calls _ _ _) (CoL.refl _) rfl ?_
 refine qrun_eval 2 hops1 ?_
 simp only [go_sem]
 refine qrun_pure hops1 rfl rfl rfl (order_calls _ _ _) (CoL.refl _) rfl ?_
 refine qrun_pure hops1 rfl rfl rfl (cmpInt_calls _ _ _ _) (CoL.refl _) rfl ?_
 refine qrun_eval 1 hops1 ?_
 simp only [go_sem]
 refine qrun_pure hops1 rfl rfl rfl (or3_calls _ _ _ _ _ _) (CoL.refl _) rfl ?_
 refine qrun_last 0 hops1 ?_
 simp only [go_sem]
 refine aops_last 1 hops1 ?_
 simp only [go_sem]
 refine hKR1 _ ?_
 refine hK2 _ ?_
 refine awp_ret ?_
 refine ends_ev rfl ?_
 simp only [go_sem]
 exact Co.refl _
theorem edCmp_at : CmpAt Tryz.prog E.A 98 Ed 7 (okV encEd) cfEd := cmpAt_of (E := E) (fun _ => rfl) fun x y g d => edCompare_calls x y g d
theorem sortEd_calls (l : List Ed) (hl : l.length ≤ 1000000) (n : Nm) (g d : Nat) :
  ACalls E 129 [.own n l.length, .func (.func 98) [] []] [(n, .arr 78 7 (l.map encEd))] g d (.tup []) [(n, .arr 78 7 ((srt ltEd l).map encEd))] :=
 acalls_sort (E := E) (k := 7) (ok := okV encEd) (encB := encEd) Tryz.laySortEdge (by kernel_rfl) (by kernel_rfl) Tryz.call129 ag78 sz78 (by decide) (fun _ => ⟨rfl, rfl⟩)
  (fun G w vs b h => by
   have h' : Vs G w vs ([.bool b.frm.method, .string b.frm.name, .int .i64 b.frm.idx, .bool b.to.method, .string b.to.name, .int .i64 b.to.idx, .bool b.ins].map .val) := h
   rw [Vs.toVals h']
   rfl)
  goodEd.swo E_keep edCmp_at Tryz.call98 (by omega) (fun l2 hp ho => ed_uniq hp ho) n g d
def SE (l : List Ed) : Prop := l.Pairwise fun a b => cfEd a b < 0
def putE : List Ed → Ed → List Ed
 | [], e => [e]
 | x :: r, e => if cfEd e x = 0 then x :: r else if cfEd e x < 0 then e :: x :: r else x :: putE r e
theorem putE_mem (e x : Ed) : ∀ l, x ∈ putE l e ↔ x = e ∨ x ∈ l
 | [] => by simp [putE]
 | y :: r => by
  have ih := putE_mem e x r
  unfold putE
  split
  ·rename_i h
   have := cfEd_zero.1 h
   subst this
   constructor
   ·exact .inr
   ·rintro (rfl | h)
    ·exact List.mem_cons_self
    ·exact h
  ·split
   ·simp
   ·simp only [List.mem_cons, ih]
    constructor
    ·rintro (h | h | h)
     ·exact .inr (.inl h)
     ·exact .inl h
     ·exact .inr (.inr h)
    ·rintro (h | h | h)
     ·exact .inr (.inl h)
     ·exact .inl h
     ·exact .inr (.inr h)
theorem putE_se (e : Ed) : ∀ l, SE l → SE (putE l e)
 | [], _ => by simp [putE, SE]
 | y :: r, h => by
  have ih := putE_se e r (List.Pairwise.of_cons h)
  have hy := (List.pairwise_cons.1 h).1
  unfold putE
  split
  ·exact h
  ·rename_i h0
   split
   ·rename_i h1
    refine List.pairwise_cons.2 ⟨fun z hz => ?_, h⟩
    rcases List.mem_cons.1 hz with rfl | hz
    ·exact h1
    ·have h2 := goodEd.trans e y z (by omega) (by have := hy z hz; omega)
     have h3 := hy z hz
     rcases Int.lt_or_eq_of_le h2 with h4 | h4
     ·exact h4
     ·have h5 := cfEd_zero.1 h4
      subst h5
      have := goodEd.anti e y
      omega
   ·refine List.pairwise_cons.2 ⟨fun z hz => ?_, ih⟩
    rcases (putE_mem e z r).1 hz with rfl | hz
    ·have := goodEd.anti y z
     omega
    ·exact hy z hz
theorem putE_len (e : Ed) : ∀ l : List Ed, (putE l e).length ≤ l.length + 1
 | [] => by simp [putE]
 | y :: r => by
  have ih := putE_len e r
  unfold putE
  split
  ·simp
  ·split
   ·simp
   ·simp only [List.length_cons]
    omega
theorem se_uniq : ∀ {a b : List Ed}, SE a → SE b → (∀ x, x ∈ a ↔ x ∈ b) → a = b
 | [], [], _, _, _ => rfl
 | [], y :: b, _, _, h => absurd ((h y).2 List.mem_cons_self) (by simp)
 | x :: a, [], _, _, h => absurd ((h x).1 List.mem_cons_self) (by simp)
 | x :: a, y :: b, ha, hb, h => by
  have hx := (List.pairwise_cons.1 ha).1
  have hy := (List.pairwise_cons.1 hb).1
  have e : x = y := by
   rcases List.mem_cons.1 ((h x).1 List.mem_cons_self) with e | h1
   ·exact e
   rcases List.mem_cons.1 ((h y).2 List.mem_cons_self) with e | h2
   ·exact e.symm
   have := hx y h2
   have := hy x h1
   have := goodEd.anti x y
   omega
  subst e
  have hn : ∀ {l : List Ed}, (∀ z ∈ l, cfEd x z < 0) → x ∉ l := fun hl hm => by
   have := hl x hm
   have := goodEd.zero x
   omega
  rw [se_uniq (List.Pairwise.of_cons ha) (List.Pairwise.of_cons hb) fun z => ?_]
  have hz := h z
  simp only [List.mem_cons] at hz
  constructor
  ·intro h1
   rcases hz.1 (.inr h1) with rfl | h2
   ·exact absurd h1 (hn hx)
   ·exact h2
  ·intro h1
   rcases hz.2 (.inr h1) with rfl | h2
   ·exact absurd h1 (hn hy)
   ·exact h2
theorem putAll_mem (x : Ed) : ∀ (m l : List Ed), x ∈ m.foldl putE l ↔ x ∈ m ∨ x ∈ l
 | [], l => by simp
 | e :: m, l => by
  rw [List.foldl_cons, putAll_mem x m, putE_mem, List.mem_cons]
  constructor
  ·rintro (h | h | h)
   ·exact .inl (.inr h)
   ·exact .inl (.inl h)
   ·exact .inr h
  ·rintro ((h | h) | h)
   ·exact .inr (.inl h)
   ·exact .inl h
   ·exact .inr (.inr h)
theorem putAll_se : ∀ (m l : List Ed), SE l → SE (m.foldl putE l)
 | [], _, h => h
 | e :: m, l, h => by
  rw [List.foldl_cons]
  exact putAll_se m _ (putE_se e l h)
theorem putAll_len : ∀ (m l : List Ed), (m.foldl putE l).length ≤ l.length + m.length
 | [], l => by simp
 | e :: m, l => by
  have := putAll_len m (putE l e)
  have := putE_len e l
  rw [List.foldl_cons, List.length_cons]
  omega
def setE (m : List Ed) : List Ed := m.foldl putE []
theorem setE_mem (m : List Ed) (x : Ed) : x ∈ setE m ↔ x ∈ m := by simp [setE, putAll_mem]
theorem setE_se (m : List Ed) : SE (setE m) := putAll_se m [] List.Pairwise.nil
theorem srt_set {m k : List Ed} (hn : k.Nodup) (h : ∀ x, x ∈ k ↔ x ∈ m) : srt ltEd k = setE m := by
 have hperm := srt_perm ltEd k
 refine se_uniq ?_ (setE_se m) fun x => by rw [hperm.mem_iff, h, setE_mem]
 have ho := srt_ord goodEd.swo k
 have hd : (srt ltEd k).Nodup := hperm.nodup_iff.2 hn
 refine (List.Pairwise.and ho hd).imp ?_
 rintro a b ⟨h1, h2⟩
 have h1' : ¬ cfEd b a < 0 := by simpa [ltEd, Go.Proofs.ltOf] using h1
 have := goodEd.anti a b
 have := goodEd.anti b a
 have : cfEd a b ≠ 0 := fun e => h2 (cfEd_zero.1 e)
 omega
def edV (e : Ed) : Value := .agg #[.bool e.frm.method, .string e.frm.name, .int .i64 e.frm.idx, .bool e.to.method, .string e.to.name, .int .i64 e.to.idx, .bool e.ins]
theorem edV_inj {a b : Ed} (h : edV a = edV b) : a = b := by
 obtain ⟨⟨a1, a2, a3⟩, ⟨a4, a5, a6⟩, a7⟩ := a
 obtain ⟨⟨b1, b2, b3⟩, ⟨b4, b5, b6⟩, b7⟩ := b
 simp only [edV, Value.agg.injEq, Array.mk.injEq, List.cons.injEq, Value.bool.injEq, Value.string.injEq, Value.int.injEq, true_and, and_true] at h
 obtain ⟨rfl, rfl, rfl, rfl, rfl, rfl, rfl⟩ := h
 rfl
def edE (l : List Ed) : List (Value × D) := l.map fun e => (edV e, .val (.bool true))
open Classical in
noncomputable def addE (l : List Ed) (e : Ed) : List Ed := if e ∈ l then l else l ++ [e]
open Classical in
theorem mput_ed : ∀ (l : List Ed) (e : Ed), mput (edE l) (edV e) (.val (.bool true)) = edE (addE l e)
 | [], n => by simp [edE, mput, addE]
 | x :: r, n => by
  have ih := mput_ed r n
  unfold addE at ih ⊢
  simp only [edE, List.map_cons, mput, List.cons_append] at ih ⊢
  by_cases h : x = n
  ·simp [h]
  ·rw [if_neg (fun h' => h (edV_inj h')), ih]
   by_cases hm : n ∈ r <;> simp [hm, Ne.symm h]
theorem edE_len (l : List Ed) : (edE l).length = l.length := by simp [edE]
open Classical in
theorem addE_mem (l : List Ed) (s x : Ed) : x ∈ addE l s ↔ x = s ∨ x ∈ l := by
 unfold addE
 split
 ·rename_i h
  constructor
  ·exact .inr
  ·rintro (rfl | h')
   ·exact h
   ·exact h'
 ·rw [List.mem_append, List.mem_singleton, or_comm]
open Classical in
theorem addE_nodup (l : List Ed) (s : Ed) (h : l.Nodup) : (addE l s).Nodup := by
 unfold addE
 split
 ·exact h
 ·rename_i hs
  rw [List.nodup_append]
  refine ⟨h, by simp, fun a ha b hb => ?_⟩
  rw [List.mem_singleton.1 hb]
  intro e
  exact hs (e ▸ ha)
theorem addAll_mem (x : Ed) : ∀ (m l : List Ed), x ∈ m.foldl addE l ↔ x ∈ m ∨ x ∈ l
 | [], l => by simp
 | e :: m, l => by
  rw [List.foldl_cons, addAll_mem x m, addE_mem, List.mem_cons]
  constructor
  ·rintro (h | h | h)
   ·exact .inl (.inr h)
   ·exact .inl (.inl h)
   ·exact .inr h
  ·rintro ((h | h) | h)
   ·exact .inr (.inl h)
   ·exact .inl h
   ·exact .inr (.inr h)
theorem addAll_nodup : ∀ (m l : List Ed), l.Nodup → (m.foldl addE l).Nodup
 | [], _, h => h
 | e :: m, l, h => by
  rw [List.foldl_cons]
  exact addAll_nodup m _ (addE_nodup l e h)
theorem addE_len (l : List Ed) (e : Ed) : (addE l e).length ≤ l.length + 1 := by
 unfold addE
 split <;> simp
theorem addAll_len : ∀ (m l : List Ed), (m.foldl addE l).length ≤ l.length + m.length
 | [], l => by simp
 | e :: m, l => by
  have := addAll_len m (addE l e)
  have := addE_len l e
  rw [List.foldl_cons, List.length_cons]
  omega
theorem srt_addAll (m : List Ed) : srt ltEd (m.foldl addE []) = setE m := srt_set (addAll_nodup m [] List.nodup_nil) fun x => by simp [addAll_mem]
end Go.Proofs.T
