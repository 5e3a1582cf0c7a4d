/- A part of the proof, under no conditions of its own: ZAU. -/
import Derived.Test.YtjicgnbcelhoiaaGreatDoorZAT
import Derived.Test.YtjicgnbcelhoiaaGreatDoorZAH
import Derived.Test.YtjicgnbcelhoiaaGreatDoorZAF
import Derived.Scope
namespace Go.Proofs.T
open Go Go.Ab Go.RowKit
def bareEx (e : Ex) : Bool := (nodesEx e).all fun x => decide (x.targs.length = 0)
def plainDe (d : Dec) : Bool := decide (d.formals.length + d.vars.length + d.sig.formals.length = 0) && (bareEx d.body && d.sigs.all fun s => decide (s.formals.length = 0))
def plainPr (p : Prg) : Bool := (tyPr p).all (fun t => decide (t.args.length = 0)) && (p.decls.all plainDe && bareEx p.main)
theorem all_no {α : Type} {f : α → Bool} {l : List α} {k : Nat} (h : k < l.length) (hf : f l[k] = false) : l.all f = false := by
 rw [List.all_eq_false]
 exact ⟨_, List.getElem_mem h, by simp [hf]⟩
theorem all_more {α : Type} {f : α → Bool} {l : List α} {k : Nat} (h : k < l.length) (ha : (l.take k).all f = true) (hf : f l[k] = true) : (l.take (k + 1)).all f = true := by
 rw [List.take_add_one, List.getElem?_eq_getElem h, List.all_append, ha]
 simp [hf]
set_option maxRecDepth 100000 in
theorem bare06_calls (e : Ex) (he : okEx e) (hN : (nodesEx e).length ≤ 1000000) (g d : Nat) : ACalls E 38 [encEx e] [] g d (dB (bareEx e)) [] := by
 have hb := fun g r => list05_calls e he hN g r
 unfold bareEx
 generalize nodesEx e = L at *
 refine acalls_of_awp (fn := Tryz.f38) (N := 20) Tryz.call38 Tryz.func38 rfl rfl (by simp) ?_
 simp only [go_sem]
 refine awp_seq_k (fun K1 hK1 => ?_)
 refine awp_plain 2 (by kernel_rfl) rfl (fun g0 hg0 => ?_)
 simp only [go_sem]
 refine hK1 _ ?_
 refine awp_seq_k (fun K2 hK2 => ?_)
 refine awp_ops (by kernel_rfl) rfl (fun g1 hg1 ops1 KR1 hops1 hKR1 => ?_)
 refine aops_eval 1 hops1 ?_
 simp only [go_sem]
 refine aops_pure hops1 rfl rfl rfl (hb _ _) (CoL.refl _) ?_
 refine aops_last 1 hops1 ?_
 simp only [go_sem]
 refine hKR1 _ ?_
 refine hK2 _ ?_
 refine awp_seq_k (fun K3 hK3 => ?_)
 refine awp_seq_k (fun K4 hK4 => ?_)
 refine awp_plain 1 (by kernel_rfl) rfl (fun g2 hg2 => ?_)
 simp only [go_sem]
 refine hK4 _ ?_
 refine awp_block ?_
 refine awp_loop (fun m st => ∃ k, k ≤ L.length ∧ m = L.length - k ∧ (L.take k).all (fun x => decide (x.targs.length = 0)) = true ∧ Le { env := [(3, slEx L), (4, dN k)], σ := [] } st) L.length ?_ ?_
 ·refine ⟨0, Nat.zero_le _, rfl, rfl, le_of ?_⟩
  simp only [go_sem]
  all_goals first | done | exact rfl | exact ⟨rfl, rfl⟩ | trivial | omega
 ·rintro m st ⟨k, hk, rfl, hall, hle⟩
  refine awp_keep hle ?_
  clear hle
  refine awp_seq_k (fun K5 hK5 => ?_)
  refine awp_seq_k (fun K6 hK6 => ?_)
  by_cases hlt : k < L.length
  ·have hgm := getM (f := encEx) hlt
   have h1 := @all_no _ (fun x : Ex => decide (x.targs.length = 0)) L k hlt
   have h2 := @all_more _ (fun x : Ex => decide (x.targs.length = 0)) L k hlt hall
   generalize L[k] = X at *
   refine awp_plain 4 (by kernel_rfl) rfl (fun g3 hg3 => ?_)
   simp only [go_sem, hlt, decide_true]
   refine hK6 _ ?_
   refine awp_t rfl ?_
   refine awp_skip ?_
   refine hK5 _ ?_
   refine awp_seq_k (fun K7 hK7 => ?_)
   refine awp_block ?_
   refine awp_seq_k (fun K8 hK8 => ?_)
   by_cases h0 : 0 < (X.targs.length : Int)
   ·refine awp_plain 7 (by kernel_rfl) rfl (fun g5 hg5 => ?_)
    simp only [go_sem, hgm, h0, decide_true]
    refine hK8 _ ?_
    refine awp_t rfl ?_
    refine awp_seq_k (fun K9 hK9 => ?_)
    refine awp_plain 1 (by kernel_rfl) rfl (fun g6 hg6 => ?_)
    simp only [go_sem]
    refine hK9 _ ?_
    refine awp_ret ?_
    refine ends_ev rfl ?_
    simp only [go_sem]
    exact Co.of_eq (by rw [h1 (decide_eq_false (by omega))])
   ·refine awp_plain 7 (by kernel_rfl) rfl (fun g5 hg5 => ?_)
    simp only [go_sem, hgm, h0, decide_false]
    refine hK8 _ ?_
    refine awp_f rfl ?_
    refine awp_skip ?_
    refine hK7 _ ?_
    refine awp_plain 3 (by kernel_rfl) rfl (fun g4 hg4 => ?_)
    simp only [go_sem]
    try simp (disch := omega) only [wrapN]
    refine ⟨_, ?_, k + 1, hlt, rfl, h2 (decide_eq_true (by omega)), le_of ?_⟩
    ·omega
    simp only [go_sem]
    all_goals first | done | exact rfl | exact ⟨rfl, rfl⟩ | trivial | omega
  ·have : k = L.length := by omega
   subst this
   rw [List.take_length] at hall
   refine awp_plain 4 (by kernel_rfl) rfl (fun g3 hg3 => ?_)
   simp only [go_sem, hlt, decide_false]
   refine hK6 _ ?_
   refine awp_f rfl ?_
   refine awp_exit ?_
   refine hK3 _ ?_
   refine awp_seq_k (fun K10 hK10 => ?_)
   refine awp_plain 1 (by kernel_rfl) rfl (fun g7 hg7 => ?_)
   simp only [go_sem]
   refine hK10 _ ?_
   refine awp_ret ?_
   refine ends_ev rfl ?_
   simp only [go_sem]
   exact Co.of_eq (by rw [hall])
set_option maxRecDepth 100000 in
theorem plain06_calls (p : Prg) (hp : smPr p) (hw : wN (prTys p) ≤ 1000000) (hN : ∀ d ∈ p.decls, (nodesEx d.body).length ≤ 1000000) (hM : (nodesEx p.main).length ≤ 1000000) (g d : Nat) : ACalls E 17 [encPr p] [] g d (dB (plainPr p)) [] := by
 have ht := fun g r => types06_calls p hp hw g r
 have hm := fun g r => bare06_calls p.main (smEx.ok _ hp.2) hM g r
 have hL := tyPr_le p
 obtain ⟨⟨k1, k2⟩, k3⟩ := hp
 unfold plainPr
 generalize tyPr p = L at *
 refine acalls_of_awp (fn := Tryz.f17) (N := 72) Tryz.call17 Tryz.func17 rfl rfl (by simp) ?_
 simp only [go_sem]
 refine awp_seq_k (fun K1 hK1 => ?_)
 refine awp_plain 2 (by kernel_rfl) rfl (fun g0 hg0 => ?_)
 simp only [go_sem]
 refine hK1 _ ?_
 refine awp_seq_k (fun K2 hK2 => ?_)
 refine awp_ops (by kernel_rfl) rfl (fun g1 hg1 ops1 KR1 hops1 hKR1 => ?_)
 refine aops_eval 1 hops1 ?_
 simp only [go_sem]
 refine aops_pure hops1 rfl rfl rfl (ht _ _) (CoL.refl _) ?_
 refine aops_last 1 hops1 ?_
 simp only [go_sem]
 refine hKR1 _ ?_
 refine hK2 _ ?_
 refine awp_seq_k (fun K3 hK3 => ?_)
 refine awp_seq_k (fun K4 hK4 => ?_)
 refine awp_plain 1 (by kernel_rfl) rfl (fun g2 hg2 => ?_)
 simp only [go_sem]
 refine hK4 _ ?_
 refine awp_block ?_
 refine awp_loop (fun m st => ∃ k, k ≤ L.length ∧ m = L.length - k ∧ (L.take k).all (fun x => decide (x.args.length = 0)) = true ∧ Le { env := [(1, .ptr ⟨g0, 1, 0⟩ 0), (3, slTy L), (4, dN k)], σ := [(⟨g0, 1, 0⟩, .box 30 (prC p))] } st) L.length ?_ ?_
 ·refine ⟨0, Nat.zero_le _, rfl, rfl, le_of ?_⟩
  simp only [go_sem]
  all_goals first | done | exact rfl | exact ⟨rfl, rfl⟩ | trivial | omega
 ·rintro m st ⟨k, hk, rfl, hall, hle⟩
  refine awp_keep hle ?_
  clear hle
  refine awp_seq_k (fun K5 hK5 => ?_)
  refine awp_seq_k (fun K6 hK6 => ?_)
  by_cases hlt : k < L.length
  ·have hgm := getM (f := encTy) hlt
   have h1 := @all_no _ (fun x : Ty => decide (x.args.length = 0)) L k hlt
   have h2 := @all_more _ (fun x : Ty => decide (x.args.length = 0)) L k hlt hall
   generalize L[k] = X at *
   refine awp_plain 4 (by kernel_rfl) rfl (fun g3 hg3 => ?_)
   simp only [go_sem, hlt, decide_true]
   refine hK6 _ ?_
   refine awp_t rfl ?_
   refine awp_skip ?_
   refine hK5 _ ?_
   refine awp_seq_k (fun K7 hK7 => ?_)
   refine awp_block ?_
   refine awp_seq_k (fun K8 hK8 => ?_)
   by_cases h0 : 0 < (X.args.length : Int)
   ·refine awp_plain 7 (by kernel_rfl) rfl (fun g5 hg5 => ?_)
    simp only [go_sem, hgm, h0, decide_true]
    refine hK8 _ ?_
    refine awp_t rfl ?_
    refine awp_seq_k (fun K9 hK9 => ?_)
    refine awp_plain 1 (by kernel_rfl) rfl (fun g6 hg6 => ?_)
    simp only [go_sem]
    refine hK9 _ ?_
    refine awp_ret ?_
    refine ends_ev rfl ?_
    simp only [go_sem]
    exact Co.of_eq (by rw [h1 (decide_eq_false (by omega)), Bool.false_and])
   ·refine awp_plain 7 (by kernel_rfl) rfl (fun g5 hg5 => ?_)
    simp only [go_sem, hgm, h0, decide_false]
    refine hK8 _ ?_
    refine awp_f rfl ?_
    refine awp_skip ?_
    refine hK7 _ ?_
    refine awp_plain 3 (by kernel_rfl) rfl (fun g4 hg4 => ?_)
    simp only [go_sem]
    try simp (disch := omega) only [wrapN]
    refine ⟨_, ?_, k + 1, hlt, rfl, h2 (decide_eq_true (by omega)), le_of ?_⟩
    ·omega
    simp only [go_sem]
    all_goals first | done | exact rfl | exact ⟨rfl, rfl⟩ | trivial | omega
  ·have : k = L.length := by omega
   subst this
   rw [List.take_length] at hall
   have hallL := hall
   refine awp_plain 4 (by kernel_rfl) rfl (fun g3 hg3 => ?_)
   simp only [go_sem, hlt, decide_false]
   refine hK6 _ ?_
   refine awp_f rfl ?_
   refine awp_exit ?_
   refine hK3 _ ?_
   refine awp_seq_k (fun K10 hK10 => ?_)
   refine awp_seq_k (fun K11 hK11 => ?_)
   refine awp_plain 1 (by kernel_rfl) rfl (fun g7 hg7 => ?_)
   simp only [go_sem]
   refine hK11 _ ?_
   refine awp_block ?_
   refine awp_loop (fun m st => ∃ k, k ≤ p.decls.length ∧ m = p.decls.length - k ∧ (p.decls.take k).all plainDe = true ∧ Le { env := [(1, .ptr ⟨g0, 1, 0⟩ 0), (5, dN k)], σ := [(⟨g0, 1, 0⟩, .box 30 (prC p))] } st) p.decls.length ?_ ?_
   ·refine ⟨0, Nat.zero_le _, rfl, rfl, le_of ?_⟩
    simp only [go_sem]
    all_goals first | done | exact rfl | exact ⟨rfl, rfl⟩ | trivial | omega
   ·rintro m st ⟨k, hk, rfl, hall, hle⟩
    refine awp_keep hle ?_
    clear hle
    refine awp_seq_k (fun K12 hK12 => ?_)
    refine awp_seq_k (fun K13 hK13 => ?_)
    by_cases hlt : k < p.decls.length
    ·have hgm := getM (f := encDe) hlt
     have hmem := List.getElem_mem hlt
     have hX := k2 _ hmem
     have hXb := hN _ hmem
     have h1 := @all_no _ plainDe p.decls k hlt
     have h2 := @all_more _ plainDe p.decls k hlt hall
     refine awp_plain 5 (by kernel_rfl) rfl (fun g8 hg8 => ?_)
     simp only [go_sem, hlt, decide_true]
     refine hK13 _ ?_
     refine awp_t rfl ?_
     refine awp_skip ?_
     refine hK12 _ ?_
     refine awp_seq_k (fun K14 hK14 => ?_)
     refine awp_block ?_
     refine awp_seq_k (fun K15 hK15 => ?_)
     generalize p.decls[k] = X at *
     have hb := fun g r => bare06_calls X.body (smEx.ok _ hX.2.2.2.2.2.2.2) hXb g r
     refine awp_plain 7 (by kernel_rfl) rfl (fun g10 hg10 => ?_)
     simp only [go_sem, hgm]
     refine hK15 _ ?_
     refine awp_seq_k (fun K16 hK16 => ?_)
     refine awp_seq_k (fun K17 hK17 => ?_)
     have hn10_g0 : g10 ≠ g0 := fresh_g hg10 1 0 (by simp [go_sem])
     have hf := hX.2.1.1
     have hsl := hX.2.2.2.1.1
     have hv := hX.2.2.2.2.2.1.1
     have hg := hX.2.2.2.2.2.2.1.2.1.1
     by_cases h0 : 0 < (X.formals.length : Int) + X.vars.length + X.sig.formals.length
     ·refine awp_plain 19 (by kernel_rfl) rfl (fun g11 hg11 => ?_)
      simp only [go_sem, Ne.symm hn10_g0, List.nil_append]
      try simp (disch := omega) only [wrapN]
      try simp only [go_sem, h0, decide_true, List.nil_append]
      try simp (disch := omega) only [wrapN, wrapB, Int.tdiv_eq_ediv_of_nonneg, Int.tmod_eq_emod_of_nonneg]
      refine hK17 _ ?_
      refine awp_t rfl ?_
      refine awp_seq_k (fun K18 hK18 => ?_)
      refine awp_plain 1 (by kernel_rfl) rfl (fun g12 hg12 => ?_)
      simp only [go_sem, List.nil_append]
      refine hK18 _ ?_
      refine awp_ret ?_
      refine ends_ev rfl ?_
      simp only [go_sem]
      exact Co.of_eq (by rw [h1 (by unfold plainDe; rw [decide_eq_false (by omega)]; rfl), Bool.false_and, Bool.and_false])
     ·cases hbb : bareEx X.body with
      | false =>
       refine awp_ops (by kernel_rfl) rfl (fun g11 hg11 ops11 KR11 hops11 hKR11 => ?_)
       refine aops_eval 16 hops11 ?_
       simp only [go_sem, Ne.symm hn10_g0, List.nil_append]
       try simp (disch := omega) only [wrapN]
       try simp only [go_sem, h0, decide_false, Ne.symm hn10_g0, List.nil_append]
       try simp (disch := omega) only [wrapN, wrapB, Int.tdiv_eq_ediv_of_nonneg, Int.tmod_eq_emod_of_nonneg]
       refine aops_pure hops11 rfl rfl rfl (hb _ _) (CoL.refl _) ?_
       refine aops_last 2 hops11 ?_
       simp only [go_sem, hbb, Bool.not_false, List.nil_append]
       refine hKR11 _ ?_
       refine hK17 _ ?_
       refine awp_t rfl ?_
       refine awp_seq_k (fun K19 hK19 => ?_)
       refine awp_plain 1 (by kernel_rfl) rfl (fun g12 hg12 => ?_)
       simp only [go_sem, List.nil_append]
       refine hK19 _ ?_
       refine awp_ret ?_
       refine ends_ev rfl ?_
       simp only [go_sem]
       exact Co.of_eq (by rw [h1 (by unfold plainDe; rw [hbb, Bool.false_and, Bool.and_false]), Bool.false_and, Bool.and_false])
      | true =>
       refine awp_ops (by kernel_rfl) rfl (fun g11 hg11 ops11 KR11 hops11 hKR11 => ?_)
       refine aops_eval 16 hops11 ?_
       simp only [go_sem, Ne.symm hn10_g0, List.nil_append]
       try simp (disch := omega) only [wrapN]
       try simp only [go_sem, h0, decide_false, Ne.symm hn10_g0, List.nil_append]
       try simp (disch := omega) only [wrapN, wrapB, Int.tdiv_eq_ediv_of_nonneg, Int.tmod_eq_emod_of_nonneg]
       refine aops_pure hops11 rfl rfl rfl (hb _ _) (CoL.refl _) ?_
       refine aops_last 2 hops11 ?_
       simp only [go_sem, hbb, Bool.not_true, List.nil_append]
       refine hKR11 _ ?_
       refine hK17 _ ?_
       refine awp_f rfl ?_
       refine awp_skip ?_
       refine hK16 _ ?_
       refine awp_seq_k (fun K20 hK20 => ?_)
       refine awp_plain 1 (by kernel_rfl) rfl (fun g13 hg13 => ?_)
       simp only [go_sem, List.nil_append]
       refine hK20 _ ?_
       refine awp_block ?_
       refine awp_loop (fun m st => ∃ j, j ≤ X.sigs.length ∧ m = X.sigs.length - j ∧ (X.sigs.take j).all (fun s => decide (s.formals.length = 0)) = true ∧ Le { env := [(1, .ptr ⟨g0, 1, 0⟩ 0), (5, dN k), (6, .ptr ⟨g10, 6, 0⟩ 0), (7, dN j)], σ := [(⟨g0, 1, 0⟩, .box 30 (prC p)), (⟨g10, 6, 0⟩, .box 71 (deC X))] } st) X.sigs.length ?_ ?_
       ·refine ⟨0, Nat.zero_le _, rfl, rfl, le_of ?_⟩
        simp only [go_sem, hn10_g0, Ne.symm hn10_g0, deC, siC, exC, List.cons_append, List.nil_append]
        all_goals first | done | exact rfl | exact ⟨rfl, rfl⟩ | trivial | omega
       ·rintro m st ⟨j, hj, rfl, hallj, hle⟩
        refine awp_keep hle ?_
        clear hle
        refine awp_seq_k (fun K21 hK21 => ?_)
        refine awp_seq_k (fun K22 hK22 => ?_)
        by_cases hlj : j < X.sigs.length
        ·have hgj := getM (f := encSi) hlj
         have hmj := List.getElem_mem hlj
         have j1 := @all_no _ (fun x : Sig => decide (x.formals.length = 0)) X.sigs j hlj
         have j2 := @all_more _ (fun x : Sig => decide (x.formals.length = 0)) X.sigs j hlj hallj
         generalize X.sigs[j] = Y at *
         refine awp_plain 5 (by kernel_rfl) rfl (fun g14 hg14 => ?_)
         simp only [go_sem, hlj, decide_true, Ne.symm hn10_g0, deC, siC, exC, List.cons_append, List.nil_append]
         refine hK22 _ ?_
         refine awp_t rfl ?_
         refine awp_skip ?_
         refine hK21 _ ?_
         refine awp_seq_k (fun K23 hK23 => ?_)
         refine awp_block ?_
         refine awp_seq_k (fun K24 hK24 => ?_)
         by_cases h5 : 0 < (Y.formals.length : Int)
         ·refine awp_plain 8 (by kernel_rfl) rfl (fun g16 hg16 => ?_)
          simp only [go_sem, hgj, h5, decide_true, Ne.symm hn10_g0, siC, List.nil_append]
          refine hK24 _ ?_
          refine awp_t rfl ?_
          refine awp_seq_k (fun K25 hK25 => ?_)
          refine awp_plain 1 (by kernel_rfl) rfl (fun g17 hg17 => ?_)
          simp only [go_sem, List.nil_append]
          refine hK25 _ ?_
          refine awp_ret ?_
          refine ends_ev rfl ?_
          simp only [go_sem]
          exact Co.of_eq (by rw [h1 (by unfold plainDe; rw [j1 (decide_eq_false (by omega)), Bool.and_false, Bool.and_false]), Bool.false_and, Bool.and_false])
         ·refine awp_plain 8 (by kernel_rfl) rfl (fun g16 hg16 => ?_)
          simp only [go_sem, hgj, h5, decide_false, Ne.symm hn10_g0, siC, List.nil_append]
          refine hK24 _ ?_
          refine awp_f rfl ?_
          refine awp_skip ?_
          refine hK23 _ ?_
          refine awp_plain 3 (by kernel_rfl) rfl (fun g15 hg15 => ?_)
          simp only [go_sem, deC, siC, exC, List.cons_append, List.nil_append]
          try simp (disch := omega) only [wrapN]
          refine ⟨_, ?_, j + 1, hlj, rfl, j2 (decide_eq_true (by omega)), le_of ?_⟩
          ·omega
          simp only [go_sem, hn10_g0, Ne.symm hn10_g0]
          all_goals first | done | exact rfl | exact ⟨rfl, rfl⟩ | trivial | omega
        ·have : j = X.sigs.length := by omega
         subst this
         rw [List.take_length] at hallj
         refine awp_plain 5 (by kernel_rfl) rfl (fun g14 hg14 => ?_)
         simp only [go_sem, hlj, decide_false, Ne.symm hn10_g0, deC, siC, exC, List.cons_append, List.nil_append]
         refine hK22 _ ?_
         refine awp_f rfl ?_
         refine awp_exit ?_
         refine hK14 _ ?_
         refine awp_plain 3 (by kernel_rfl) rfl (fun g9 hg9 => ?_)
         simp only [go_sem, exC, List.cons_append, List.nil_append]
         try simp (disch := omega) only [wrapN]
         refine ⟨_, ?_, k + 1, hlt, rfl, h2 (by unfold plainDe; rw [hallj, hbb, decide_eq_true (by omega)]; rfl), le_of ?_⟩
         ·omega
         simp only [go_sem, hn10_g0]
         all_goals first | done | exact rfl | exact ⟨rfl, rfl⟩ | trivial | omega
    ·have : k = p.decls.length := by omega
     subst this
     rw [List.take_length] at hall
     refine awp_plain 5 (by kernel_rfl) rfl (fun g8 hg8 => ?_)
     simp only [go_sem, hlt, decide_false]
     refine hK13 _ ?_
     refine awp_f rfl ?_
     refine awp_exit ?_
     refine hK10 _ ?_
     refine awp_seq_k (fun K26 hK26 => ?_)
     refine awp_ops (by kernel_rfl) rfl (fun g18 hg18 ops18 KR18 hops18 hKR18 => ?_)
     refine aops_eval 2 hops18 ?_
     simp only [go_sem]
     refine aops_pure hops18 rfl rfl rfl (hm _ _) (CoL.refl _) ?_
     refine aops_last 1 hops18 ?_
     simp only [go_sem]
     refine hKR18 _ ?_
     refine hK26 _ ?_
     refine awp_ret ?_
     refine ends_ev rfl ?_
     simp only [go_sem]
     exact Co.of_eq (by rw [hallL, hall, Bool.true_and, Bool.true_and])
end Go.Proofs.T
namespace Go.Proofs.T
open Go Go.Ab Go.RowKit
theorem visE_bare (s : Sc) {t : Ty} (h : t.args.length = 0) : visE s t = [] := by
 rw [visE_eq, List.eq_nil_of_length_eq_zero h]
 rfl
theorem flatNil {α β : Type} (f : α → List β) : ∀ l : List α, (∀ x ∈ l, f x = []) → l.flatMap f = []
 | [], _ => rfl
 | x :: r, h => by rw [List.flatMap_cons, h x List.mem_cons_self, flatNil f r fun y hy => h y (List.mem_cons_of_mem _ hy)]; rfl
theorem right_type {x : Ex} (h : rightEx x = true) (hk : ¬ (x.kind = 3 ∨ x.kind = 5)) : x.type.args.length = 0 := by
 rw [rightEx_eq, Bool.and_eq_true] at h
 have h2 := h.2
 unfold headOk at h2
 rw [Bool.and_eq_true, Bool.and_eq_true] at h2
 have h3 := h2.2.1
 unfold typOk typed at h3
 rw [if_neg (by simpa using hk)] at h3
 simp only [Bool.and_eq_true, decide_eq_true_eq] at h3
 exact h3.2.2.1
theorem siE_bare (s : Sc) {x : Sig} (h : ∀ t ∈ siTys x, t.args.length = 0) : siE s x = [] := by
 unfold siTys at h
 unfold siE
 rw [flatNil _ _ fun f hf => visE_bare s (h _ (List.mem_append_left _ (List.mem_append_left _ (List.mem_map.2 ⟨f, hf, rfl⟩)))),
  flatNil _ _ fun f hf => visE_bare s (h _ (List.mem_append_left _ (List.mem_append_right _ (List.mem_map.2 ⟨f, hf, rfl⟩)))),
  visE_bare s (h _ (List.mem_append_right _ (List.mem_singleton.2 rfl)))]
 rfl
section
variable {p : Prg} (hr : rightPr p = true) (hp : plainPr p = true)
include hp
theorem plain_ty {t : Ty} (h : t ∈ tyPr p) : t.args.length = 0 := by
 unfold plainPr at hp
 rw [Bool.and_eq_true] at hp
 simpa using List.all_eq_true.1 hp.1 t h
theorem plain_de {d : Dec} (h : d ∈ p.decls) : d.formals = [] ∧ d.vars = [] ∧ d.sig.formals = [] ∧ (∀ x ∈ nodesEx d.body, x.targs = []) ∧ ∀ s ∈ d.sigs, s.formals = [] := by
 unfold plainPr at hp
 rw [Bool.and_eq_true, Bool.and_eq_true] at hp
 have h1 := List.all_eq_true.1 hp.2.1 d h
 unfold plainDe bareEx at h1
 rw [Bool.and_eq_true, Bool.and_eq_true] at h1
 obtain ⟨h2, h3, h4⟩ := h1
 have h2 := of_decide_eq_true h2
 exact ⟨List.eq_nil_of_length_eq_zero (by omega), List.eq_nil_of_length_eq_zero (by omega), List.eq_nil_of_length_eq_zero (by omega),
  fun x hx => List.eq_nil_of_length_eq_zero (of_decide_eq_true (List.all_eq_true.1 h3 x hx)), fun s hs => List.eq_nil_of_length_eq_zero (of_decide_eq_true (List.all_eq_true.1 h4 s hs))⟩
theorem plain_tyDe {d : Dec} (h : d ∈ p.decls) {t : Ty} (ht : t ∈ tyDe d) : t.args.length = 0 := plain_ty hp (by
 unfold tyPr
 exact List.mem_append_left _ (List.mem_flatMap.2 ⟨d, h, ht⟩))
include hr
theorem plain_edges : prE p = [] := by
 unfold prE
 refine flatNil _ _ fun d hd => ?_
 have ht := fun t => @plain_tyDe _ hp d hd t
 obtain ⟨h1, h2, h3, h4, h5⟩ := plain_de hp hd
 have hrd := right_dec hr d hd
 unfold tyDe at ht
 unfold deE
 by_cases h : d.kind = 3
 ·rw [if_pos h] at ht ⊢
  have hb := rightNodes d.body (right_body hrd h)
  unfold dmE
  rw [siE_bare _ fun t hx => ht t (List.mem_append_right _ (List.mem_append_left _ hx)), flatNil _ _ fun x hx => ?_]
  ·rfl
  ·unfold exE
   have hty : x.type.args.length = 0 := by
    by_cases hk : x.kind = 3 ∨ x.kind = 5
    ·refine ht _ (List.mem_append_right _ (List.mem_append_right _ ?_))
     unfold bodyTys
     refine List.mem_flatMap.2 ⟨x, hx, ?_⟩
     unfold bodyT
     rw [if_pos hk]
     exact List.mem_append_right _ (List.mem_singleton.2 rfl)
    ·exact right_type (hb x hx) hk
   rw [visE_bare _ hty, h4 x hx]
   split <;> simp [argsE]
 ·rw [if_neg h] at ht ⊢
  unfold dsE
  rw [flatNil _ _ fun f hf => visE_bare _ (ht _ (List.mem_append_left _ (List.mem_append_left _ (List.mem_append_left _ (List.mem_map.2 ⟨f, hf, rfl⟩))))),
   flatNil _ _ fun f hf => visE_bare _ (ht _ (List.mem_append_left _ (List.mem_append_left _ (List.mem_append_right _ (List.mem_map.2 ⟨f, hf, rfl⟩))))),
   flatNil _ _ fun x hx => siE_bare _ fun t hy => ht t (List.mem_append_left _ (List.mem_append_right _ (List.mem_flatMap.2 ⟨x, hx, hy⟩)))]
  rfl
end
end Go.Proofs.T
namespace Go.Proofs.T
open Go Go.Ab Go.RowKit
def hasS (x : Nd) (s : Sig) : Bool := x.method && (decide (s.name = x.name) && decide (x.idx < (s.formals.length : Int)))
def hasD (x : Nd) (d : Dec) : Bool := (!x.method && (decide (d.name = x.name) && decide (x.idx < (d.formals.length : Int)))) || (d.sigs ++ [d.sig]).any (hasS x)
noncomputable def mostF (s : Str) (l : List Dec) : Nat := l.foldl (fun m d => if d.name = s then max m d.formals.length else m) 0
noncomputable def memB (x : Nd) (l : List Nd) : Bool := by classical exact decide (x ∈ l)
theorem memB_true {x : Nd} {l : List Nd} : memB x l = true ↔ x ∈ l := by unfold memB; simp
theorem memB_succ {x : Nd} {l : List Nd} {k : Nat} (h : k < l.length) : memB x (l.take (k + 1)) = true ↔ memB x (l.take k) = true ∨ l[k] = x := by
 rw [memB_true, memB_true, List.take_add_one, List.getElem?_eq_getElem h, List.mem_append]
 simp [eq_comm]
end Go.Proofs.T
namespace Go.Proofs.T
open Go Go.Ab Go.RowKit
theorem nodup_len {α : Type} : ∀ (l m : List α), l.Nodup → (∀ x ∈ l, x ∈ m) → l.length ≤ m.length
 | [], _, _, _ => Nat.zero_le _
 | x :: l, m, hn, h => by
  obtain ⟨s, t, rfl⟩ := List.append_of_mem (h x List.mem_cons_self)
  obtain ⟨h1, h2⟩ := List.nodup_cons.1 hn
  have := nodup_len l (s ++ t) h2 fun y hy => by
   have := h y (List.mem_cons_of_mem _ hy)
   simp only [List.mem_append, List.mem_cons] at this ⊢
   rcases this with h | rfl | h
   ·exact .inl h
   ·exact absurd hy h1
   ·exact .inr h
  simp only [List.length_append, List.length_cons] at this ⊢
  omega
noncomputable def frN (l : List Dec) : Nat → Nat
 | 0 => 0
 | k + 1 => frN l k + (match l[k]? with | some d => d.formals.length - mostF d.name (l.take k) | none => 0)
def okNd2 (x : Nd) : Prop := okNd x ∧ -9223372036854775808 ≤ x.idx ∧ x.idx ≤ 9223372036854775807
end Go.Proofs.T
namespace Go.Proofs.T
open Go Go.Ab Go.RowKit
inductive Rch (l : List Ed) (n : Nd) : Nd → Prop
 | one {e : Ed} : e ∈ l → e.frm = n → Rch l n e.to
 | more {e : Ed} : Rch l n e.frm → e ∈ l → Rch l n e.to
theorem Rch.mono {l m : List Ed} (h : ∀ e ∈ l, e ∈ m) {n x : Nd} (hr : Rch l n x) : Rch m n x := by
 induction hr with
 | one h1 h2 => exact .one (h _ h1) h2
 | more _ h2 ih => exact .more ih (h _ h2)
theorem Rch.target {l : List Ed} {n x : Nd} (h : Rch l n x) : ∃ e ∈ l, e.to = x := by
 cases h with
 | one h1 _ => exact ⟨_, h1, rfl⟩
 | more _ h2 => exact ⟨_, h2, rfl⟩
abbrev Ms := List (Nd × Ed)
def keysM (es : Ms) : List Nd := es.map (·.1)
def allN (n : Nd) (es : Ms) : List Nd := n :: keysM es
theorem allN_len (n : Nd) (es : Ms) : (allN n es).length = es.length + 1 := by simp [allN, keysM]
structure Bfs (l : List Ed) (n : Nd) (es : Ms) : Prop where
 nodup : (keysM es).Nodup
 to : ∀ p ∈ es, p.2 ∈ l ∧ p.2.to = p.1
 back : ∀ (i : Nat) p, es[i]? = some p → p.2.frm = n ∨ ∃ j q, j < i ∧ es[j]? = some q ∧ q.1 = p.2.frm
theorem Bfs.nil (l : List Ed) (n : Nd) : Bfs l n [] := ⟨List.nodup_nil, (fun p h => nomatch h), (fun i p h => by simp at h)⟩
theorem Bfs.add {l : List Ed} {n : Nd} {es : Ms} (h : Bfs l n es) {e : Ed} (he : e ∈ l) (hn : e.to ∉ keysM es) (hf : e.frm ∈ allN n es) : Bfs l n (es ++ [(e.to, e)]) := by
 refine ⟨?_, fun p hp => ?_, fun i p hp => ?_⟩
 ·unfold keysM at *
  rw [List.map_append, List.nodup_append]
  refine ⟨h.nodup, by simp, fun a ha b hb => ?_⟩
  simp only [List.map_cons, List.map_nil, List.mem_singleton] at hb
  subst hb
  rintro rfl
  exact hn ha
 ·rcases List.mem_append.1 hp with hp | hp
  ·exact h.to p hp
  ·rw [List.mem_singleton.1 hp]
   exact ⟨he, rfl⟩
 ·by_cases hi : i < es.length
  ·rw [List.getElem?_append_left hi] at hp
   rcases h.back i p hp with h1 | ⟨j, q, h1, h2, h3⟩
   ·exact .inl h1
   ·exact .inr ⟨j, q, h1, by rw [List.getElem?_append_left (by omega)]; exact h2, h3⟩
  ·rw [List.getElem?_append_right (by omega)] at hp
   have h0 : i - es.length = 0 := by
    have := (List.getElem?_eq_some_iff.1 hp).1
    simp at this
    omega
   rw [h0] at hp
   cases hp
   rcases List.mem_cons.1 hf with h1 | h1
   ·exact .inl h1
   ·obtain ⟨q, hq, h2⟩ := List.mem_map.1 h1
    obtain ⟨j, hj, h3⟩ := List.mem_iff_getElem.1 hq
    exact .inr ⟨j, q, by omega, by rw [List.getElem?_append_left hj, List.getElem?_eq_getElem hj, h3], h2⟩
theorem keysM_add (es : Ms) (p : Nd × Ed) : keysM (es ++ [p]) = keysM es ++ [p.1] := by simp [keysM]
theorem allN_add (n : Nd) (es : Ms) (p : Nd × Ed) : allN n (es ++ [p]) = allN n es ++ [p.1] := by simp [allN, keysM_add]
def Clo (l : List Ed) (x : Nd) (es : Ms) : Prop := ∀ e ∈ l, e.frm = x → e.to ∈ keysM es
theorem Clo.add {l : List Ed} {x : Nd} {es : Ms} (h : Clo l x es) (p : Nd × Ed) : Clo l x (es ++ [p]) := fun e he hf => by
 rw [keysM_add]
 exact List.mem_append_left _ (h e he hf)
theorem Bfs.rch {l : List Ed} {n : Nd} {es : Ms} (h : Bfs l n es) : ∀ (i : Nat) p, es[i]? = some p → Rch l n p.1 := by
 intro i
 induction i using Nat.strongRecOn with
 | _ i ih =>
  intro p hp
  obtain ⟨h1, h2⟩ := h.to p (List.mem_of_getElem? hp)
  rw [← h2]
  rcases h.back i p hp with h3 | ⟨j, q, hj, hq, h4⟩
  ·exact .one h1 h3
  ·refine .more ?_ h1
   rw [← h4]
   exact ih j hj q hq
theorem Bfs.all {l : List Ed} {n : Nd} {es : Ms} (h : Bfs l n es) (hc : ∀ x ∈ allN n es, Clo l x es) (x : Nd) : x ∈ keysM es ↔ Rch l n x := by
 constructor
 ·intro hx
  obtain ⟨p, hp, rfl⟩ := List.mem_map.1 hx
  obtain ⟨i, hi, h3⟩ := List.mem_iff_getElem.1 hp
  exact h.rch i p (by rw [List.getElem?_eq_getElem hi, h3])
 ·intro hx
  induction hx with
  | one h1 h2 => exact hc n List.mem_cons_self _ h1 h2
  | more _ h2 ih => exact hc _ (List.mem_cons_of_mem _ ih) _ h2 rfl
theorem Bfs.len {l : List Ed} {n : Nd} {es : Ms} (h : Bfs l n es) : es.length ≤ l.length := by
 have h1 : (es.map (·.2)).Nodup := by
  have h2 : (es.map (·.2)).map (·.to) = keysM es := by
   unfold keysM
   rw [List.map_map]
   exact List.map_congr_left fun p hp => (h.to p hp).2
  have h3 := h.nodup
  rw [← h2] at h3
  exact List.Pairwise.of_map _ (fun a b hab e => hab (by rw [e])) h3
 have := nodup_len _ l h1 fun e he => by
  obtain ⟨p, hp, rfl⟩ := List.mem_map.1 he
  exact (h.to p hp).1
 simpa using this
def ndV (x : Nd) : Value := .agg #[.bool x.method, .string x.name, .int .i64 x.idx]
theorem ndV_inj {a b : Nd} (h : ndV a = ndV b) : a = b := by
 obtain ⟨a1, a2, a3⟩ := a
 obtain ⟨b1, b2, b3⟩ := b
 simp only [ndV, Value.agg.injEq, Array.mk.injEq, List.cons.injEq, Value.bool.injEq, Value.string.injEq, Value.int.injEq, true_and, and_true] at h
 obtain ⟨rfl, rfl, rfl⟩ := h
 rfl
def ksM : KS := .agg [.boo, .str, .num .i64]
attribute [go_sem] ksM
def encM (es : Ms) : List (Value × D) := es.map fun p => (ndV p.1, encEd p.2)
theorem encM_len (es : Ms) : (encM es).length = es.length := by simp [encM]
open Classical in
noncomputable def lookM : Ms → Nd → Option Ed
 | [], _ => none
 | p :: r, x => if p.1 = x then some p.2 else lookM r x
open Classical in
theorem mget_m : ∀ (es : Ms) (x : Nd), mget (encM es) (ndV x) = (lookM es x).map encEd
 | [], _ => rfl
 | p :: r, x => by
  have ih := mget_m r x
  unfold encM at ih ⊢
  simp only [List.map_cons, mget, lookM]
  by_cases h : p.1 = x
  ·simp [h]
  ·rw [if_neg (fun h' => h (ndV_inj h')), if_neg h, ih]
open Classical in
theorem mput_m : ∀ (es : Ms) (x : Nd) (e : Ed), lookM es x = none → mput (encM es) (ndV x) (encEd e) = encM (es ++ [(x, e)])
 | [], _, _, _ => rfl
 | p :: r, x, e, h => by
  unfold lookM at h
  split at h
  ·cases h
  ·rename_i hne
   have ih := mput_m r x e h
   unfold encM at ih ⊢
   simp only [List.map_cons, mput, List.cons_append]
   rw [if_neg (fun h' => hne (ndV_inj h')), ih]
theorem lookM_none : ∀ (es : Ms) (x : Nd), lookM es x = none ↔ x ∉ keysM es
 | [], x => by simp [lookM, keysM]
 | p :: r, x => by
  have ih := lookM_none r x
  unfold keysM at ih ⊢
  unfold lookM
  split
  ·rename_i h
   simp [h]
  ·rename_i h
   rw [ih]
   simp only [List.map_cons, List.mem_cons, not_or]
   exact ⟨fun h1 => ⟨fun e => h e.symm, h1⟩, fun h1 => h1.2⟩
theorem lookM_mem : ∀ (es : Ms) (x : Nd) (e : Ed), lookM es x = some e → (x, e) ∈ es
 | [], x, e, h => by simp [lookM] at h
 | p :: r, x, e, h => by
  unfold lookM at h
  split at h
  ·rename_i h1
   cases h
   subst h1
   exact List.mem_cons_self
  ·exact List.mem_cons_of_mem _ (lookM_mem r x e h)
end Go.Proofs.T
namespace Go.Ab
open Go Go.RowKit
section
variable {P : Program} (w : World)
theorem run_append_room_at (t ty e : TypeId) (i : TypeInfo) (ht : P.underlying t = some (.slice e)) (hi : P.info? e = some i)
  (g o sLen sCap : Nat) (cur : Array Value) (hg : w.heap[g]? = some (.cells cur e (0, 0)))
  (a : Addr) (m c : Nat) (news : List Value) (hl : news.length = m * i.size) (hnews : ∀ j u, news[j]? = some u → w.cell? (a.add j) = some u) (h1 : ∀ u ∈ news, u.oneCell' = true)
  (hroom : sLen + m ≤ sCap) (hfit : o + sLen * i.size + news.length ≤ cur.size) :
  (Builtin.append_ #[t, t] ty #[.slice (some ⟨g, o, none⟩) sLen sCap, .slice (some a) m c]).run P w =
   .ok (.slice (some ⟨g, o, none⟩) (sLen + m) sCap) (w.setRow g (cur.toList.take (o + sLen * i.size) ++ news ++ cur.toList.drop (o + sLen * i.size + news.length)).toArray) := by
 have hf := run_firstCells_some (P := P) w i.size m a m c news hl hnews
 have hst := run_storeCells_at P g (o + sLen * i.size) e news 0 cur w hg (by simpa using hfit) h1
 simp only [Nat.add_zero] at hst
 simp [Builtin.append_, run_underlying ht, sizeOf, typeInfo, hi, Builtin.lenOf, hroom, hf, Addr.add_lit, hst]
end
section
variable {E : Ctx} {N : Nat} {ops : List Oper} {ds : List (Option Tmp)} {g : Nat} {K : St → Prop} {st : St} {o : Oper} {r : List Oper}
def TOpX (E : Ctx) (g : Nat) (o : Oper) (e : Operand → D) (κ : Kp) (S : D → Sto → Prop) : Prop :=
 ∀ w0, E.A w0 → ∀ G w (a : Act), WF w0 G w → (∀ x ∈ o.op.operands, V G w (a.eval x) (e x)) → Objs w0 G w κ → (∀ d, o.dst = some d → g < G.top ∧ ∀ j, G.ρ ⟨g, d, j⟩ = none) →
  ∀ (K : Act → World → Prop) (Q' : Exit → Act → World → Prop),
   (∀ G' w' x v σ', S v σ' → WF w0 G' w' → V G' w' x v → Objs w0 G' w' (get σ') → Step (rsv g o.dst) G w κ G' w' (get σ') → K (a.put o.dst x) w') → ∀ r, o.wpIn (Fr r) 0 E.P a w K Q'
theorem aops_x {S : D → Sto → Prop} (hds : ops.map (·.dst) = ds) (hw : wantL ds st.env o.guard = some true) (hq : TOpX E g o (ev E st.env) (get st.σ) S) (h : ∀ v σ', S v σ' → AOps E N ops g K r (st.env' o.dst v σ')) : AOps E N ops g K (o :: r) st := by
 intro w0 hA G w a hN hr hg hnd hfr Q' hQ rr
 simp only [wpListIn]
 rw [if_pos (wantD_sound hr (by rw [← wantL_eq hds]; exact hw))]
 refine hq w0 hA G w a hr.wf (fun x _ => hr.ev hA x) hr.objs (fun d hd => ⟨hg, (hfr o (by simp) d hd).2⟩) _ _ (fun G' w' x v σ hS hw' hv ho hs => ?_) rr
 have hr' := hr.put' (v := v) (dst := o.dst) hs rfl hw' ho hv (fun d hd => by rw [hN]; exact (hfr o List.mem_cons_self d hd).1)
 have hσ : (st.env' o.dst v σ).σ = σ := by cases o.dst <;> rfl
 have hnd' : (r.filterMap (·.dst)).Nodup ∧ ∀ d, o.dst = some d → d ∉ r.filterMap (·.dst) := by
  cases hd : o.dst with
  | none => simp only [List.filterMap_cons, hd] at hnd; exact ⟨hnd, fun d h => by cases h⟩
  | some d => simp only [List.filterMap_cons, hd, List.nodup_cons] at hnd; exact ⟨hnd.2, fun d' h => by cases h; exact hnd.1⟩
 refine h v σ hS w0 hA G' w' _ (by rw [put_size, hN]) hr' (Nat.lt_of_lt_of_le hg hs.top) hnd'.1 (fun o' ho' d hd => ⟨(hfr o' (by simp [ho']) d hd).1, fun j => hs.fresh (by exact hg) ((hfr o' (by simp [ho']) d hd).2 j) fun ⟨_, he⟩ => ?_⟩) Q' (fun G2 st2 a2 w2 h1 h2 h3 h4 => hQ G2 st2 a2 w2 h1 h2 ?_ h4) rr
 ·exact hnd'.2 d he (List.mem_filterMap.2 ⟨o', ho', hd⟩)
 ·rw [hσ] at h3
  exact (hs.weaken fun n _ hn => hn.1).trans h3
def AppQ (g d : Nat) (n : Nm) (el : TypeId) (k off len : Nat) (rows rows2 : List D) (σ : Sto) (v : D) (σ' : Sto) : Prop :=
 ∃ off' rows', off' ≤ off ∧ off' + (len + rows2.length) = rows'.length ∧ rows'.drop off' = rows.drop off ++ rows2 ∧ v = .osl ⟨g, d, 0⟩ k off' (len + rows2.length) ∧ σ' = (⟨g, d, 0⟩, .arr el k rows') :: del σ n
theorem Flat.dropq {G : Gh} {w : World} {k : Nat} {rows : List D} {xs : List Value} (h : Flat G w k rows (xs[·]?)) (off : Nat) : Flat G w k (rows.drop off) ((xs.drop (off * k))[·]?) := by
 intro i r hr
 rw [List.getElem?_drop] at hr
 obtain ⟨h1, h2⟩ := h _ r hr
 refine ⟨h1, fun j d hd => ?_⟩
 obtain ⟨x, hx, hv⟩ := h2 j d hd
 refine ⟨x, ?_, hv⟩
 simp only at hx ⊢
 rw [List.getElem?_drop, ← hx, Nat.add_mul]
 congr 1
 omega
theorem topx_appendq {e : Operand → D} {t el : TypeId} {so x : Operand} (hop : o.op = .call { callee := .builtin .append, args := #[so, x], argTypes := #[t, t] }) {d : Nat} (hd : o.dst = some d)
  {n : Nm} {k off len : Nat} (hs : e so = .osl n k off len) {σ : Sto} {rows rows2 : List D} (hκ : get σ n = some (.arr el k rows)) (hend : off + len = rows.length) {xf : Bool} (hx : e x = .sl xf rows2)
  (he : elemS E.P t = some el) (hk : szOf E.P el = some k) {bs : Nat} (hbs : bytesOf E.P el = some bs) {z : Value} (hz : zeroOf E.P el = some z) (hzs : z.cells.size = k) (hk0 : 0 < k) (hok : okRows k rows2) (hne : 0 < rows2.length)
  (h63 : rows.length + rows2.length ≤ 9223372036854775807) (hb : (rows.length + rows2.length) * bs ≤ 140737488355328) :
  TOpX E g o e (get σ) (AppQ g d n el k off len rows rows2 σ) := by
 intro w0 hA G w a hw hV ho hf K Q' hK
 obtain ⟨hg, hfresh⟩ := hf d hd
 have hn2 := hfresh 0
 have hvs := hV so (by simp [hop, Op.operands, Call.operands])
 have hvx := hV x (by simp [hop, Op.operands, Call.operands])
 rw [hs] at hvs
 rw [hx] at hvx
 obtain ⟨v, hρ, ⟨xs, hown, hfl⟩, hnF⟩ := ho.ob n _ hκ
 obtain ⟨i, hi⟩ : ∃ i, E.P.info? el = some i := by
  unfold szOf at hk
  cases hi : E.P.info? el with
  | none => rw [hi] at hk; cases hk
  | some i => exact ⟨i, rfl⟩
 have hik : i.size = k := by simpa [szOf, hi] using hk
 have hib : i.bytes = bs := by simpa [bytesOf, hi] using hbs
 have hiz : i.zero = some z := by simpa [zeroOf, hi] using hz
 have ht := elemS_spec he
 have hbw : w0.heap.size ≤ w.heap.size := hw.below.size
 rcases sl_cells hvx hok hk0 with ⟨_, rfl⟩ | ⟨ad, c, news, hsrc, hl, hcell, hone, hfl2⟩
 ·simp at hne
 -- the slice
 obtain ⟨b, C, cap, a0, hv, heval, hcap, hle, ha0⟩ : ∃ b C cap a0, v = .slice (some ⟨b, 0, none⟩) rows.length C ∧ a.eval so = .slice (some a0) len cap ∧ off + cap = C ∧ len ≤ cap ∧ (0 < cap → a0 = ⟨b, off * k, none⟩) := by
  generalize a.eval so = u at hvs
  cases hvs with
  | @osl _ b _ _ _ cap L C a0 hρ' hC hle ha =>
   rw [hρ] at hρ'
   cases hρ'
   rcases hown.2 with ⟨hc, _⟩ | ⟨_, _, _, hc, _⟩
   ·cases hc
   ·cases hc
    exact ⟨b, C, cap, a0, rfl, rfl, hC, hle, ha⟩
 subst hv
 rcases hown.2 with ⟨hc, _⟩ | ⟨b', C', cur, hc, hbb, hh, hnc, hcm, hcs, htake⟩
 ·cases hc
 cases hc
 have hxl : xs.length = rows.length * k := hown.1
 have hVm : ∀ (n' : Nm) (v' : Value) (w' : World), n' = ⟨g, d, 0⟩ → Gr w w' (some b) → ∀ y d', V G w y d' → V (G.upd n' v') w' y d' := fun n' v' w' hn' hgr y d' h => by
  subst hn'
  exact h.upd hn2 fun b2 hF => hgr.block b2 (hw.lt b2 hF) fun e => hnF b rfl (by cases e; exact hF)
 have fin : ∀ (off' : Nat) (rows' : List D) (v' : Value) (L' C2 : Nat) (b2 : Nat) (a2 : Addr) (cap2 : Nat) (w' : World) (xs' : List Value), (Builtin.append_ #[t, t] o.type #[.slice (some a0) len cap, .slice (some ad) rows2.length c]).run E.P w = .ok (.slice (some a2) (len + rows2.length) cap2) w' →
   v' = .slice (some ⟨b2, 0, none⟩) L' C2 → off' + cap2 = C2 → len + rows2.length ≤ cap2 → a2 = ⟨b2, off' * k, none⟩ → w'.ownsRow w0.heap.size el k v' rows'.length xs' → Gr w w' (some b) → (b2 = b ∨ (w.heap.size ≤ b2 ∧ b2 < w'.heap.size)) →
   Flat G w k rows' (xs'[·]?) → off' ≤ off → off' + (len + rows2.length) = rows'.length → rows'.drop off' = rows.drop off ++ rows2 → ∀ r, o.wpIn (Fr r) 0 E.P a w K Q' := by
  intro off' rows' v' L' C2 b2 a2 cap2 w' xs' hrun hv' hC2 hle2 ha2 hown' hgr hb2 hfl' h0 h1 h2
  subst hv'
  obtain ⟨g1, g2, g3⟩ := turn_obj (ob' := .arr el k rows') hw ho hκ hρ hn2 hg (v' := .slice (some ⟨b2, 0, none⟩) L' C2) (w' := w') hgr (fun b3 hb3 => by
   simp only [blk, Option.some.injEq] at hb3
   subst hb3
   rcases hb2 with h | h
   ·exact .inl (by rw [h]; rfl)
   ·exact .inr h) ⟨xs', hown', hfl'.mono (hVm _ _ _ rfl hgr)⟩
  have hκ' : Kp.put (Kp.del (get σ) n) ⟨g, d, 0⟩ (.arr el k rows') = get ((⟨g, d, 0⟩, .arr el k rows') :: del σ n) := by
   funext m
   simp only [Kp.put, Kp.del, get, get_del]
  rw [hκ'] at g2 g3
  have hex : (execOp a.eval o).run E.P w = .ok (.value (.slice (some a2) (len + rows2.length) cap2)) w' := by
   simp [execOp, hop, resolve, invoke, builtin, heval, hsrc, hrun]
  refine op_val hex ?_
  refine hK _ _ _ _ _ ⟨off', rows', h0, h1, h2, rfl, rfl⟩ g1 (.osl (n := ⟨g, d, 0⟩) (b := b2) (L := L') (C := C2) (by simp [Gh.upd]) hC2 hle2 fun _ => ha2) g2 (g3.weaken fun m _ hm => by subst hm; exact ⟨rfl, hd⟩)
 by_cases hroom : len + rows2.length ≤ cap
 ·have ha1 := ha0 (by omega)
  subst ha1
  have e1 : off * k + len * k = rows.length * k := by rw [← Nat.add_mul, hend]
  have hfit : off * k + len * k + news.length ≤ cur.size := by
   rw [hl, e1, hcs, ← Nat.add_mul]
   exact Nat.mul_le_mul_right _ (by omega)
  have hrun := run_append_room_at (P := E.P) w t o.type el i ht hi b (off * k) len cap cur hh ad rows2.length c news (by rw [hik]; exact hl) hcell hone hroom (by rw [hik]; exact hfit)
  rw [hik, e1, htake] at hrun
  refine fin off (rows ++ rows2) (.slice (some ⟨b, 0, none⟩) (rows ++ rows2).length C) _ C b ⟨b, off * k, none⟩ cap _ (xs ++ news) hrun rfl hcap hroom rfl ?_ ?_ (.inl rfl) (Flat.append (G := G) (w := w) hfl hown.1 hfl2) (Nat.le_refl _) ?_ ?_
  ·refine ⟨by rw [List.length_append, List.length_append, hxl, hl, Nat.add_mul], .inr ⟨b, C, _, rfl, hbb, setRow_heap w b cur _ el _ hh, by rw [List.length_append]; omega, hcm, ?_, ?_⟩⟩
   ·have : xs.length ≤ cur.size := by rw [hxl]; omega
    simp only [List.size_toArray, List.length_append, List.length_drop, Array.length_toList]
    rw [← hcs, ← hxl]
    have : xs.length + news.length ≤ cur.size := by rw [hxl, ← e1]; exact hfit
    omega
   ·rw [List.length_append, Nat.add_mul, ← hxl, ← hl, ← List.length_append]
    simp only [List.append_assoc]
    rw [← List.append_assoc]
    exact List.take_left
  ·exact Gr.of ⟨rfl, rfl, rfl, by simp, fun k2 _ hk2 => setRow_other w b k2 _ fun e => hk2 (by rw [e])⟩ (run_drawn _ _ _ _ hrun)
  ·rw [List.length_append]
   omega
  ·rw [List.drop_append_of_le_length (by omega)]
 ·have holds : ∀ j u, (xs.drop (off * k))[j]? = some u → w.cell? (a0.add j) = some u := fun j u hu => by
   by_cases hc0 : 0 < cap
   ·rw [ha0 hc0, Addr.add_lit, cell_of_row w b (off * k + j) cur el (0, 0) hh]
    rw [List.getElem?_drop, ← htake, List.getElem?_take] at hu
    split at hu
    ·simpa using hu
    ·cases hu
   ·have : len = 0 := by omega
    have : off = rows.length := by omega
    rw [List.drop_eq_nil_of_le (by rw [hxl, this]; exact Nat.le_refl _)] at hu
    simp at hu
  have hol : (xs.drop (off * k)).length = len * k := by
   rw [List.length_drop, hxl, ← hend, Nat.add_mul]
   omega
  have hle63 : len + rows2.length ≤ 9223372036854775807 := by omega
  have hbl : (len + rows2.length) * bs ≤ 140737488355328 := Nat.le_trans (Nat.mul_le_mul_right _ (by omega)) hb
  have hrun := run_append_grow (P := E.P) w t o.type el i z ht hi hiz a0 len cap (xs.drop (off * k)) (by rw [hik]; exact hol) holds ad rows2.length c news (by rw [hik]; exact hl) hcell (by omega) (by omega) (growslice_fits (by omega) (by rw [hib]; exact hbl))
  have hge := grownCap_ge w (len + rows2.length) cap el
  have hcm2 : grownCap w (len + rows2.length) cap el ≤ maxLen := grownCap_le_maxLen w _ cap el (by simp only [maxLen]; omega)
  have hlen2 : (rows.drop off ++ rows2).length = len + rows2.length := by rw [List.length_append, List.length_drop]; omega
  have hnl : (xs.drop (off * k) ++ news).length = (len + rows2.length) * k := by rw [List.length_append, hol, hl, Nat.add_mul]
  refine fin 0 (rows.drop off ++ rows2) (.slice (some ⟨w.heap.size, 0, none⟩) (len + rows2.length) (grownCap w (len + rows2.length) cap el)) _ _ w.heap.size ⟨w.heap.size, 0, none⟩ _ _ (xs.drop (off * k) ++ news) hrun rfl (Nat.zero_add _) hge (by rw [Nat.zero_mul]) ?_ ?_ (.inr ⟨Nat.le_refl _, by simp⟩) ?_ (Nat.zero_le _) (by rw [hlen2, Nat.zero_add]) rfl
  ·rw [hlen2]
   refine ⟨hnl, .inr ⟨w.heap.size, _, _, rfl, hbw, heap_alloc_new w.drew _, hge, hcm2, ?_, ?_⟩⟩
   ·simp only [Array.size_append, List.size_toArray, size_zeroCells, hzs]
    rw [← List.length_append, hnl, ← Nat.add_mul]
    congr 1
    omega
   ·simp only [Array.toList_append, List.append_assoc]
    rw [← List.append_assoc, ← hnl]
    exact List.take_left
  ·exact Gr.of ⟨rfl, rfl, rfl, by simp, fun k2 hk2 _ => heap_alloc_old w.drew _ (by simpa using hk2)⟩ (run_drawn _ _ _ _ hrun)
  ·refine Flat.append (Flat.dropq (G := G) (w := w) hfl off) ?_ hfl2
   rw [hol, List.length_drop]
   congr 1
   omega
theorem aops_appq {t el : TypeId} {so x : Operand} {d : Nat} (hds : ops.map (·.dst) = ds) (hw : wantL ds st.env o.guard = some true) (hop : o.op = .call { callee := .builtin .append, args := #[so, x], argTypes := #[t, t] }) (hd : o.dst = some d)
  {n : Nm} {k off len : Nat} (hs : ev E st.env so = .osl n k off len) {xf : Bool} {rows2 : List D} (hx : ev E st.env x = .sl xf rows2)
  (he : elemS E.P t = some el) (hk : szOf E.P el = some k) {bs : Nat} (hbs : bytesOf E.P el = some bs) {z : Value} (hz : zeroOf E.P el = some z) (hzs : z.cells.size = k) (hk0 : 0 < k)
  (rows : List D) (hκ : get st.σ n = some (.arr el k rows)) (hend : off + len = rows.length) (hok : okRows k rows2) (hne : 0 < rows2.length) (h63 : rows.length + rows2.length ≤ 9223372036854775807 ∧ (rows.length + rows2.length) * bs ≤ 140737488355328)
  (h : ∀ off' rows', off' ≤ off → off' + (len + rows2.length) = rows'.length → rows'.drop off' = rows.drop off ++ rows2 → AOps E N ops g K r { env := (d, .osl ⟨g, d, 0⟩ k off' (len + rows2.length)) :: st.env, σ := (⟨g, d, 0⟩, .arr el k rows') :: del st.σ n }) : AOps E N ops g K (o :: r) st := by
 refine aops_x hds hw (topx_appendq hop hd hs hκ hend hx he hk hbs hz hzs hk0 hok hne h63.1 h63.2) ?_
 rintro v σ' ⟨off', rows', h0, h1, h2, rfl, rfl⟩
 have := h off' rows' h0 h1 h2
 rw [hd]
 exact this
end
section
variable {E : Ctx} {N : Nat} {st : St} {Q : Exit → St → Prop}
theorem awp_osl {c : Code} (t : Nat) (n : Nm) {el : TypeId} {k : Nat} {rows : List D} (ht : lk st.env t = some (.own n rows.length)) (hn : get st.σ n = some (.arr el k rows)) (hne : 0 < rows.length)
  (h : AWp E N c Q { env := (t, .osl n k 0 rows.length) :: st.env, σ := st.σ }) : AWp E N c Q st := by
 refine Sees.awp fun w0 _ G w a hr => ⟨G, ⟨(t, .osl n k 0 rows.length) :: st.env, st.σ⟩, ⟨hr.wf, fun u x hu => ?_, hr.objs, hr.defers⟩, .refl _ _ _ _, h⟩
 simp only [lk] at hu
 split at hu
 ·rename_i e
  subst e
  cases hu
  obtain ⟨h1, h2⟩ := hr.env _ _ ht
  refine ⟨h1, ?_⟩
  obtain ⟨v, hρ, ⟨xs, hown, _⟩, _⟩ := hr.objs.ob n _ hn
  generalize a.tmps.getD t undef = u at h2
  cases h2 with
  | own hρ' =>
   rw [hρ] at hρ'
   cases hρ'
   rcases hown.2 with ⟨_, h0⟩ | ⟨b, C, cur, hc, _, _, hnc, _⟩
   ·omega
   ·cases hc
    exact .osl hρ (Nat.zero_add _) hnc fun _ => by rw [Nat.zero_mul]
 ·exact hr.env u x hu
end
section
variable {E : Ctx} {N : Nat} {ops : List Oper} {ds : List (Option Tmp)} {g : Nat} {K : St → Prop} {st : St} {o : Oper} {r : List Oper}
theorem arr_lit {d : Nat} {e : Operand → D} {κ : Kp} {t el : TypeId} {n k : Nat} {ps : Array (Nat × Operand)} (hd : o.dst = some d) (hop : o.op = .buildSlice t n ps) (he : elemS E.P t = some el) (hk : szOf E.P el = some k)
  {rows : List D} (h : buildSliceD E.P t n (ps.toList.map fun p => (p.1, e p.2)) = some (.sl true rows)) : QOp E g o e κ (.own ⟨g, d, 0⟩ rows.length) [(⟨g, d, 0⟩, .arr el k rows)] := by
 unfold buildSliceD at h
 rw [he] at h
 simp only [hk] at h
 split at h
 ·rename_i k' z hk' hz
  cases hk'
  split at h
  ·rename_i hc
   obtain ⟨hzc, hle, hk0, hn0⟩ := hc
   cases hr : setRows k (List.replicate n (ofV z)) (ps.toList.map fun p => (p.1, e p.2)) with
   | none => rw [hr] at h; cases h
   | some rows' =>
    rw [hr] at h
    cases h
    intro w0 hA G w a hw hV ho hf K Q' hK
    obtain ⟨z1, z2⟩ := zeros_flat (G := G) (w := w) (n := n) hzc
    obtain ⟨cs', hfi, hs', hl', hfl⟩ := fillRows_run (G := G) (w := w) (k := k) (ps.toList.map fun p => (p.1, a.eval p.2)) (ps.toList.map fun p => (p.1, e p.2)) _ _ rows (by simp) (fun j p q hp hq => by
     simp only [List.getElem?_map, Option.map_eq_some_iff] at hp hq
     obtain ⟨y, hy, rfl⟩ := hp
     obtain ⟨y', hy', rfl⟩ := hq
     rw [hy] at hy'
     cases hy'
     refine ⟨rfl, hV y.2 ?_⟩
     simp only [hop, Op.operands, List.mem_toArray, List.mem_map]
     exact ⟨y, List.mem_of_getElem? hy, rfl⟩) z1 z2 hr
    have hrun : (execOp a.eval o).run E.P w = .ok (.value (.slice (some ⟨w.heap.size, 0, none⟩) n n)) (w.alloc (.cells cs' el)) := by
     have h24 : ¬ (n * k > 2 ^ 24) := by omega
     have h0 : ¬ (n * k = 0) := by
      have := Nat.mul_pos hn0 hk0
      omega
     have hf' : Instr.fill (fun i => some (i * k, k)) (Array.map (fun x => z.cells[x % z.cells.size]!) (Array.range (n * k))) (List.map (fun p => (p.1, a.eval p.2)) ps.toList) = some cs' := hfi
     simp only [execOp, hop, Sem.run_bind, Instr.buildSlice, run_underlying (elemS_spec he), Result.andThen_ok, run_sizeOf hk, h24, h0, ↓reduceIte, run_zeroValue hz, Sem.run_pure, Array.toList_map, hf', newRow, run_newObj]
     rfl
    have hln : rows.length = n := by simpa using hl'
    obtain ⟨hg, hfresh⟩ := hf d hd
    have hgr : Gr w (w.alloc (.cells cs' el)) none := gr_alloc w _
    have hnew : (w.alloc (.cells cs' el)).heap[w.heap.size]? = some (.cells cs' el (0, 0)) := heap_alloc_n w _
    have hsz : (w.alloc (.cells cs' el)).heap.size = w.heap.size + 1 := World.size_alloc _ _
    have hcl : cs'.toList.length = rows.length * k := by simpa using hs'
    obtain ⟨h1, h2, h3⟩ := new_obj hw ho (hfresh 0) hg (v := .slice (some ⟨w.heap.size, 0, none⟩) n n) (ob := .arr el k rows) hgr (fun b hb => by simp [blk] at hb; omega)
     ⟨cs'.toList, by
      rw [hln]
      refine ⟨by rw [hcl, hln], .inr ⟨w.heap.size, n, cs', rfl, hw.below.size, hnew, Nat.le_refl _, ?_, by rw [hs', hln], ?_⟩⟩
      ·have : n ≤ n * k := Nat.le_mul_of_pos_right n hk0
       simp only [maxLen]
       omega
      ·rw [← hln, ← hcl, List.take_length], fun i r hi => ⟨(hfl i r hi).1, fun j x hx => by
      obtain ⟨y, hy, hyv⟩ := (hfl i r hi).2 j x hx
      refine ⟨y, by simpa using hy, ?_⟩
      exact hyv.upd (hfresh 0) fun b hF => heap_alloc_o w _ b (hw.lt b hF)⟩⟩
    refine op_val hrun ?_
    refine hK _ _ _ h1 ?_ (by rw [get_single]; exact h2) ?_
    ·rw [hln]
     exact .own (by simp [Gh.upd])
    ·rw [get_single]
     exact h3.weaken fun n _ hn => by subst hn; exact ⟨rfl, hd⟩
  ·cases h
 ·cases h
theorem aops_lit {d : Nat} {t el : TypeId} {n k : Nat} {ps : Array (Nat × Operand)} (hds : ops.map (·.dst) = ds) (hw : wantL ds st.env o.guard = some true) (hd : o.dst = some d) (hop : o.op = .buildSlice t n ps) (he : elemS E.P t = some el) (hk : szOf E.P el = some k)
  (rows : List D) (hb : buildSliceD E.P t n (ps.toList.map fun p => (p.1, ev E st.env p.2)) = some (.sl true rows)) (h : AOps E N ops g K r { env := (d, .own ⟨g, d, 0⟩ rows.length) :: st.env, σ := (⟨g, d, 0⟩, .arr el k rows) :: st.σ }) : AOps E N ops g K (o :: r) st := by
 refine aops_q (by rw [← wantL_eq hds]; exact hw) (arr_lit hd hop he hk hb) ?_
 rw [hd]
 exact h
end
end Go.Ab
namespace Go.Ab
open Go Go.RowKit
section
variable {E : Ctx} {N : Nat} {Q : Exit → St → Prop} {st : St}
def noGotoQ (Q : Exit → St → Prop) : Exit → St → Prop
 | .goto _, _ => False
 | e, s => Q e s
theorem awp_scope {c : Code} (hE : E.rd = false) (h : AWp E N c (noGotoQ Q) st) : AWp E N (.scope c) Q st := by
 intro w0 hA G w a hN hr r hd
 obtain rfl := hd hE
 rw [fr_none]
 refine wpIn_wide.2 (wp_scope_straight ?_)
 have h2 := h w0 hA G w a hN hr none hd
 rw [fr_none] at h2
 refine wp_mono (wpIn_wide.1 h2) ?_
 rintro e a' w' ⟨G', st', k1, k2, k3, k4⟩
 cases e with
 | goto l => exact k4.elim
 | _ => exact ⟨G', st', k1, k2, k3, k4⟩
theorem awp_label {l : Nat} (h : Q .normal st) : AWp E N (.label l) Q st :=
 fun _ _ G _ _ hN hr _ _ => wpIn_label ⟨G, st, hN, hr, .refl _ _ _ _, h⟩
end
end Go.Ab
namespace Go.Proofs.T
open Go Go.Ab Go.RowKit
set_option maxRecDepth 100000 in
theorem refHas_calls (L : List Nd) (hL : L.length ≤ 1000000) (x : Nd) (g d : Nat) : ACalls E 33 [slNd L, encNd x] [] g d (dB (memB x L)) [] := by
 refine acalls_of_awp (fn := Tryz.f33) (N := 18) Tryz.call33 Tryz.func33 rfl rfl (by simp) ?_
 simp only [go_sem]
 refine awp_seq_k (fun K1 hK1 => ?_)
 refine awp_plain 2 (by kernel_rfl) rfl (fun g0 hg0 => ?_)
 simp only [go_sem]
 refine hK1 _ ?_
 refine awp_seq_k (fun K2 hK2 => ?_)
 refine awp_seq_k (fun K3 hK3 => ?_)
 refine awp_plain 1 (by kernel_rfl) rfl (fun g1 hg1 => ?_)
 simp only [go_sem]
 refine hK3 _ ?_
 refine awp_block ?_
 refine awp_loop (fun m st => ∃ k, k ≤ L.length ∧ m = L.length - k ∧ memB x (L.take k) = false ∧ Le { env := [(0, slNd L), (3, .ptr ⟨g0, 3, 0⟩ 0), (5, dN k)], σ := [(⟨g0, 3, 0⟩, .box 32 (ndC x)) ] } st) L.length ?_ ?_
 ·refine ⟨0, Nat.zero_le _, rfl, by simp [memB], le_of ?_⟩
  simp only [go_sem]
  all_goals first | done | exact rfl | exact ⟨rfl, rfl⟩ | trivial | omega
 ·rintro m st ⟨k, hk, rfl, hno, hle⟩
  refine awp_keep hle ?_
  clear hle
  refine awp_seq_k (fun K4 hK4 => ?_)
  refine awp_seq_k (fun K5 hK5 => ?_)
  by_cases hlt : k < L.length
  ·have hgm := getM (f := encNd) hlt
   have hms := @memB_succ x L k hlt
   have hin := List.getElem_mem hlt
   generalize L[k] = Y at *
   refine awp_plain 4 (by kernel_rfl) rfl (fun g2 hg2 => ?_)
   simp only [go_sem, hlt, decide_true]
   refine hK5 _ ?_
   refine awp_t rfl ?_
   refine awp_skip ?_
   refine hK4 _ ?_
   refine awp_seq_k (fun K6 hK6 => ?_)
   refine awp_block ?_
   refine awp_seq_k (fun K7 hK7 => ?_)
   by_cases hY : Y = x
   ·have hT : memB x L = true := memB_true.2 (hY ▸ hin)
    subst hY
    refine awp_anyq (by kernel_rfl) rfl (fun g4 hg4 ops4 KR4 hops4 hKR4 => ?_)
    refine qrun_last 6 hops4 ?_
    simp only [go_sem, hgm, decide_true]
    refine hKR4 _ ?_
    refine hK7 _ ?_
    refine awp_t rfl ?_
    refine awp_seq_k (fun K8 hK8 => ?_)
    refine awp_plain 1 (by kernel_rfl) rfl (fun g5 hg5 => ?_)
    simp only [go_sem]
    refine hK8 _ ?_
    refine awp_ret ?_
    refine ends_ev rfl ?_
    simp only [go_sem]
    exact Co.of_eq (by rw [hT])
   ·have hne := ndEq hY
    refine awp_anyq (by kernel_rfl) rfl (fun g4 hg4 ops4 KR4 hops4 hKR4 => ?_)
    refine qrun_last 6 hops4 ?_
    simp only [go_sem, hgm, hne, decide_false]
    refine hKR4 _ ?_
    refine hK7 _ ?_
    refine awp_f rfl ?_
    refine awp_skip ?_
    refine hK6 _ ?_
    refine awp_plain 3 (by kernel_rfl) rfl (fun g3 hg3 => ?_)
    simp only [go_sem]
    try simp (disch := omega) only [wrapN]
    refine ⟨_, ?_, k + 1, hlt, rfl, Bool.eq_false_iff.2 fun e => (hms.1 e).elim (fun e => by rw [hno] at e; cases e) hY, le_of ?_⟩
    ·omega
    simp only [go_sem]
    all_goals first | done | exact rfl | exact ⟨rfl, rfl⟩ | trivial | omega
  ·have : k = L.length := by omega
   subst this
   rw [List.take_length] at hno
   refine awp_plain 4 (by kernel_rfl) rfl (fun g2 hg2 => ?_)
   simp only [go_sem, hlt, decide_false]
   refine hK5 _ ?_
   refine awp_f rfl ?_
   refine awp_exit ?_
   refine hK2 _ ?_
   refine awp_seq_k (fun K9 hK9 => ?_)
   refine awp_plain 1 (by kernel_rfl) rfl (fun g6 hg6 => ?_)
   simp only [go_sem]
   refine hK9 _ ?_
   refine awp_ret ?_
   refine ends_ev rfl ?_
   simp only [go_sem]
   exact Co.of_eq (by rw [hno])
set_option maxRecDepth 100000 in
theorem refHasO_calls (L : List Nd) (hL : L.length ≤ 1000000) (x : Nd) (q c : Nat) (g d : Nat) : ACalls E 33 [.own ⟨q, c, 0⟩ L.length, encNd x] [(⟨q, c, 0⟩, .arr 32 3 (L.map encNd))] g d (dB (memB x L)) [(⟨q, c, 0⟩, .arr 32 3 (L.map encNd))] := by
 refine acalls_of_awp (fn := Tryz.f33) (N := 18) Tryz.call33 Tryz.func33 rfl rfl (by simp) ?_
 simp only [go_sem]
 refine awp_seq_k (fun K1 hK1 => ?_)
 refine awp_plain 2 (by kernel_rfl) rfl (fun g0 hg0 => ?_)
 simp only [go_sem]
 refine hK1 _ ?_
 refine awp_seq_k (fun K2 hK2 => ?_)
 refine awp_seq_k (fun K3 hK3 => ?_)
 have hn0_q : g0 ≠ q := fresh_g hg0 c 0 (by simp [go_sem])
 refine awp_plain 1 (by kernel_rfl) rfl (fun g1 hg1 => ?_)
 simp only [go_sem]
 refine hK3 _ ?_
 refine awp_block ?_
 refine awp_loop (fun m st => ∃ k, k ≤ L.length ∧ m = L.length - k ∧ memB x (L.take k) = false ∧ Le { env := [(0, .own ⟨q, c, 0⟩ L.length), (3, .ptr ⟨g0, 3, 0⟩ 0), (5, dN k)], σ := [(⟨g0, 3, 0⟩, .box 32 (ndC x)) , (⟨q, c, 0⟩, .arr 32 3 (L.map encNd))] } st) L.length ?_ ?_
 ·refine ⟨0, Nat.zero_le _, rfl, by simp [memB], le_of ?_⟩
  simp only [go_sem, hn0_q, Ne.symm hn0_q]
  all_goals first | done | exact rfl | exact ⟨rfl, rfl⟩ | trivial | omega
 ·rintro m st ⟨k, hk, rfl, hno, hle⟩
  refine awp_keep hle ?_
  clear hle
  refine awp_seq_k (fun K4 hK4 => ?_)
  refine awp_seq_k (fun K5 hK5 => ?_)
  by_cases hlt : k < L.length
  ·have hgm := getM (f := encNd) hlt
   have hms := @memB_succ x L k hlt
   have hin := List.getElem_mem hlt
   generalize L[k] = Y at *
   refine awp_plain 4 (by kernel_rfl) rfl (fun g2 hg2 => ?_)
   simp only [go_sem, hlt, decide_true]
   refine hK5 _ ?_
   refine awp_t rfl ?_
   refine awp_skip ?_
   refine hK4 _ ?_
   refine awp_seq_k (fun K6 hK6 => ?_)
   refine awp_block ?_
   refine awp_seq_k (fun K7 hK7 => ?_)
   by_cases hY : Y = x
   ·have hT : memB x L = true := memB_true.2 (hY ▸ hin)
    subst hY
    refine awp_anyq (by kernel_rfl) rfl (fun g4 hg4 ops4 KR4 hops4 hKR4 => ?_)
    refine qrun_last 6 hops4 ?_
    simp only [go_sem, hlt, hgm, decide_true, hn0_q, Ne.symm hn0_q]
    refine hKR4 _ ?_
    refine hK7 _ ?_
    refine awp_t rfl ?_
    refine awp_seq_k (fun K8 hK8 => ?_)
    refine awp_plain 1 (by kernel_rfl) rfl (fun g5 hg5 => ?_)
    simp only [go_sem]
    refine hK8 _ ?_
    refine awp_ret ?_
    refine ends_keep rfl (by simp [go_sem, hn0_q]) ?_
    simp only [go_sem]
    exact Co.of_eq (by rw [hT])
   ·have hne := ndEq hY
    refine awp_anyq (by kernel_rfl) rfl (fun g4 hg4 ops4 KR4 hops4 hKR4 => ?_)
    refine qrun_last 6 hops4 ?_
    simp only [go_sem, hlt, hgm, hne, decide_false, hn0_q, Ne.symm hn0_q]
    refine hKR4 _ ?_
    refine hK7 _ ?_
    refine awp_f rfl ?_
    refine awp_skip ?_
    refine hK6 _ ?_
    refine awp_plain 3 (by kernel_rfl) rfl (fun g3 hg3 => ?_)
    simp only [go_sem]
    try simp (disch := omega) only [wrapN]
    refine ⟨_, ?_, k + 1, hlt, rfl, Bool.eq_false_iff.2 fun e => (hms.1 e).elim (fun e => by rw [hno] at e; cases e) hY, le_of ?_⟩
    ·omega
    simp only [go_sem, hn0_q, Ne.symm hn0_q]
    all_goals first | done | exact rfl | exact ⟨rfl, rfl⟩ | trivial | omega
  ·have : k = L.length := by omega
   subst this
   rw [List.take_length] at hno
   refine awp_plain 4 (by kernel_rfl) rfl (fun g2 hg2 => ?_)
   simp only [go_sem, hlt, decide_false]
   refine hK5 _ ?_
   refine awp_f rfl ?_
   refine awp_exit ?_
   refine hK2 _ ?_
   refine awp_seq_k (fun K9 hK9 => ?_)
   refine awp_plain 1 (by kernel_rfl) rfl (fun g6 hg6 => ?_)
   simp only [go_sem]
   refine hK9 _ ?_
   refine awp_ret ?_
   refine ends_keep rfl (by simp [go_sem, hn0_q]) ?_
   simp only [go_sem]
   exact Co.of_eq (by rw [hno])
end Go.Proofs.T
