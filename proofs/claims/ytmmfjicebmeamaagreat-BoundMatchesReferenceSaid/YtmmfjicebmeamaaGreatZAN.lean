/- A part of the proof, under no conditions of its own: ZAN. -/
import Derived.Test.YtmmfjicebmeamaaGreatZAM
namespace Go.Proofs.T
open Go Go.Ab Go.RowKit

/-! ## The types of a program, as the reference lists them: the second part -/

theorem flat_take {α β : Type} (f : α → List β) {l : List α} {k : Nat} (h : k < l.length) : (l.take (k + 1)).flatMap f = (l.take k).flatMap f ++ f l[k] := by
  rw [List.take_add_one, List.getElem?_eq_getElem h, List.flatMap_append]
  simp
theorem flat_le {α β : Type} (f : α → List β) (l : List α) (k : Nat) : ((l.take k).flatMap f).length ≤ (l.flatMap f).length := by
  have := congrArg (fun l => (l.flatMap f).length) (List.take_append_drop k l)
  simp only [List.flatMap_append, List.length_append] at this
  omega
theorem flat_mem {α β : Type} (f : α → List β) {l : List α} {k : Nat} (h : k < l.length) : ((l.take k).flatMap f).length + (f l[k]).length ≤ (l.flatMap f).length := by
  have h1 := flat_take f h
  have h2 := flat_le f l (k + 1)
  rw [h1, List.length_append] at h2
  exact h2

set_option maxRecDepth 100000 in
theorem bodyT_calls (e : Ex) (he : okEx e) (hl : (nodesEx e).length ≤ 1000000) (hb : (bodyTys e).length ≤ 1000000) (g d : Nat) : ACalls E 54 [encEx e] [] g d (slTy (bodyTys e)) [] := by
  refine acalls_of_awp (fn := Tryz.f54) (N := 44) Tryz.call54 Tryz.func54 rfl rfl (by simp) ?_
  simp only [go_sem]
  refine awp_seq_k (fun K1 hK1 => ?_)
  refine awp_plain 2 (by kernel_rfl) rfl (fun g0 hg0 => ?_)
  simp only [go_sem]
  refine hK1 _ ?_
  refine awp_seq_k (fun K2 hK2 => ?_)
  refine awp_plain 1 (by kernel_rfl) rfl (fun g1 hg1 => ?_)
  simp only [go_sem]
  refine hK2 _ ?_
  refine awp_seq_k (fun K3 hK3 => ?_)
  refine awp_nil 3 25 3 rfl fun gn hgn => ?_
  have hn0 : gn ≠ g0 := fresh_g hgn 1 0 (by simp [go_sem])
  refine awp_ops (by kernel_rfl) rfl (fun g2 hg2 ops2 KR2 hops2 hKR2 => ?_)
  refine aops_eval 1 hops2 ?_
  simp only [go_sem, hn0]
  refine aops_pure hops2 rfl rfl rfl (list05_calls e he hl _ _) (CoL.refl _) ?_
  refine aops_last 1 hops2 ?_
  simp only [go_sem]
  refine hKR2 _ ?_
  refine hK3 _ ?_
  refine awp_seq_k (fun K4 hK4 => ?_)
  refine awp_seq_k (fun K5 hK5 => ?_)
  generalize hl0 : nodesEx e = l at *
  have hbl : bodyTys e = l.flatMap bodyT := by rw [← hl0]; rfl
  rw [hbl] at hb
  refine awp_plain 1 (by kernel_rfl) rfl (fun g3 hg3 => ?_)
  simp only [go_sem]
  refine hK5 _ ?_
  refine awp_block ?_
  refine awp_loop (fun m st => ∃ k a i L, k ≤ l.length ∧ m = l.length - k ∧ L = (l.take k).flatMap bodyT ∧
      Le { env := [(3, .own ⟨a, i, 0⟩ L.length), (4, slEx l), (5, dN k)], σ := [(⟨a, i, 0⟩, .arr 25 3 (L.map encTy))] } st) l.length ?_ ?_
  · refine ⟨0, gn, 0, [], Nat.zero_le _, rfl, by simp, le_of ?_⟩
    simp only [go_sem, List.map_nil, List.length_nil, Ne.symm hn0]
    all_goals first | exact rfl | exact ⟨rfl, rfl⟩ | trivial
  · rintro m st ⟨k, a, i, L, hk, rfl, hL, hle⟩
    refine awp_keep hle ?_
    clear hle
    refine awp_seq_k (fun K6 hK6 => ?_)
    refine awp_seq_k (fun K7 hK7 => ?_)
    by_cases hlt : k < l.length
    · have hbd := flat_mem bodyT hlt
      have hft := flat_take bodyT hlt
      rw [← hL] at hbd hft
      refine awp_plain 4 (by kernel_rfl) rfl (fun g4 hg4 => ?_)
      simp only [go_sem, hlt]
      refine hK7 _ ?_
      refine awp_t rfl ?_
      refine awp_skip ?_
      refine hK6 _ ?_
      refine awp_seq_k (fun K8 hK8 => ?_)
      refine awp_block ?_
      refine awp_seq_k (fun K9 hK9 => ?_)
      have hlb : (bodyT l[k]).length = l[k].targs.length + (if l[k].kind = 3 ∨ l[k].kind = 5 then [l[k].type] else []).length := by simp [bodyT]
      have hft2 : (l.take (k + 1)).flatMap bodyT = L ++ (l[k].targs ++ (if l[k].kind = 3 ∨ l[k].kind = 5 then [l[k].type] else [])) := hft
      have hgm := getM (f := encEx) hlt
      generalize l[k] = x at *
      refine awp_ops (by kernel_rfl) rfl (fun g6 hg6 ops6 KR6 hops6 hKR6 => ?_)
      refine aops_eval 6 hops6 ?_
      simp only [go_sem, hgm]
      refine aops_app hops6 rfl rfl rfl rfl rfl es23 sz25 by25 ze25 rfl (by decide) ?_
      simp only [go_sem, okRowsTy]
      first | refine ⟨⟨by omega, by omega⟩, ?_⟩ | skip
      refine aops_last 1 hops6 ?_
      simp only [go_sem]
      refine hKR6 _ ?_
      refine hK9 _ ?_
      refine awp_seq_k (fun K10 hK10 => ?_)
      by_cases k3 : x.kind = 3
      · have q3 := eq_true k3
        have h35 : (if x.kind = 3 ∨ x.kind = 5 then [x.type] else []) = [x.type] := if_pos (.inl k3)
        rw [h35] at hlb
        refine awp_plain 14 (by kernel_rfl) rfl (fun g7 hg7 => ?_)
        simp only [go_sem, hgm, q3, decide_true]
        refine hK10 _ ?_
        refine awp_t rfl ?_
        refine awp_ops (by kernel_rfl) rfl (fun g8 hg8 ops8 KR8 hops8 hKR8 => ?_)
        refine aops_eval 7 hops8 ?_
        simp only [go_sem, hgm]
        refine aops_app hops8 rfl rfl rfl rfl rfl es23 sz25 by25 ze25 rfl (by decide) ?_
        simp only [go_sem]
        first | refine ⟨⟨by omega, by omega⟩, ?_⟩ | skip
        refine aops_last 1 hops8 ?_
        simp only [go_sem]
        refine hKR8 _ ?_
        refine hK8 _ ?_
        refine awp_plain 3 (by kernel_rfl) rfl (fun g5 hg5 => ?_)
        simp only [go_sem]
        try simp (disch := omega) only [wrapN]
        refine ⟨_, ?_, k + 1, g8, 42, _, hlt, rfl, hft2.symm, le_of ?_⟩
        · omega
        simp only [go_sem, h35, List.map_append, List.length_append, List.append_assoc, Nat.add_assoc, List.map_cons, List.map_nil, List.length_cons, List.length_nil]
        all_goals first | exact rfl | exact ⟨rfl, rfl⟩ | trivial | omega
      · have q3 := eq_false k3
        by_cases k5 : x.kind = 5
        · have q5 := eq_true k5
          have h35 : (if x.kind = 3 ∨ x.kind = 5 then [x.type] else []) = [x.type] := if_pos (.inr k5)
          rw [h35] at hlb
          refine awp_plain 14 (by kernel_rfl) rfl (fun g7 hg7 => ?_)
          simp only [go_sem, hgm, q3, q5, decide_true, decide_false]
          refine hK10 _ ?_
          refine awp_t rfl ?_
          refine awp_ops (by kernel_rfl) rfl (fun g8 hg8 ops8 KR8 hops8 hKR8 => ?_)
          refine aops_eval 7 hops8 ?_
          simp only [go_sem, hgm]
          refine aops_app hops8 rfl rfl rfl rfl rfl es23 sz25 by25 ze25 rfl (by decide) ?_
          simp only [go_sem]
          first | refine ⟨⟨by omega, by omega⟩, ?_⟩ | skip
          refine aops_last 1 hops8 ?_
          simp only [go_sem]
          refine hKR8 _ ?_
          refine hK8 _ ?_
          refine awp_plain 3 (by kernel_rfl) rfl (fun g5 hg5 => ?_)
          simp only [go_sem]
          try simp (disch := omega) only [wrapN]
          refine ⟨_, ?_, k + 1, g8, 42, _, hlt, rfl, hft2.symm, le_of ?_⟩
          · omega
          simp only [go_sem, h35, List.map_append, List.length_append, List.append_assoc, Nat.add_assoc, List.map_cons, List.map_nil, List.length_cons, List.length_nil]
          all_goals first | exact rfl | exact ⟨rfl, rfl⟩ | trivial | omega
        · have q5 := eq_false k5
          have h35 : (if x.kind = 3 ∨ x.kind = 5 then [x.type] else []) = [] := if_neg (fun h => h.elim k3 k5)
          refine awp_plain 14 (by kernel_rfl) rfl (fun g7 hg7 => ?_)
          simp only [go_sem, hgm, q3, q5, decide_false]
          refine hK10 _ ?_
          refine awp_f rfl ?_
          refine awp_skip ?_
          refine hK8 _ ?_
          refine awp_plain 3 (by kernel_rfl) rfl (fun g5 hg5 => ?_)
          simp only [go_sem]
          try simp (disch := omega) only [wrapN]
          refine ⟨_, ?_, k + 1, g6, 20, _, hlt, rfl, hft2.symm, le_of ?_⟩
          · omega
          simp only [go_sem, h35, List.map_append, List.length_append, List.append_nil]
          all_goals first | exact rfl | exact ⟨rfl, rfl⟩ | trivial | omega
    · have : k = l.length := by omega
      subst this
      rw [List.take_length] at hL
      refine awp_plain 4 (by kernel_rfl) rfl (fun g4 hg4 => ?_)
      simp only [go_sem, hlt]
      refine hK7 _ ?_
      refine awp_f rfl ?_
      refine awp_exit ?_
      refine hK4 _ ?_
      refine awp_seq_k (fun K11 hK11 => ?_)
      refine awp_plain 2 (by kernel_rfl) rfl (fun g9 hg9 => ?_)
      simp only [go_sem]
      refine hK11 _ ?_
      refine awp_ret ?_
      refine ret_frz ⟨a, i, 0⟩ ?_
      simp only [go_sem]
      refine ends_ev rfl ?_
      simp only [go_sem]
      exact Co.of_eq (by rw [hbl, ← hL])
end Go.Proofs.T


namespace Go.Proofs.T
open Go Go.Ab Go.RowKit

/-! ## The types of a program, as the reference lists them: the third part -/

theorem siTys_len' (s : Sig) : (siTys s).length = s.formals.length + s.params.length + 1 := by simp [siTys]; omega
theorem bodyT_le (x : Ex) : (bodyT x).length ≤ (x.type :: x.targs).length := by
  unfold bodyT
  split <;> simp
theorem bodyTys_le (e : Ex) : (bodyTys e).length ≤ wN (exTys e) := by
  refine Nat.le_trans ?_ (wN_len _)
  unfold bodyTys exTys
  generalize nodesEx e = l
  induction l with
  | nil => simp
  | cons x r ih =>
    rw [List.flatMap_cons, List.flatMap_cons, List.length_append, List.length_append]
    have := bodyT_le x
    omega
theorem nodesEx_le (e : Ex) : (nodesEx e).length ≤ wN (exTys e) := by
  refine Nat.le_trans ?_ (wN_len _)
  unfold exTys
  generalize nodesEx e = l
  induction l with
  | nil => simp
  | cons x r ih =>
    rw [List.flatMap_cons, List.length_append]
    simp only [List.length_cons]
    omega
theorem wN_flatL {α : Type} (f : α → List Ty) (l : List α) : (l.flatMap f).length ≤ wN (l.flatMap f) := wN_len _
theorem tyDe_le (d : Dec) : (tyDe d).length ≤ wN (deTys d) := by
  unfold tyDe deTys
  have h1 := wN_len (d.formals.map (·.bound))
  have h2 := wN_len (d.fields.map (·.type))
  have h3 := wN_flatL siTys d.sigs
  have h4 := wN_len (siTys d.sig)
  have h5 := bodyTys_le d.body
  rw [wN_app, wN_app, wN_app, wN_app]
  simp only [List.length_append]
  split
  · simp only [List.length_append]; omega
  · simp only [List.length_nil]; omega
theorem tyPr_le (p : Prg) : (tyPr p).length ≤ wN (prTys p) := by
  unfold tyPr prTys
  have h5 := bodyTys_le p.main
  rw [wN_app, wN_flat]
  simp only [List.length_append]
  have : (p.decls.flatMap tyDe).length ≤ (p.decls.map (fun a => wN (deTys a))).sum := by
    generalize p.decls = l
    induction l with
    | nil => simp
    | cons x r ih =>
      rw [List.flatMap_cons, List.length_append, List.map_cons, List.sum_cons]
      have := tyDe_le x
      omega
  omega
theorem deTys_sig (d : Dec) : wN (siTys d.sig) ≤ wN (deTys d) := by
  unfold deTys
  rw [wN_app, wN_app, wN_app, wN_app]
  omega
theorem deTys_body (d : Dec) : wN (exTys d.body) ≤ wN (deTys d) := by
  unfold deTys
  rw [wN_app, wN_app, wN_app, wN_app]
  omega
theorem prTys_main (p : Prg) : wN (exTys p.main) ≤ wN (prTys p) := by
  unfold prTys
  rw [wN_app]
  omega

set_option maxRecDepth 100000 in
theorem types06_calls (p : Prg) (hp : smPr p) (hw : wN (prTys p) ≤ 1000000) (g q : Nat) : ACalls E 25 [encPr p] [] g q (slTy (tyPr p)) [] := by
  have hT := tyPr_le p
  obtain ⟨⟨k1, k2⟩, k3⟩ := hp
  have hm := prTys_main p
  have hTT : (tyPr p).length = (p.decls.flatMap tyDe).length + (bodyTys p.main).length := by simp [tyPr]
  refine acalls_of_awp (fn := Tryz.f25) (N := 86) Tryz.call25 Tryz.func25 rfl rfl (by simp) ?_
  simp only [go_sem]
  refine awp_seq_k (fun K1 hK1 => ?_)
  refine awp_plain 2 (by kernel_rfl) rfl (fun g0 hg0 => ?_)
  simp only [go_sem]
  refine hK1 _ ?_
  refine awp_seq_k (fun K2 hK2 => ?_)
  refine awp_plain 1 (by kernel_rfl) rfl (fun g1 hg1 => ?_)
  simp only [go_sem]
  refine hK2 _ ?_
  refine awp_seq_k (fun K3 hK3 => ?_)
  refine awp_seq_k (fun K4 hK4 => ?_)
  refine awp_nil 3 25 3 rfl fun gn hgn => ?_
  have hn0 : gn ≠ g0 := fresh_g hgn 1 0 (by simp [go_sem])
  refine awp_plain 1 (by kernel_rfl) rfl (fun g2 hg2 => ?_)
  simp only [go_sem]
  refine hK4 _ ?_
  refine awp_block ?_
  refine awp_loop (fun m st => ∃ k a i L, k ≤ p.decls.length ∧ m = p.decls.length - k ∧ a ≠ g0 ∧ L = (p.decls.take k).flatMap tyDe ∧
      Le { env := [(1, .ptr ⟨g0, 1, 0⟩ 0), (4, dN k), (3, .own ⟨a, i, 0⟩ L.length)], σ := [(⟨g0, 1, 0⟩, .box 30 (prC p)), (⟨a, i, 0⟩, .arr 25 3 (L.map encTy))] } st) p.decls.length ?_ ?_
  · refine ⟨0, gn, 0, [], Nat.zero_le _, rfl, hn0, by simp, le_of ?_⟩
    simp only [go_sem, hn0, Ne.symm hn0, List.map_nil, List.length_nil]
    all_goals first | exact rfl | exact ⟨rfl, rfl⟩ | trivial
  · rintro m st ⟨k, a, i, L, hk, rfl, ha, hL, hle⟩
    refine awp_keep hle ?_
    clear hle
    refine awp_seq_k (fun K5 hK5 => ?_)
    refine awp_seq_k (fun K6 hK6 => ?_)
    by_cases hlt : k < p.decls.length
    · have hbd := flat_mem tyDe hlt
      have hft := flat_take tyDe hlt
      rw [← hL] at hbd hft
      refine awp_plain 5 (by kernel_rfl) rfl (fun g3 hg3 => ?_)
      simp only [go_sem, hlt, ha]
      refine hK6 _ ?_
      refine awp_t rfl ?_
      refine awp_skip ?_
      refine hK5 _ ?_
      refine awp_seq_k (fun K7 hK7 => ?_)
      refine awp_block ?_
      refine awp_seq_k (fun K8 hK8 => ?_)
      have hgm := getM (f := encDe) hlt
      have hsm := k2 _ (List.getElem_mem hlt)
      have hwd := wN_dec (List.getElem_mem hlt)
      generalize p.decls[k] = D at *
      have hDl : (tyDe D).length = D.formals.length + D.fields.length + (D.sigs.flatMap siTys).length + (if D.kind = 3 then siTys D.sig ++ bodyTys D.body else []).length := by simp [tyDe, Nat.add_assoc]
      refine awp_plain 7 (by kernel_rfl) rfl (fun g5 hg5 => ?_)
      simp only [go_sem, hgm, ha]
      refine hK8 _ ?_
      refine awp_seq_k (fun K9 hK9 => ?_)
      refine awp_seq_k (fun K10 hK10 => ?_)
      have hn5_g0 : g5 ≠ g0 := fresh_g hg5 1 0 (by simp [go_sem])
      have hn5_a : g5 ≠ a := fresh_g hg5 i 0 (by simp [go_sem, Ne.symm ha])
      have ha5 : a ≠ g5 := Ne.symm hn5_a
      refine awp_plain 1 (by kernel_rfl) rfl (fun g6 hg6 => ?_)
      simp only [go_sem]
      refine hK10 _ ?_
      refine awp_block ?_
      refine awp_loop (fun m st => ∃ j a i L1, j ≤ D.formals.length ∧ m = D.formals.length - j ∧ a ≠ g0 ∧ a ≠ g5 ∧ L1 = L ++ (D.formals.take j).map (fun x => x.bound) ∧
          Le { env := [(1, .ptr ⟨g0, 1, 0⟩ 0), (4, dN k), (5, .ptr ⟨g5, 5, 0⟩ 0), (6, dN j), (3, .own ⟨a, i, 0⟩ L1.length)], σ := [(⟨g0, 1, 0⟩, .box 30 (prC p)), (⟨g5, 5, 0⟩, .box 48 (deC D)), (⟨a, i, 0⟩, .arr 25 3 (L1.map encTy))] } st) D.formals.length ?_ ?_
      · refine ⟨0, a, i, L, Nat.zero_le _, rfl, ha, ha5, by simp, le_of ?_⟩
        simp only [go_sem, ha5, Ne.symm ha5, ha, Ne.symm ha, hn5_g0, Ne.symm hn5_g0]
        all_goals first | exact rfl | exact ⟨rfl, rfl⟩ | trivial
      · rintro m st ⟨j, a, i, L1, hj, rfl, ha, ha5, hL1, hle⟩
        refine awp_keep hle ?_
        clear hle
        refine awp_seq_k (fun K11 hK11 => ?_)
        refine awp_seq_k (fun K12 hK12 => ?_)
        by_cases hlj : j < D.formals.length
        · have hLl : L1.length = L.length + j := by rw [hL1, List.length_append, List.length_map, List.length_take]; omega
          have hft2 : L ++ (D.formals.take (j + 1)).map (fun x => x.bound) = L1 ++ [D.formals[j].bound] := by rw [List.take_add_one, List.getElem?_eq_getElem hlj, List.map_append, ← List.append_assoc, ← hL1]; rfl
          refine awp_plain 5 (by kernel_rfl) rfl (fun g7 hg7 => ?_)
          simp only [go_sem, hlj, ha5, Ne.symm hn5_g0]
          refine hK12 _ ?_
          refine awp_t rfl ?_
          refine awp_skip ?_
          refine hK11 _ ?_
          refine awp_seq_k (fun K13 hK13 => ?_)
          refine awp_block ?_
          refine awp_ops (by kernel_rfl) rfl (fun g9 hg9 ops9 KR9 hops9 hKR9 => ?_)
          refine aops_eval 8 hops9 ?_
          simp only [go_sem, getM hlj, ha5, Ne.symm hn5_g0]
          refine aops_app hops9 rfl rfl rfl rfl rfl es23 sz25 by25 ze25 rfl (by decide) ?_
          simp only [go_sem, Ne.symm ha, Ne.symm ha5]
          first | refine ⟨⟨by omega, by omega⟩, ?_⟩ | skip
          have hn9_g0 : g9 ≠ g0 := fresh_g hg9 1 0 (by simp [go_sem])
          have hn9_g5 : g9 ≠ g5 := fresh_g hg9 5 0 (by simp [go_sem, Ne.symm hn5_g0])
          refine aops_last 1 hops9 ?_
          simp only [go_sem]
          refine hKR9 _ ?_
          refine hK13 _ ?_
          refine awp_plain 3 (by kernel_rfl) rfl (fun g8 hg8 => ?_)
          simp only [go_sem]
          try simp (disch := omega) only [wrapN]
          refine ⟨_, ?_, j + 1, g9, 36, _, hlj, rfl, hn9_g0, hn9_g5, hft2.symm, le_of ?_⟩
          · omega
          simp only [go_sem, List.map_append, List.length_append, List.map_cons, List.map_nil, List.length_cons, List.length_nil, Nat.zero_add, hn5_g0, Ne.symm hn5_g0, hn9_g0, Ne.symm hn9_g0, hn9_g5, Ne.symm hn9_g5]
          all_goals first | exact rfl | exact ⟨rfl, rfl⟩ | trivial | omega
        · have : j = D.formals.length := by omega
          subst this
          rw [List.take_length] at hL1
          refine awp_plain 5 (by kernel_rfl) rfl (fun g7 hg7 => ?_)
          simp only [go_sem, hlj, ha5, Ne.symm hn5_g0]
          refine hK12 _ ?_
          refine awp_f rfl ?_
          refine awp_exit ?_
          refine hK9 _ ?_
          refine awp_seq_k (fun K14 hK14 => ?_)
          refine awp_seq_k (fun K15 hK15 => ?_)
          refine awp_plain 1 (by kernel_rfl) rfl (fun g10 hg10 => ?_)
          simp only [go_sem]
          refine hK15 _ ?_
          refine awp_block ?_
          have hLL1 : L1.length = L.length + D.formals.length := by rw [hL1]; simp
          refine awp_loop (fun m st => ∃ j a i L2, j ≤ D.fields.length ∧ m = D.fields.length - j ∧ a ≠ g0 ∧ a ≠ g5 ∧ L2 = L1 ++ (D.fields.take j).map (fun x => x.type) ∧
              Le { env := [(1, .ptr ⟨g0, 1, 0⟩ 0), (4, dN k), (5, .ptr ⟨g5, 5, 0⟩ 0), (7, dN j), (3, .own ⟨a, i, 0⟩ L2.length)], σ := [(⟨g0, 1, 0⟩, .box 30 (prC p)), (⟨g5, 5, 0⟩, .box 48 (deC D)), (⟨a, i, 0⟩, .arr 25 3 (L2.map encTy))] } st) D.fields.length ?_ ?_
          · refine ⟨0, a, i, L1, Nat.zero_le _, rfl, ha, ha5, by simp, le_of ?_⟩
            simp only [go_sem, ha, Ne.symm ha, ha5, Ne.symm ha5, hn5_g0, Ne.symm hn5_g0]
            all_goals first | exact rfl | exact ⟨rfl, rfl⟩ | trivial
          · rintro m st ⟨j, a, i, L2, hj, rfl, ha, ha5, hL2, hle⟩
            refine awp_keep hle ?_
            clear hle
            refine awp_seq_k (fun K16 hK16 => ?_)
            refine awp_seq_k (fun K17 hK17 => ?_)
            by_cases hlj : j < D.fields.length
            · have hLl : L2.length = L1.length + j := by rw [hL2, List.length_append, List.length_map, List.length_take]; omega
              have hft2 : L1 ++ (D.fields.take (j + 1)).map (fun x => x.type) = L2 ++ [D.fields[j].type] := by rw [List.take_add_one, List.getElem?_eq_getElem hlj, List.map_append, ← List.append_assoc, ← hL2]; rfl
              refine awp_plain 5 (by kernel_rfl) rfl (fun g11 hg11 => ?_)
              simp only [go_sem, hlj, ha5, Ne.symm hn5_g0]
              refine hK17 _ ?_
              refine awp_t rfl ?_
              refine awp_skip ?_
              refine hK16 _ ?_
              refine awp_seq_k (fun K18 hK18 => ?_)
              refine awp_block ?_
              refine awp_ops (by kernel_rfl) rfl (fun g13 hg13 ops13 KR13 hops13 hKR13 => ?_)
              refine aops_eval 8 hops13 ?_
              simp only [go_sem, getM hlj, ha5, Ne.symm hn5_g0]
              refine aops_app hops13 rfl rfl rfl rfl rfl es23 sz25 by25 ze25 rfl (by decide) ?_
              simp only [go_sem, Ne.symm ha, Ne.symm ha5]
              first | refine ⟨⟨by omega, by omega⟩, ?_⟩ | skip
              have hn13_g0 : g13 ≠ g0 := fresh_g hg13 1 0 (by simp [go_sem])
              have hn13_g5 : g13 ≠ g5 := fresh_g hg13 5 0 (by simp [go_sem, Ne.symm hn5_g0])
              refine aops_last 1 hops13 ?_
              simp only [go_sem]
              refine hKR13 _ ?_
              refine hK18 _ ?_
              refine awp_plain 3 (by kernel_rfl) rfl (fun g12 hg12 => ?_)
              simp only [go_sem]
              try simp (disch := omega) only [wrapN]
              refine ⟨_, ?_, j + 1, g13, 52, _, hlj, rfl, hn13_g0, hn13_g5, hft2.symm, le_of ?_⟩
              · omega
              simp only [go_sem, List.map_append, List.length_append, List.map_cons, List.map_nil, List.length_cons, List.length_nil, Nat.zero_add, hn5_g0, Ne.symm hn5_g0, hn13_g0, Ne.symm hn13_g0, hn13_g5, Ne.symm hn13_g5]
              all_goals first | exact rfl | exact ⟨rfl, rfl⟩ | trivial | omega
            · have : j = D.fields.length := by omega
              subst this
              rw [List.take_length] at hL2
              refine awp_plain 5 (by kernel_rfl) rfl (fun g11 hg11 => ?_)
              simp only [go_sem, hlj, ha5, Ne.symm hn5_g0]
              refine hK17 _ ?_
              refine awp_f rfl ?_
              refine awp_exit ?_
              refine hK14 _ ?_
              refine awp_seq_k (fun K19 hK19 => ?_)
              refine awp_seq_k (fun K20 hK20 => ?_)
              refine awp_plain 1 (by kernel_rfl) rfl (fun g14 hg14 => ?_)
              simp only [go_sem]
              refine hK20 _ ?_
              refine awp_block ?_
              have hsl0 := hsm.2.2.2.1.1
              have hLL2 : L2.length = L.length + D.formals.length + D.fields.length := by rw [hL2]; simp [hLL1]
              refine awp_loop (fun m st => ∃ j a i M, j ≤ D.sigs.length ∧ m = D.sigs.length - j ∧ a ≠ g0 ∧ a ≠ g5 ∧ M = L2 ++ (D.sigs.take j).flatMap siTys ∧
                  Le { env := [(1, .ptr ⟨g0, 1, 0⟩ 0), (4, dN k), (5, .ptr ⟨g5, 5, 0⟩ 0), (8, dN j), (3, .own ⟨a, i, 0⟩ M.length)], σ := [(⟨g0, 1, 0⟩, .box 30 (prC p)), (⟨g5, 5, 0⟩, .box 48 (deC D)), (⟨a, i, 0⟩, .arr 25 3 (M.map encTy))] } st) D.sigs.length ?_ ?_
              · refine ⟨0, a, i, L2, Nat.zero_le _, rfl, ha, ha5, by simp, le_of ?_⟩
                simp only [go_sem, ha, Ne.symm ha, ha5, Ne.symm ha5, hn5_g0, Ne.symm hn5_g0]
                all_goals first | exact rfl | exact ⟨rfl, rfl⟩ | trivial
              · rintro m st ⟨j, a, i, M, hj, rfl, ha, ha5, hM, hle⟩
                refine awp_keep hle ?_
                clear hle
                refine awp_seq_k (fun K21 hK21 => ?_)
                refine awp_seq_k (fun K22 hK22 => ?_)
                by_cases hlj : j < D.sigs.length
                · have hbj := flat_mem siTys hlj
                  have hfj := flat_take siTys hlj
                  have hMl : M.length = L2.length + ((D.sigs.take j).flatMap siTys).length := by rw [hM, List.length_append]
                  have hft2 : L2 ++ (D.sigs.take (j + 1)).flatMap siTys = M ++ siTys D.sigs[j] := by rw [hfj, ← List.append_assoc, ← hM]
                  have hsj := siTys_len' D.sigs[j]
                  refine awp_plain 5 (by kernel_rfl) rfl (fun g15 hg15 => ?_)
                  simp only [go_sem, hlj, ha5, Ne.symm hn5_g0]
                  refine hK22 _ ?_
                  refine awp_t rfl ?_
                  refine awp_skip ?_
                  refine hK21 _ ?_
                  refine awp_seq_k (fun K23 hK23 => ?_)
                  refine awp_block ?_
                  refine awp_ops (by kernel_rfl) rfl (fun g17 hg17 ops17 KR17 hops17 hKR17 => ?_)
                  refine aops_eval 6 hops17 ?_
                  simp only [go_sem, getM hlj, ha5, Ne.symm hn5_g0]
                  refine aops_pure hops17 rfl rfl rfl (sigT_calls D.sigs[j] (by omega) (by omega) _ _) (CoL.refl _) ?_
                  refine aops_app hops17 rfl rfl rfl rfl rfl es23 sz25 by25 ze25 rfl (by decide) ?_
                  simp only [go_sem, okRowsTy, Ne.symm ha, Ne.symm ha5]
                  first | refine ⟨⟨by omega, by omega⟩, ?_⟩ | skip
                  have hn17_g0 : g17 ≠ g0 := fresh_g hg17 1 0 (by simp [go_sem])
                  have hn17_g5 : g17 ≠ g5 := fresh_g hg17 5 0 (by simp [go_sem, Ne.symm hn5_g0])
                  refine aops_last 1 hops17 ?_
                  simp only [go_sem]
                  refine hKR17 _ ?_
                  refine hK23 _ ?_
                  refine awp_plain 3 (by kernel_rfl) rfl (fun g16 hg16 => ?_)
                  simp only [go_sem]
                  try simp (disch := omega) only [wrapN]
                  refine ⟨_, ?_, j + 1, g17, 67, _, hlj, rfl, hn17_g0, hn17_g5, hft2.symm, le_of ?_⟩
                  · omega
                  simp only [go_sem, List.map_append, List.length_append, hn5_g0, Ne.symm hn5_g0, hn17_g0, Ne.symm hn17_g0, hn17_g5, Ne.symm hn17_g5]
                  all_goals first | exact rfl | exact ⟨rfl, rfl⟩ | trivial | omega
                · have : j = D.sigs.length := by omega
                  subst this
                  rw [List.take_length] at hM
                  have hMl : M.length = L2.length + (D.sigs.flatMap siTys).length := by rw [hM, List.length_append]
                  have hM2 : M ++ (if D.kind = 3 then siTys D.sig ++ bodyTys D.body else []) = L ++ tyDe D := by
                    rw [hM, hL2, hL1]
                    simp [tyDe]
                  have hft2 : (p.decls.take (k + 1)).flatMap tyDe = M ++ (if D.kind = 3 then siTys D.sig ++ bodyTys D.body else []) := by rw [hft]; exact hM2.symm
                  refine awp_plain 5 (by kernel_rfl) rfl (fun g15 hg15 => ?_)
                  simp only [go_sem, hlj, ha5, Ne.symm hn5_g0]
                  refine hK22 _ ?_
                  refine awp_f rfl ?_
                  refine awp_exit ?_
                  refine hK19 _ ?_
                  refine awp_seq_k (fun K24 hK24 => ?_)
                  by_cases q3 : D.kind = 3
                  · have r3 := eq_true q3
                    rw [if_pos q3] at hft2 hDl
                    rw [List.length_append] at hDl
                    refine awp_plain 3 (by kernel_rfl) rfl (fun g18 hg18 => ?_)
                    simp only [go_sem, r3, decide_true, ha5, Ne.symm hn5_g0]
                    refine hK24 _ ?_
                    refine awp_t rfl ?_
                    refine awp_seq_k (fun K25 hK25 => ?_)
                    refine awp_ops (by kernel_rfl) rfl (fun g19 hg19 ops19 KR19 hops19 hKR19 => ?_)
                    refine aops_eval 3 hops19 ?_
                    simp only [go_sem, ha5, Ne.symm hn5_g0]
                    have hsl := siTys_len' D.sig
                    have hsg := deTys_sig D
                    have hbg := deTys_body D
                    refine aops_pure hops19 rfl rfl rfl (sigT_calls D.sig (by omega) (by omega) _ _) (CoL.refl _) ?_
                    refine aops_app hops19 rfl rfl rfl rfl rfl es23 sz25 by25 ze25 rfl (by decide) ?_
                    simp only [go_sem, okRowsTy, Ne.symm ha, Ne.symm ha5]
                    first | refine ⟨⟨by omega, by omega⟩, ?_⟩ | skip
                    have hn19_g0 : g19 ≠ g0 := fresh_g hg19 1 0 (by simp [go_sem])
                    have hn19_g5 : g19 ≠ g5 := fresh_g hg19 5 0 (by simp [go_sem, Ne.symm hn5_g0])
                    refine aops_last 1 hops19 ?_
                    simp only [go_sem]
                    refine hKR19 _ ?_
                    refine hK25 _ ?_
                    refine awp_ops (by kernel_rfl) rfl (fun g20 hg20 ops20 KR20 hops20 hKR20 => ?_)
                    refine aops_eval 3 hops20 ?_
                    simp only [go_sem, Ne.symm hn5_g0, hn19_g5]
                    refine aops_pure hops20 rfl rfl rfl (bodyT_calls _ (smEx.ok _ hsm.2.2.2.2.2.2.2) (by have := nodesEx_le D.body; omega) (by have := bodyTys_le D.body; omega) _ _) (CoL.refl _) ?_
                    refine aops_app hops20 rfl rfl rfl rfl rfl es23 sz25 by25 ze25 rfl (by decide) ?_
                    simp only [go_sem, okRowsTy, Ne.symm hn19_g0, Ne.symm hn19_g5]
                    first | refine ⟨⟨by omega, by omega⟩, ?_⟩ | skip
                    have hn20_g0 : g20 ≠ g0 := fresh_g hg20 1 0 (by simp [go_sem, hn19_g0])
                    refine aops_last 1 hops20 ?_
                    simp only [go_sem]
                    refine hKR20 _ ?_
                    refine hK7 _ ?_
                    refine awp_plain 3 (by kernel_rfl) rfl (fun g4 hg4 => ?_)
                    simp only [go_sem]
                    try simp (disch := omega) only [wrapN]
                    refine ⟨_, ?_, k + 1, g20, 80, _, hlt, rfl, hn20_g0, hft2.symm, le_of ?_⟩
                    · omega
                    simp only [go_sem, List.map_append, List.length_append, List.append_assoc, Nat.add_assoc, hn5_g0, hn20_g0, Ne.symm hn20_g0]
                    all_goals first | exact rfl | exact ⟨rfl, rfl⟩ | trivial | omega
                  · have r3 := eq_false q3
                    rw [if_neg q3, List.append_nil] at hft2
                    refine awp_plain 3 (by kernel_rfl) rfl (fun g18 hg18 => ?_)
                    simp only [go_sem, r3, decide_false, ha5, Ne.symm hn5_g0]
                    refine hK24 _ ?_
                    refine awp_f rfl ?_
                    refine awp_skip ?_
                    refine hK7 _ ?_
                    refine awp_plain 3 (by kernel_rfl) rfl (fun g4 hg4 => ?_)
                    simp only [go_sem]
                    try simp (disch := omega) only [wrapN]
                    refine ⟨_, ?_, k + 1, a, i, _, hlt, rfl, ha, hft2.symm, le_of ?_⟩
                    · omega
                    simp only [go_sem, ha, Ne.symm ha, Ne.symm ha5, hn5_g0]
                    all_goals first | exact rfl | exact ⟨rfl, rfl⟩ | trivial | omega
    · have : k = p.decls.length := by omega
      subst this
      rw [List.take_length] at hL
      have hbl : L.length + (bodyTys p.main).length ≤ 1000000 := by rw [hL]; omega
      refine awp_plain 5 (by kernel_rfl) rfl (fun g3 hg3 => ?_)
      simp only [go_sem, hlt, ha]
      refine hK6 _ ?_
      refine awp_f rfl ?_
      refine awp_exit ?_
      refine hK3 _ ?_
      refine awp_seq_k (fun K26 hK26 => ?_)
      refine awp_ops (by kernel_rfl) rfl (fun g21 hg21 ops21 KR21 hops21 hKR21 => ?_)
      refine aops_eval 3 hops21 ?_
      simp only [go_sem, ha]
      refine aops_pure hops21 rfl rfl rfl (bodyT_calls _ (smEx.ok _ k3) (by have := nodesEx_le p.main; omega) (by have := bodyTys_le p.main; omega) _ _) (CoL.refl _) ?_
      refine aops_app hops21 rfl rfl rfl rfl rfl es23 sz25 by25 ze25 rfl (by decide) ?_
      simp only [go_sem, okRowsTy, Ne.symm ha]
      first | refine ⟨⟨by omega, by omega⟩, ?_⟩ | skip
      refine aops_last 1 hops21 ?_
      simp only [go_sem]
      refine hKR21 _ ?_
      refine hK26 _ ?_
      refine awp_ret ?_
      refine ret_frz ⟨g21, 85, 0⟩ ?_
      simp only [go_sem]
      refine ends_ev rfl ?_
      simp only [go_sem]
      exact Co.of_eq (by rw [hL]; simp [tyPr])
end Go.Proofs.T


namespace Go.Proofs.T
open Go Go.Ab Go.RowKit

/-! ## Depths -/

mutual
def depTy : Ty → Nat
  | .mk _ a _ => 1 + depTys a
def depTys : List Ty → Nat
  | [] => 0
  | t :: r => if depTys r < depTy t then depTy t else depTys r
end
theorem depTy_eq (t : Ty) : depTy t = 1 + depTys t.args := by cases t; rfl
/-- The greatest of some depths. -/
def dmax : List Ty → Nat → Nat
  | [], n => n
  | t :: r, n => dmax r (if n < depTy t then depTy t else n)
theorem dmax_ge : ∀ (l : List Ty) (n : Nat), n ≤ dmax l n
  | [], n => Nat.le_refl _
  | t :: r, n => by
    simp only [dmax]
    refine Nat.le_trans ?_ (dmax_ge r _)
    split <;> omega
theorem dmax_le : ∀ (l : List Ty) (n M : Nat), n ≤ M → (∀ t ∈ l, depTy t ≤ M) → dmax l n ≤ M
  | [], n, M, h, _ => h
  | t :: r, n, M, h, h2 => by
    refine dmax_le r _ M ?_ (fun x hx => h2 x (List.mem_cons_of_mem _ hx))
    have := h2 t List.mem_cons_self
    split <;> omega
theorem dmax_mem : ∀ (l : List Ty) (n : Nat) (t : Ty), t ∈ l → depTy t ≤ dmax l n
  | [], _, _, h => by cases h
  | x :: r, n, t, h => by
    simp only [dmax]
    rcases List.mem_cons.1 h with rfl | h
    · refine Nat.le_trans ?_ (dmax_ge r _)
      split <;> omega
    · exact dmax_mem r _ t h
theorem depTys_dmax : ∀ l : List Ty, depTys l = dmax l 0
  | [] => rfl
  | t :: r => by
    have h1 := depTys_dmax r
    apply Nat.le_antisymm
    · rw [depTys]
      split
      · exact dmax_mem (t :: r) 0 t List.mem_cons_self
      · rw [h1]
        exact dmax_le r 0 _ (Nat.zero_le _) (fun x hx => dmax_mem (t :: r) 0 x (List.mem_cons_of_mem _ hx))
    · refine dmax_le (t :: r) 0 _ (Nat.zero_le _) (fun x hx => ?_)
      rw [depTys]
      rcases List.mem_cons.1 hx with rfl | hx
      · split <;> omega
      · have := dmax_mem r 0 x hx
        split <;> omega
theorem dmax_drop {l : List Ty} {k n : Nat} (h : k < l.length) : dmax (l.drop k) n = dmax (l.drop (k + 1)) (if n < depTy l[k] then depTy l[k] else n) := by
  rw [List.drop_eq_getElem_cons h]
  rfl
theorem depTy_le : ∀ t : Ty, depTy t ≤ (namesTy t).length := by
  intro t
  induction t using Ty.ind with
  | h t ih =>
  rw [depTy_eq, namesTy_eq, depTys_dmax]
  have : dmax t.args 0 ≤ (namesTys t.args).length := dmax_le _ _ _ (Nat.zero_le _) (fun x hx => Nat.le_trans (ih x hx) (wN_mem hx))
  simp only [List.length_cons]
  omega

set_option maxRecDepth 100000 in
theorem depth04_calls : ∀ t : Ty, okTy t → (namesTy t).length ≤ 1000000 → ∀ g d, ACalls E 14 [encTy t] [] g d (dN (depTy t)) [] := by
  intro t
  induction t using Ty.ind with
  | h t ih =>
  intro hok0 hlen g d
  have hok := (okTy_iff t).1 hok0
  have hdl := depTy_le t
  rw [depTy_eq, depTys_dmax] at hdl
  refine acalls_of_awp (fn := Tryz.f14) (N := 25) Tryz.call14 Tryz.func14 rfl rfl (by simp) ?_
  simp only [go_sem]
  refine awp_seq_k (fun K1 hK1 => ?_)
  refine awp_plain 2 (by kernel_rfl) rfl (fun g0 hg0 => ?_)
  simp only [go_sem]
  refine hK1 _ ?_
  refine awp_seq_k (fun K2 hK2 => ?_)
  refine awp_plain 1 (by kernel_rfl) rfl (fun g1 hg1 => ?_)
  simp only [go_sem]
  refine hK2 _ ?_
  refine awp_seq_k (fun K3 hK3 => ?_)
  refine awp_seq_k (fun K4 hK4 => ?_)
  refine awp_plain 1 (by kernel_rfl) rfl (fun g2 hg2 => ?_)
  simp only [go_sem]
  refine hK4 _ ?_
  refine awp_block ?_
  refine awp_loop (fun m s => ∃ k n, k ≤ t.args.length ∧ m = t.args.length - k ∧ dmax (t.args.drop k) n = dmax t.args 0 ∧ Le { env := [(1, .ptr ⟨g0, 1, 0⟩ 0), (3, dN (1 + n)), (4, dN k)], σ := [(⟨g0, 1, 0⟩, .box 25 (tyC t))] } s) t.args.length ?_ ?_
  · refine ⟨0, 0, Nat.zero_le _, rfl, rfl, le_of ?_⟩
    simp only [go_sem, tyC]
    all_goals first | exact rfl | exact ⟨rfl, rfl⟩ | trivial
  · rintro m s ⟨k, n, hk, rfl, hc, hle⟩
    refine awp_keep hle ?_
    clear hle
    refine awp_seq_k (fun K5 hK5 => ?_)
    refine awp_seq_k (fun K6 hK6 => ?_)
    by_cases hlt : k < t.args.length
    · have hkn := Nat.le_trans (wN_mem (List.getElem_mem hlt)) (show wN t.args ≤ 1000000 by rw [namesTy_eq] at hlen; simp at hlen; unfold wN; omega)
      have hdk := depTy_le t.args[k]
      have hge := dmax_ge (t.args.drop k) n
      rw [dmax_drop hlt] at hc
      refine awp_plain 5 (by kernel_rfl) rfl (fun g3 hg3 => ?_)
      simp only [go_sem, hlt, tyC]
      refine hK6 _ ?_
      refine awp_t rfl ?_
      refine awp_skip ?_
      refine hK5 _ ?_
      refine awp_seq_k (fun K7 hK7 => ?_)
      refine awp_block ?_
      refine awp_seq_k (fun K8 hK8 => ?_)
      refine awp_ops (by kernel_rfl) rfl (fun g5 hg5 ops5 KR5 hops5 hKR5 => ?_)
      refine aops_eval 5 hops5 ?_
      simp only [go_sem, getM hlt]
      refine aops_pure hops5 rfl rfl rfl (ih _ (List.getElem_mem hlt) (hok.2.2 _ (List.getElem_mem hlt)) hkn _ _) (CoL.refl _) ?_
      refine aops_last 2 hops5 ?_
      simp only [go_sem]
      try simp (disch := omega) only [wrapN]
      refine hKR5 _ ?_
      refine hK8 _ ?_
      refine awp_seq_k (fun K9 hK9 => ?_)
      by_cases hg : n < depTy t.args[k]
      · have g1 : (1 + (depTy t.args[k] : Int) > ((1 + n : Nat) : Int)) = True := eq_true (by omega)
        rw [if_pos hg] at hc
        refine awp_plain 3 (by kernel_rfl) rfl (fun g6 hg6 => ?_)
        simp only [go_sem]
        try simp only [go_sem, g1, decide_true]
        refine hK9 _ ?_
        refine awp_t rfl ?_
        refine awp_plain 2 (by kernel_rfl) rfl (fun g7 hg7 => ?_)
        simp only [go_sem]
        refine hK7 _ ?_
        refine awp_plain 3 (by kernel_rfl) rfl (fun g4 hg4 => ?_)
        simp only [go_sem, tyC]
        try simp (disch := omega) only [wrapN]
        refine ⟨_, ?_, k + 1, _, hlt, rfl, hc, le_of ?_⟩
        · omega
        simp only [go_sem]
        all_goals first | exact rfl | exact ⟨rfl, rfl⟩ | trivial | omega
      · have g1 : (1 + (depTy t.args[k] : Int) > ((1 + n : Nat) : Int)) = False := eq_false (by omega)
        rw [if_neg hg] at hc
        refine awp_plain 3 (by kernel_rfl) rfl (fun g6 hg6 => ?_)
        simp only [go_sem]
        try simp only [go_sem, g1, decide_false]
        refine hK9 _ ?_
        refine awp_f rfl ?_
        refine awp_skip ?_
        refine hK7 _ ?_
        refine awp_plain 3 (by kernel_rfl) rfl (fun g4 hg4 => ?_)
        simp only [go_sem, tyC]
        try simp (disch := omega) only [wrapN]
        refine ⟨_, ?_, k + 1, _, hlt, rfl, hc, le_of ?_⟩
        · omega
        simp only [go_sem]
        all_goals first | exact rfl | exact ⟨rfl, rfl⟩ | trivial | omega
    · have : k = t.args.length := by omega
      subst this
      rw [List.drop_length] at hc
      have hd : depTy t = 1 + n := by rw [depTy_eq, depTys_dmax, ← hc]; rfl
      refine awp_plain 5 (by kernel_rfl) rfl (fun g3 hg3 => ?_)
      simp only [go_sem, hlt, tyC]
      refine hK6 _ ?_
      refine awp_f rfl ?_
      refine awp_exit ?_
      refine hK3 _ ?_
      refine awp_seq_k (fun K10 hK10 => ?_)
      refine awp_plain 2 (by kernel_rfl) rfl (fun g8 hg8 => ?_)
      simp only [go_sem]
      refine hK10 _ ?_
      refine awp_ret ?_
      refine ends_ev rfl ?_
      simp only [go_sem]
      exact Co.of_eq (by rw [hd])
end Go.Proofs.T


namespace Go.Proofs.T
open Go Go.Ab Go.RowKit

/-! ## A name more in a list -/

noncomputable instance decMemS (s : Str) (l : List Str) : Decidable (s ∈ l) := Classical.propDecidable _
def insS : List Str → Str → List Str
  | [], s => [s]
  | x :: r, s => if cmpS s x < 0 then s :: x :: r else x :: insS r s
noncomputable def putS (l : List Str) (s : Str) : List Str := if s ∈ l then l else insS l s
theorem insS_len : ∀ (l : List Str) (s : Str), (insS l s).length = l.length + 1
  | [], s => rfl
  | x :: r, s => by
    rw [insS]
    split
    · rfl
    · simp [insS_len r s]
theorem insS_mem : ∀ (l : List Str) (s x : Str), x ∈ insS l s ↔ x = s ∨ x ∈ l
  | [], s, x => by simp [insS]
  | y :: r, s, x => by
    rw [insS]
    split
    · simp
    · simp only [List.mem_cons, insS_mem r s x]
      constructor
      · rintro (h | h | h)
        · exact .inr (.inl h)
        · exact .inl h
        · exact .inr (.inr h)
      · rintro (h | h | h)
        · exact .inr (.inl h)
        · exact .inl h
        · exact .inr (.inr h)
theorem putS_mem (l : List Str) (s x : Str) : x ∈ putS l s ↔ x = s ∨ x ∈ l := by
  unfold putS
  split
  · rename_i h
    exact ⟨.inr, fun h2 => h2.elim (fun e => e ▸ h) id⟩
  · exact insS_mem l s x
theorem insS_nodup : ∀ (l : List Str) (s : Str), l.Nodup → s ∉ l → (insS l s).Nodup
  | [], s, _, _ => by simp [insS]
  | x :: r, s, h, hs => by
    rw [insS]
    have hx := List.nodup_cons.1 h
    split
    · exact List.nodup_cons.2 ⟨hs, h⟩
    · refine List.nodup_cons.2 ⟨fun hm => ?_, insS_nodup r s hx.2 (fun hm => hs (List.mem_cons_of_mem _ hm))⟩
      rcases (insS_mem r s x).1 hm with rfl | hm
      · exact hs List.mem_cons_self
      · exact hx.1 hm
theorem putS_nodup (l : List Str) (s : Str) (h : l.Nodup) : (putS l s).Nodup := by
  unfold putS
  split
  · exact h
  · rename_i hs
    exact insS_nodup l s h hs
theorem putS_len (l : List Str) (s : Str) : (putS l s).length ≤ l.length + 1 := by
  unfold putS
  split
  · omega
  · rw [insS_len]; omega

set_option maxRecDepth 100000 in
theorem in14_calls (l : List Str) (hl : l.length ≤ 1000000) (s : Str) (g d : Nat) : ACalls E 55 [slS l, encS s] [] g d (dB (decide (s ∈ l))) [] := by
  refine acalls_of_awp (fn := Tryz.f55) (N := 18) Tryz.call55 Tryz.func55 rfl rfl (by simp) ?_
  simp only [go_sem]
  refine awp_seq_k (fun K1 hK1 => ?_)
  refine awp_plain 1 (by kernel_rfl) rfl (fun g0 hg0 => ?_)
  simp only [go_sem]
  refine hK1 _ ?_
  refine awp_seq_k (fun K2 hK2 => ?_)
  refine awp_seq_k (fun K3 hK3 => ?_)
  refine awp_plain 1 (by kernel_rfl) rfl (fun g1 hg1 => ?_)
  simp only [go_sem]
  refine hK3 _ ?_
  refine awp_block ?_
  refine awp_loop (fun m st => ∃ k, k ≤ l.length ∧ m = l.length - k ∧ s ∉ l.take k ∧ Le { env := [(0, slS l), (1, encS s), (5, dN k)], σ := [] } st) l.length ?_ ?_
  · refine ⟨0, Nat.zero_le _, rfl, by simp, le_of ?_⟩
    simp only [go_sem]
    all_goals first | exact rfl | exact ⟨rfl, rfl⟩ | trivial
  · rintro m st ⟨k, hk, rfl, hns, hle⟩
    refine awp_keep hle ?_
    clear hle
    refine awp_seq_k (fun K4 hK4 => ?_)
    refine awp_seq_k (fun K5 hK5 => ?_)
    by_cases hlt : k < l.length
    · refine awp_plain 4 (by kernel_rfl) rfl (fun g2 hg2 => ?_)
      simp only [go_sem, hlt]
      refine hK5 _ ?_
      refine awp_t rfl ?_
      refine awp_skip ?_
      refine hK4 _ ?_
      refine awp_seq_k (fun K6 hK6 => ?_)
      refine awp_block ?_
      refine awp_seq_k (fun K7 hK7 => ?_)
      by_cases he : l[k] = s
      · have r1 := eq_true he
        refine awp_plain 6 (by kernel_rfl) rfl (fun g4 hg4 => ?_)
        simp only [go_sem, getM hlt, r1, decide_true]
        refine hK7 _ ?_
        refine awp_t rfl ?_
        refine awp_seq_k (fun K8 hK8 => ?_)
        refine awp_plain 1 (by kernel_rfl) rfl (fun g5 hg5 => ?_)
        simp only [go_sem]
        refine hK8 _ ?_
        refine awp_ret ?_
        refine ends_ev rfl ?_
        simp only [go_sem]
        exact Co.of_eq (by simp [← he])
      · have r1 := eq_false he
        refine awp_plain 6 (by kernel_rfl) rfl (fun g4 hg4 => ?_)
        simp only [go_sem, getM hlt, r1, decide_false]
        refine hK7 _ ?_
        refine awp_f rfl ?_
        refine awp_skip ?_
        refine hK6 _ ?_
        refine awp_plain 3 (by kernel_rfl) rfl (fun g3 hg3 => ?_)
        simp only [go_sem]
        try simp (disch := omega) only [wrapN]
        refine ⟨_, ?_, k + 1, hlt, rfl, ?_, le_of ?_⟩
        · omega
        · rw [List.take_add_one, List.getElem?_eq_getElem hlt]
          simp only [Option.toList_some, List.mem_append, List.mem_singleton]
          exact fun h => h.elim hns (fun e => he e.symm)
        simp only [go_sem]
        all_goals first | exact rfl | exact ⟨rfl, rfl⟩ | trivial | omega
    · have : k = l.length := by omega
      subst this
      rw [List.take_length] at hns
      refine awp_plain 4 (by kernel_rfl) rfl (fun g2 hg2 => ?_)
      simp only [go_sem, hlt]
      refine hK5 _ ?_
      refine awp_f rfl ?_
      refine awp_exit ?_
      refine hK2 _ ?_
      refine awp_seq_k (fun K9 hK9 => ?_)
      refine awp_plain 1 (by kernel_rfl) rfl (fun g6 hg6 => ?_)
      simp only [go_sem]
      refine hK9 _ ?_
      refine awp_ret ?_
      refine ends_ev rfl ?_
      simp only [go_sem]
      exact Co.of_eq (by simp [hns])

set_option maxRecDepth 100000 in
theorem put14_calls (l : List Str) (hl : l.length ≤ 1000000) (s : Str) (hs : s.size ≤ 9223372036854775807) (hs2 : ∀ x ∈ l, x.size ≤ 9223372036854775807) (g d : Nat) : ACalls E 28 [slS l, encS s] [] g d (slS (putS l s)) [] := by
  refine acalls_of_awp (fn := Tryz.f28) (N := 47) Tryz.call28 Tryz.func28 rfl rfl (by simp) ?_
  simp only [go_sem]
  refine awp_seq_k (fun K1 hK1 => ?_)
  refine awp_plain 1 (by kernel_rfl) rfl (fun g0 hg0 => ?_)
  simp only [go_sem]
  refine hK1 _ ?_
  refine awp_seq_k (fun K2 hK2 => ?_)
  refine awp_seq_k (fun K3 hK3 => ?_)
  refine awp_ops (by kernel_rfl) rfl (fun g1 hg1 ops1 KR1 hops1 hKR1 => ?_)
  refine aops_eval 2 hops1 ?_
  simp only [go_sem]
  by_cases hin : s ∈ l
  · refine aops_pure hops1 rfl rfl rfl (in14_calls l hl s _ _) (CoL.refl _) ?_
    refine aops_last 0 hops1 ?_
    simp only [go_sem, hin, decide_true]
    refine hKR1 _ ?_
    refine hK3 _ ?_
    refine awp_t rfl ?_
    refine awp_seq_k (fun K4 hK4 => ?_)
    refine awp_plain 2 (by kernel_rfl) rfl (fun g2 hg2 => ?_)
    simp only [go_sem]
    refine hK4 _ ?_
    refine awp_ret ?_
    refine ends_ev rfl ?_
    simp only [go_sem]
    exact Co.of_eq (by unfold putS; rw [if_pos hin])
  · refine aops_pure hops1 rfl rfl rfl (in14_calls l hl s _ _) (CoL.refl _) ?_
    refine aops_last 0 hops1 ?_
    simp only [go_sem, hin, decide_false]
    refine hKR1 _ ?_
    refine hK3 _ ?_
    refine awp_f rfl ?_
    refine awp_skip ?_
    refine hK2 _ ?_
    refine awp_seq_k (fun K5 hK5 => ?_)
    refine awp_plain 1 (by kernel_rfl) rfl (fun g3 hg3 => ?_)
    simp only [go_sem]
    refine hK5 _ ?_
    refine awp_seq_k (fun K6 hK6 => ?_)
    refine awp_nil 5 9 1 rfl fun gn hgn => ?_
    refine awp_plain 1 (by kernel_rfl) rfl (fun g4 hg4 => ?_)
    simp only [go_sem]
    refine hK6 _ ?_
    refine awp_seq_k (fun K7 hK7 => ?_)
    refine awp_seq_k (fun K8 hK8 => ?_)
    refine awp_plain 1 (by kernel_rfl) rfl (fun g5 hg5 => ?_)
    simp only [go_sem]
    refine hK8 _ ?_
    refine awp_block ?_
    refine awp_loop (fun m st => ∃ k a i b L, k ≤ l.length ∧ m = l.length - k ∧ (L.length ≤ k + b.toNat ∧ L ++ (if b then l.drop k else insS (l.drop k) s) = insS l s) ∧ Le { env := [(0, slS l), (1, encS s), (5, .own ⟨a, i, 0⟩ L.length), (6, dB b), (7, dN k)], σ := [(⟨a, i, 0⟩, .arr 9 1 (L.map encS))] } st) l.length ?_ ?_
    · refine ⟨0, gn, 0, false, [], Nat.zero_le _, rfl, ⟨Nat.zero_le _, by simp⟩, le_of ?_⟩
      simp only [go_sem, List.map_nil, List.length_nil]
      all_goals first | exact rfl | exact ⟨rfl, rfl⟩ | trivial
    · rintro m st ⟨k, a, i, b, L, hk, rfl, ⟨hLl, hL⟩, hle⟩
      refine awp_keep hle ?_
      clear hle
      refine awp_seq_k (fun K9 hK9 => ?_)
      refine awp_seq_k (fun K10 hK10 => ?_)
      by_cases hlt : k < l.length
      · have hsk := hs2 _ (List.getElem_mem hlt)
        rw [List.drop_eq_getElem_cons hlt] at hL
        refine awp_plain 4 (by kernel_rfl) rfl (fun g6 hg6 => ?_)
        simp only [go_sem, hlt]
        refine hK10 _ ?_
        refine awp_t rfl ?_
        refine awp_skip ?_
        refine hK9 _ ?_
        refine awp_seq_k (fun K11 hK11 => ?_)
        refine awp_block ?_
        refine awp_seq_k (fun K12 hK12 => ?_)
        refine awp_seq_k (fun K13 hK13 => ?_)
        cases b with
        | true =>
          simp only [Bool.toNat_true] at hLl
          have hL2 : (L ++ [l[k]]).length ≤ k + 1 + true.toNat ∧ (L ++ [l[k]]) ++ (if true = true then l.drop (k + 1) else insS (l.drop (k + 1)) s) = insS l s := ⟨by simp only [List.length_append, List.length_cons, List.length_nil, Bool.toNat_true]; omega, by rw [← hL]; simp⟩
          refine awp_plain 11 (by kernel_rfl) rfl (fun g8 hg8 => ?_)
          simp only [go_sem, Bool.not_true]
          refine hK13 _ ?_
          refine awp_f rfl ?_
          refine awp_skip ?_
          refine hK12 _ ?_
          refine awp_ops (by kernel_rfl) rfl (fun g11 hg11 ops11 KR11 hops11 hKR11 => ?_)
          refine aops_eval 6 hops11 ?_
          simp only [go_sem, getM hlt]
          refine aops_app hops11 rfl rfl rfl rfl rfl es44 sz9 by9 ze9 rfl (by decide) ?_
          simp only [go_sem]
          first | refine ⟨⟨by omega, by omega⟩, ?_⟩ | skip
          refine aops_last 1 hops11 ?_
          simp only [go_sem]
          refine hKR11 _ ?_
          refine hK11 _ ?_
          refine awp_plain 3 (by kernel_rfl) rfl (fun g7 hg7 => ?_)
          simp only [go_sem]
          try simp (disch := omega) only [wrapN]
          refine ⟨_, ?_, k + 1, g11, 39, _, _, hlt, rfl, hL2, le_of ?_⟩
          · omega
          simp only [go_sem, List.map_append, List.length_append, List.map_cons, List.map_nil, List.length_cons, List.length_nil, Nat.zero_add]
          all_goals first | exact rfl | exact ⟨rfl, rfl⟩ | trivial | omega
        | false =>
          simp only [Bool.toNat_false] at hLl
          by_cases hc : cmpS s l[k] < 0
          · have hc1 := eq_true hc
            have hL2 : (L ++ [s, l[k]]).length ≤ k + 1 + true.toNat ∧ (L ++ [s, l[k]]) ++ (if true = true then l.drop (k + 1) else insS (l.drop (k + 1)) s) = insS l s := ⟨by simp only [List.length_append, List.length_cons, List.length_nil, Bool.toNat_true]; omega, by rw [← hL]; simp [insS, hc]⟩
            refine awp_ops (by kernel_rfl) rfl (fun g8 hg8 ops8 KR8 hops8 hKR8 => ?_)
            refine aops_eval 8 hops8 ?_
            simp only [go_sem, Bool.not_false, getM hlt]
            refine aops_pure hops8 rfl rfl rfl (compareS_calls s l[k] hs _ _) (CoL.refl _) ?_
            refine aops_last 2 hops8 ?_
            simp only [go_sem, hc1, decide_true]
            refine hKR8 _ ?_
            refine hK13 _ ?_
            refine awp_t rfl ?_
            refine awp_seq_k (fun K14 hK14 => ?_)
            refine awp_ops (by kernel_rfl) rfl (fun g9 hg9 ops9 KR9 hops9 hKR9 => ?_)
            refine aops_eval 3 hops9 ?_
            simp only [go_sem]
            refine aops_app hops9 rfl rfl rfl rfl rfl es44 sz9 by9 ze9 rfl (by decide) ?_
            simp only [go_sem]
            first | refine ⟨⟨by omega, by omega⟩, ?_⟩ | skip
            refine aops_last 1 hops9 ?_
            simp only [go_sem]
            refine hKR9 _ ?_
            refine hK14 _ ?_
            refine awp_plain 1 (by kernel_rfl) rfl (fun g10 hg10 => ?_)
            simp only [go_sem]
            refine hK12 _ ?_
            refine awp_ops (by kernel_rfl) rfl (fun g11 hg11 ops11 KR11 hops11 hKR11 => ?_)
            refine aops_eval 6 hops11 ?_
            simp only [go_sem, getM hlt]
            refine aops_app hops11 rfl rfl rfl rfl rfl es44 sz9 by9 ze9 rfl (by decide) ?_
            simp only [go_sem]
            first | refine ⟨⟨by omega, by omega⟩, ?_⟩ | skip
            refine aops_last 1 hops11 ?_
            simp only [go_sem]
            refine hKR11 _ ?_
            refine hK11 _ ?_
            refine awp_plain 3 (by kernel_rfl) rfl (fun g7 hg7 => ?_)
            simp only [go_sem]
            try simp (disch := omega) only [wrapN]
            refine ⟨_, ?_, k + 1, g11, 39, _, _, hlt, rfl, hL2, le_of ?_⟩
            · omega
            simp only [go_sem, List.map_append, List.length_append, List.map_cons, List.map_nil, List.length_cons, List.length_nil, List.append_assoc, List.cons_append, List.nil_append, Nat.zero_add]
            all_goals first | exact rfl | exact ⟨rfl, rfl⟩ | trivial | omega
          · have hc1 := eq_false hc
            have hL2 : (L ++ [l[k]]).length ≤ k + 1 + false.toNat ∧ (L ++ [l[k]]) ++ (if false = true then l.drop (k + 1) else insS (l.drop (k + 1)) s) = insS l s := ⟨by simp only [List.length_append, List.length_cons, List.length_nil, Bool.toNat_false]; omega, by rw [← hL]; simp [insS, hc]⟩
            refine awp_ops (by kernel_rfl) rfl (fun g8 hg8 ops8 KR8 hops8 hKR8 => ?_)
            refine aops_eval 8 hops8 ?_
            simp only [go_sem, Bool.not_false, getM hlt]
            refine aops_pure hops8 rfl rfl rfl (compareS_calls s l[k] hs _ _) (CoL.refl _) ?_
            refine aops_last 2 hops8 ?_
            simp only [go_sem, hc1, decide_false]
            refine hKR8 _ ?_
            refine hK13 _ ?_
            refine awp_f rfl ?_
            refine awp_skip ?_
            refine hK12 _ ?_
            refine awp_ops (by kernel_rfl) rfl (fun g11 hg11 ops11 KR11 hops11 hKR11 => ?_)
            refine aops_eval 6 hops11 ?_
            simp only [go_sem, getM hlt]
            refine aops_app hops11 rfl rfl rfl rfl rfl es44 sz9 by9 ze9 rfl (by decide) ?_
            simp only [go_sem]
            first | refine ⟨⟨by omega, by omega⟩, ?_⟩ | skip
            refine aops_last 1 hops11 ?_
            simp only [go_sem]
            refine hKR11 _ ?_
            refine hK11 _ ?_
            refine awp_plain 3 (by kernel_rfl) rfl (fun g7 hg7 => ?_)
            simp only [go_sem]
            try simp (disch := omega) only [wrapN]
            refine ⟨_, ?_, k + 1, g11, 39, _, _, hlt, rfl, hL2, le_of ?_⟩
            · omega
            simp only [go_sem, List.map_append, List.length_append, List.map_cons, List.map_nil, List.length_cons, List.length_nil, Nat.zero_add]
            all_goals first | exact rfl | exact ⟨rfl, rfl⟩ | trivial | omega
      · have : k = l.length := by omega
        subst this
        rw [List.drop_length] at hL
        refine awp_plain 4 (by kernel_rfl) rfl (fun g6 hg6 => ?_)
        simp only [go_sem, hlt]
        refine hK10 _ ?_
        refine awp_f rfl ?_
        refine awp_exit ?_
        refine hK7 _ ?_
        refine awp_seq_k (fun K15 hK15 => ?_)
        refine awp_seq_k (fun K16 hK16 => ?_)
        cases b with
        | true =>
          simp only [Bool.toNat_true] at hLl
          refine awp_plain 2 (by kernel_rfl) rfl (fun g12 hg12 => ?_)
          simp only [go_sem, Bool.not_true]
          refine hK16 _ ?_
          refine awp_f rfl ?_
          refine awp_skip ?_
          refine hK15 _ ?_
          refine awp_seq_k (fun K17 hK17 => ?_)
          refine awp_plain 2 (by kernel_rfl) rfl (fun g14 hg14 => ?_)
          simp only [go_sem]
          refine hK17 _ ?_
          refine awp_ret ?_
          refine ret_frz ⟨a, i, 0⟩ ?_
          simp only [go_sem]
          refine ends_ev rfl ?_
          simp only [go_sem]
          exact Co.of_eq (by unfold putS; rw [if_neg hin, ← hL]; simp [])
        | false =>
          simp only [Bool.toNat_false] at hLl
          refine awp_plain 2 (by kernel_rfl) rfl (fun g12 hg12 => ?_)
          simp only [go_sem, Bool.not_false]
          refine hK16 _ ?_
          refine awp_t rfl ?_
          refine awp_ops (by kernel_rfl) rfl (fun g13 hg13 ops13 KR13 hops13 hKR13 => ?_)
          refine aops_eval 3 hops13 ?_
          simp only [go_sem]
          refine aops_app hops13 rfl rfl rfl rfl rfl es44 sz9 by9 ze9 rfl (by decide) ?_
          simp only [go_sem]
          first | refine ⟨⟨by omega, by omega⟩, ?_⟩ | skip
          refine aops_last 1 hops13 ?_
          simp only [go_sem]
          refine hKR13 _ ?_
          refine hK15 _ ?_
          refine awp_seq_k (fun K18 hK18 => ?_)
          refine awp_plain 2 (by kernel_rfl) rfl (fun g14 hg14 => ?_)
          simp only [go_sem]
          refine hK18 _ ?_
          refine awp_ret ?_
          refine ret_frz ⟨g13, 45, 0⟩ ?_
          simp only [go_sem]
          refine ends_ev rfl ?_
          simp only [go_sem]
          exact Co.of_eq (by unfold putS; rw [if_neg hin, ← hL]; simp [insS, encS])
end Go.Proofs.T


namespace Go.Proofs.T
open Go Go.Ab Go.RowKit

/-! ## The keys of the nodes -/

def keyS (n : Str) (k : Nat) : Str := (n ++ (⟨#[32]⟩ : ByteArray)) ++ strOfNums [(k : Int) / 256, (k : Int) % 256]
theorem ba_ext {a b : ByteArray} (h : a.data.toList = b.data.toList) : a = b := by
  cases a; cases b
  simp only at h
  congr 1
  exact Array.toList_inj.1 h
theorem keyS_list (n : Str) (k : Nat) : (keyS n k).data.toList = n.data.toList ++ (32 : UInt8) :: (strOfNums [(k : Int) / 256, (k : Int) % 256]).data.toList := by
  unfold keyS
  rw [ByteArray.data_append, Array.toList_append, ByteArray.data_append, Array.toList_append, List.append_assoc]
  rfl
theorem strOfNums_list (a b : Int) : (strOfNums [a, b]).data.toList = [UInt8.ofNat a.toNat, UInt8.ofNat b.toNat] := by
  rfl
theorem keyS_inj {n m : Str} {j k : Nat} (hj : j < 65536) (hk : k < 65536) (h : keyS n j = keyS m k) : n = m ∧ j = k := by
  have h := congrArg (fun b : ByteArray => b.data.toList) h
  change (keyS n j).data.toList = (keyS m k).data.toList at h
  rw [keyS_list, keyS_list, strOfNums_list, strOfNums_list] at h
  have h1 := List.append_inj_left' h rfl
  have h2 := List.append_inj_right' h rfl
  refine ⟨ba_ext h1, ?_⟩
  simp only [List.cons.injEq, and_true, true_and] at h2
  obtain ⟨ha, hb⟩ := h2
  have ha := congrArg UInt8.toNat ha
  have hb := congrArg UInt8.toNat hb
  rw [UInt8.toNat_ofNat', UInt8.toNat_ofNat'] at ha hb
  omega
theorem keyS_size (n : Str) (k : Nat) : (keyS n k).size = n.size + 3 := by
  have h := congrArg List.length (keyS_list n k)
  rw [strOfNums_list, List.length_append] at h
  exact h

noncomputable def addK (n : Str) : Nat → List Str → List Str
  | 0, l => l
  | c + 1, l => putS (addK n c l) (keyS n c)
theorem addK_len (n : Str) : ∀ (c : Nat) (l : List Str), (addK n c l).length ≤ l.length + c
  | 0, l => Nat.le_refl _
  | c + 1, l => by
    have h1 := putS_len (addK n c l) (keyS n c)
    have h2 := addK_len n c l
    rw [addK]; omega
theorem addK_mem (n : Str) : ∀ (c : Nat) (l : List Str) (x : Str), x ∈ addK n c l ↔ (∃ k, k < c ∧ x = keyS n k) ∨ x ∈ l
  | 0, l, x => by simp [addK]
  | c + 1, l, x => by
    rw [addK, putS_mem, addK_mem n c l x]
    constructor
    · rintro (h | ⟨k, hk, h⟩ | h)
      · exact .inl ⟨c, by omega, h⟩
      · exact .inl ⟨k, by omega, h⟩
      · exact .inr h
    · rintro (⟨k, hk, h⟩ | h)
      · by_cases hkc : k = c
        · subst hkc; exact .inl h
        · exact .inr (.inl ⟨k, by omega, h⟩)
      · exact .inr (.inr h)
theorem addK_nodup (n : Str) : ∀ (c : Nat) (l : List Str), l.Nodup → (addK n c l).Nodup
  | 0, _, h => h
  | c + 1, l, h => putS_nodup _ _ (addK_nodup n c l h)
noncomputable def addF (l : List Str) (s : Str × Nat) : List Str := addK s.1 s.2 l
theorem fold_len : ∀ (L : List (Str × Nat)) (l : List Str), (L.foldl addF l).length ≤ l.length + (L.map (·.2)).sum
  | [], l => by simp
  | s :: L, l => by
    have h1 := fold_len L (addF l s)
    have h2 := addK_len s.1 s.2 l
    simp only [List.foldl_cons, List.map_cons, List.sum_cons]
    unfold addF at *
    omega
theorem fold_mem : ∀ (L : List (Str × Nat)) (l : List Str) (x : Str), x ∈ L.foldl addF l ↔ (∃ s ∈ L, ∃ k, k < s.2 ∧ x = keyS s.1 k) ∨ x ∈ l
  | [], l, x => by simp
  | s :: L, l, x => by
    rw [List.foldl_cons, fold_mem L (addF l s) x]
    unfold addF
    rw [addK_mem]
    constructor
    · rintro (⟨t, ht, h⟩ | h | h)
      · exact .inl ⟨t, List.mem_cons_of_mem _ ht, h⟩
      · exact .inl ⟨s, List.mem_cons_self, h⟩
      · exact .inr h
    · rintro (⟨t, ht, h⟩ | h)
      · rcases List.mem_cons.1 ht with rfl | ht
        · exact .inr (.inl h)
        · exact .inl ⟨t, ht, h⟩
      · exact .inr (.inr h)
theorem fold_nodup : ∀ (L : List (Str × Nat)) (l : List Str), l.Nodup → (L.foldl addF l).Nodup
  | [], _, h => h
  | s :: L, l, h => fold_nodup L _ (addK_nodup s.1 s.2 l h)

/-- The formals of the types, and those of the methods. -/
def tyF (d : Dec) : Str × Nat := (d.name, d.formals.length)
def siF (s : Sig) : Str × Nat := (s.name, s.formals.length)
def meF (d : Dec) : List (Str × Nat) := (d.sigs ++ [d.sig]).map siF
noncomputable def tyKeys (p : Prg) : List Str := (p.decls.map tyF).foldl addF []
noncomputable def meKeys (p : Prg) : List Str := (p.decls.flatMap meF).foldl addF []

theorem sum_take {α : Type} (w : α → Nat) {l : List α} {k : Nat} (h : k < l.length) : ((l.take k).map w).sum + w l[k] ≤ (l.map w).sum := by
  have h1 : l.take (k + 1) = l.take k ++ [l[k]] := by rw [List.take_add_one, List.getElem?_eq_getElem h]; rfl
  have h2 := congrArg (fun l => (l.map w).sum) (List.take_append_drop (k + 1) l)
  simp only [List.map_append, List.sum_append] at h2
  rw [h1] at h2
  simp only [List.map_append, List.sum_append, List.map_cons, List.map_nil, List.sum_cons, List.sum_nil] at h2
  omega
theorem tyF_le (d : Dec) : d.formals.length ≤ wN (deTys d) := by
  have h1 := wN_len (d.formals.map (·.bound))
  unfold deTys
  rw [wN_app, wN_app, wN_app, wN_app]
  simp only [List.length_map] at h1
  omega
theorem sum_le {α : Type} {f w : α → Nat} (h : ∀ a, f a ≤ w a) : ∀ l : List α, (l.map f).sum ≤ (l.map w).sum
  | [] => Nat.le_refl _
  | a :: l => by
    have := sum_le h l
    have := h a
    simp only [List.map_cons, List.sum_cons]
    omega
theorem meF_le (d : Dec) : ((meF d).map (·.2)).sum ≤ wN (deTys d) := by
  have h1 := siTys_len d.sig
  have h2 : (d.sigs.map (fun s => s.formals.length)).sum ≤ (d.sigs.map (fun a => wN (siTys a))).sum := sum_le (fun s => by have := siTys_len s; omega) _
  unfold deTys meF
  rw [wN_app, wN_app, wN_app, wN_app, wN_flat]
  simp only [List.map_append, List.map_map, List.sum_append, List.map_cons, List.map_nil, List.sum_cons, List.sum_nil]
  have h3 : (d.sigs.map ((fun x => x.2) ∘ siF)).sum = (d.sigs.map (fun s => s.formals.length)).sum := rfl
  have h4 : (siF d.sig).2 = d.sig.formals.length := rfl
  omega
end Go.Proofs.T

