/- A part of the proof, under no conditions of its own: B8. -/
import Derived.Test.YtkddeobmfhchfaaDoorB7
namespace Go.Proofs.T
open Go Go.Ab Go.RowKit

/-! ## Fields -/

def fldsOf (d : Dec) (us : List Ty) : List Param := d.fields.map (mapPa (substTy (d.formals.map (·.name)) us))

theorem tbFields_calls (p : Prg) (h : smPr p) (x : Ty) (hx : smTy x) (g d : Nat) :
    ACalls E 12 [encTb p, encTy x] [] g d (.tup [slPa (if instOf p x 1 = true then fldsOf ((tyDe p x.name).getD zeroDe) x.args else []), dB (instOf p x 1)]) [] := by
  have hi := tbInst_calls p x 1 (by decide)
  have hs := smDe_get h x.name
  have hxa := ((smTy_iff x).1 hx)
  generalize (tyDe p x.name).getD zeroDe = e at hi hs
  obtain ⟨-, ⟨f1, f2⟩, ⟨f3, f4⟩, -⟩ := hs
  refine acalls_of_awp (fn := Tryd.f12) (N := 44) Tryd.call12 Tryd.func12 rfl rfl (by simp) ?_
  simp only [go_sem]
  refine awp_seq_k (fun K1 hK1 => ?_)
  refine awp_plain 3 (by kernel_rfl) rfl (fun g0 hg0 => ?_)
  simp only [go_sem, List.nil_append]
  refine hK1 _ ?_
  refine awp_seq_k (fun K2 hK2 => ?_)
  refine awp_ops (by kernel_rfl) rfl (fun g1 hg1 ops1 KR1 hops1 hKR1 => ?_)
  refine aops_eval 2 hops1 ?_
  simp only [go_sem, List.nil_append]
  cases hins : instOf p x 1 with
  | false =>
    refine aops_pure hops1 rfl rfl rfl (hi _ _) (CoL.refl _) ?_
    refine aops_last 6 hops1 ?_
    simp only [go_sem, hins, deC, siC, exC, List.cons_append, List.nil_append]
    refine hKR1 _ ?_
    refine hK2 _ ?_
    refine awp_seq_k (fun K3 hK3 => ?_)
    refine awp_seq_k (fun K4 hK4 => ?_)
    refine awp_plain 2 (by kernel_rfl) rfl (fun g2 hg2 => ?_)
    simp only [go_sem, Bool.not_false, List.nil_append]
    refine hK4 _ ?_
    refine awp_t rfl ?_
    refine awp_seq_k (fun K5 hK5 => ?_)
    refine awp_plain 2 (by kernel_rfl) rfl (fun g3 hg3 => ?_)
    simp only [go_sem, List.nil_append]
    refine hK5 _ ?_
    refine awp_ret ?_
    rw [hins, if_neg (by decide)]
    refine ends_ev rfl ?_
    simp only [go_sem]
    exact Co.tup (.cons (.nil _) (.cons (.refl _) .nil))
  | true =>
    refine aops_pure hops1 rfl rfl rfl (hi _ _) (CoL.refl _) ?_
    refine aops_last 6 hops1 ?_
    simp only [go_sem, hins, deC, siC, exC, List.cons_append, List.nil_append]
    refine hKR1 _ ?_
    refine hK2 _ ?_
    refine awp_seq_k (fun K6 hK6 => ?_)
    refine awp_seq_k (fun K7 hK7 => ?_)
    refine awp_plain 2 (by kernel_rfl) rfl (fun g2 hg2 => ?_)
    simp only [go_sem, Bool.not_true, List.nil_append]
    refine hK7 _ ?_
    refine awp_f rfl ?_
    refine awp_skip ?_
    refine hK6 _ ?_
    refine awp_seq_k (fun K8 hK8 => ?_)
    refine awp_plain 1 (by kernel_rfl) rfl (fun g4 hg4 => ?_)
    simp only [go_sem, List.nil_append]
    refine hK8 _ ?_
    refine awp_seq_k (fun K9 hK9 => ?_)
    refine awp_seq_k (fun K10 hK10 => ?_)
    refine awp_plain 4 (by kernel_rfl) rfl (fun g5 hg5 => ?_)
    simp only [go_sem, List.nil_append]
    refine hK10 _ ?_
    refine awp_block ?_
    refine awp_nil 8 62 5 rfl fun gn hgn => ?_
    have hn0 : gn ≠ g0 := fresh_g hgn 3 0 (by simp [go_sem])
    have hn1 : gn ≠ g1 := fresh_g hgn 6 0 (by simp [go_sem])
    refine awp_loop (fun m s => ∃ k a i, k ≤ e.fields.length ∧ m = e.fields.length - k ∧ a ≠ g0 ∧ a ≠ g1 ∧
        Le { env := [(3, .ptr ⟨g0, 3, 0⟩ 0), (6, .ptr ⟨g1, 6, 0⟩ 0), (20, slPa e.fields), (21, dN e.fields.length), (22, dN k), (8, .own ⟨a, i, 0⟩ k)],
             σ := [(⟨g0, 3, 0⟩, .box 25 (tyC x)), (⟨g1, 6, 0⟩, .box 52 (deC e)), (⟨a, i, 0⟩, .arr 62 5 ((e.fields.take k).map fun f => encPa (mapPa (substTy (e.formals.map (·.name)) x.args) f)))] } s) e.fields.length ?_ ?_
    · refine ⟨0, gn, 0, Nat.zero_le _, rfl, hn0, hn1, le_of ?_⟩
      simp only [go_sem, deC, siC, exC, List.cons_append, List.nil_append, tyC, hn0, hn1, Ne.symm hn0, Ne.symm hn1, List.take_zero, List.map_nil, deC, siC, exC, List.cons_append, List.nil_append, tyC]
      trivial
    · rintro m s ⟨k, a, i, hk, rfl, ha0, ha1, hle⟩
      refine awp_keep hle ?_
      clear hle
      have hfl : (fldsOf e x.args).length = e.fields.length := by simp [fldsOf]
      by_cases hlt : k < e.fields.length
      · refine awp_seq_k (fun K11 hK11 => ?_)
        refine awp_plain 1 (by kernel_rfl) rfl (fun g6 hg6 => ?_)
        simp only [go_sem, deC, siC, exC, List.cons_append, List.nil_append, tyC, deC, siC, exC, List.cons_append, List.nil_append, tyC, hlt, mapPa, encPa]
        refine hK11 _ ?_
        refine awp_seq_k (fun K12 hK12 => ?_)
        refine awp_t rfl ?_
        refine awp_skip ?_
        refine hK12 _ ?_
        refine awp_seq_k (fun K13 hK13 => ?_)
        refine awp_block ?_
        refine awp_seq_k (fun K14 hK14 => ?_)
        refine awp_plain 4 (by kernel_rfl) rfl (fun g7 hg7 => ?_)
        simp only [go_sem, getM hlt, List.cons_append, List.nil_append, List.cons_append, List.nil_append, encPa]
        refine hK14 _ ?_
        have hn7_a : g7 ≠ a := fresh_g hg7 i 0 (by simp [go_sem, Ne.symm ha0, Ne.symm ha1])
        have hn7_g0 : g7 ≠ g0 := fresh_g hg7 3 0 (by simp [go_sem])
        have hn7_g1 : g7 ≠ g1 := fresh_g hg7 6 0 (by simp [go_sem])
        refine awp_any 15 (by kernel_rfl) (by kernel_rfl) rfl (fun g8 hg8 ops8 KR8 hops8 hKR8 => ?_)
        refine qrun_eval 7 hops8 ?_
        simp only [go_sem, List.nil_append, List.nil_append, ha1, Ne.symm hn7_a, Ne.symm hn7_g0, hn7_g1, Ne.symm hn7_g1]
        refine qrun_pure hops8 rfl rfl rfl (names_calls e.formals (by omega) _ _) (CoL.refl _) rfl ?_
        refine qrun_eval 2 hops8 ?_
        simp only [go_sem, List.nil_append, List.nil_append, ha0, hn7_g0]
        refine qrun_pure hops8 rfl rfl rfl (subst_calls (e.formals.map (·.name)) x.args (by simp; omega) hxa.2.2 _ (f4 _ (List.getElem_mem hlt)).2 _ _) (CoL.refl _) rfl ?_
        refine qrun_last 4 hops8 ?_
        simp only [go_sem, List.cons_append, List.nil_append, List.cons_append, List.nil_append, Ne.symm hn7_a, Ne.symm hn7_g0, Ne.symm hn7_g1]
        refine aops_eval 0 hops8 ?_
        simp only [go_sem]
        refine aops_app hops8 rfl rfl rfl rfl rfl es36 sz62 by62 ze62 rfl (by decide) ?_
        simp only [go_sem, List.length_take_of_le (Nat.le_of_lt hlt), Ne.symm ha0, Ne.symm ha1, hn7_a]
        first | refine ⟨⟨by omega, by omega⟩, ?_⟩ | skip
        refine aops_last 1 hops8 ?_
        simp only [go_sem, List.nil_append, List.nil_append]
        refine hKR8 _ ?_
        refine hK13 _ ?_
        have hn8_g0 : g8 ≠ g0 := fresh_g hg8 3 0 (by simp [go_sem, hn7_g0])
        have hn8_g1 : g8 ≠ g1 := fresh_g hg8 6 0 (by simp [go_sem, hn7_g1])
        refine awp_plain 2 (by kernel_rfl) rfl (fun g9 hg9 => ?_)
        simp only [go_sem, deC, siC, exC, List.cons_append, List.nil_append, tyC, deC, siC, exC, List.cons_append, List.nil_append, tyC, mapPa, encPa]
        try simp (disch := omega) only [wrapN]
        refine ⟨_, ?_, k + 1, g8, 41, hlt, rfl, hn8_g0, hn8_g1, le_of ?_⟩
        · omega
        simp only [go_sem, ← takeM _ hlt, hn7_g0, hn7_g1, hn8_g0, Ne.symm hn8_g0, hn8_g1, Ne.symm hn8_g1]
        omega
      · refine awp_seq_k (fun K15 hK15 => ?_)
        refine awp_plain 1 (by kernel_rfl) rfl (fun g6 hg6 => ?_)
        simp only [go_sem, hlt, deC, siC, exC, List.cons_append, List.nil_append, tyC, deC, siC, exC, List.cons_append, List.nil_append, tyC]
        refine hK15 _ ?_
        refine awp_seq_k (fun K16 hK16 => ?_)
        refine awp_f rfl ?_
        refine awp_exit ?_
        refine hK9 _ ?_
        refine awp_seq_k (fun K17 hK17 => ?_)
        have : k = e.fields.length := by omega
        subst this
        refine awp_plain 3 (by kernel_rfl) rfl (fun g10 hg10 => ?_)
        simp only [go_sem, List.take_length, List.nil_append, List.nil_append]
        refine hK17 _ ?_
        refine awp_ret ?_
        refine ret_frz ⟨a, i, 0⟩ ?_
        simp only [go_sem, Ne.symm ha0, Ne.symm ha1]
        rw [hins, if_pos rfl]
        refine ends_ev rfl ?_
        simp only [go_sem]
        exact Co.of_eq (by simp [fldsOf, List.map_map, Function.comp_def, encPa, paC])

theorem refFields_calls (p : Prg) (h : smPr p) (x : Ty) (hx : smTy x) (j : Nat) (hj : tyFind p x.name = some j) (g d : Nat) :
    ACalls E 20 [encPr p, encTy x] [] g d (slPa (fldsOf ((tyDe p x.name).getD zeroDe) x.args)) [] := by
  have hs := smDe_get h x.name
  obtain ⟨hjl, hd⟩ := tyFind_some hj
  rw [hd] at hs ⊢
  simp only [Option.getD_some] at hs ⊢
  have hxa := ((smTy_iff x).1 hx)
  have hgm := getM (f := encDe) hjl
  generalize p.decls[j] = e at hs hgm
  obtain ⟨-, ⟨f1, f2⟩, ⟨f3, f4⟩, -⟩ := hs
  refine acalls_of_awp (fn := Tryd.f20) (N := 43) Tryd.call20 Tryd.func20 rfl rfl (by simp) ?_
  simp only [go_sem]
  refine awp_seq_k (fun K1 hK1 => ?_)
  refine awp_plain 3 (by kernel_rfl) rfl (fun g0 hg0 => ?_)
  simp only [go_sem, List.cons_append, List.nil_append]
  refine hK1 _ ?_
  refine awp_seq_k (fun K2 hK2 => ?_)
  refine awp_any 9 (by kernel_rfl) (by kernel_rfl) rfl (fun g1 hg1 ops1 KR1 hops1 hKR1 => ?_)
  refine qrun_eval 5 hops1 ?_
  simp only [go_sem, List.nil_append]
  refine qrun_pure hops1 rfl rfl rfl (find11_calls p x.name h.1.1 _ _) (CoL.refl _) rfl ?_
  refine qrun_last 3 hops1 ?_
  simp only [go_sem, hj, optI, hgm, encDe, deC, siC, exC, List.cons_append, List.nil_append]
  refine aops_last 1 hops1 ?_
  simp only [go_sem, List.cons_append, List.nil_append]
  refine hKR1 _ ?_
  refine hK2 _ ?_
  refine awp_seq_k (fun K3 hK3 => ?_)
  refine awp_plain 1 (by kernel_rfl) rfl (fun g2 hg2 => ?_)
  simp only [go_sem, List.nil_append]
  refine hK3 _ ?_
  refine awp_seq_k (fun K4 hK4 => ?_)
  refine awp_seq_k (fun K5 hK5 => ?_)
  refine awp_plain 1 (by kernel_rfl) rfl (fun g3 hg3 => ?_)
  simp only [go_sem, List.nil_append]
  refine hK5 _ ?_
  refine awp_block ?_
  refine awp_nil 6 62 5 rfl fun gn hgn => ?_
  have hn0 : gn ≠ g0 := fresh_g hgn 3 0 (by simp [go_sem])
  have hn1 : gn ≠ g1 := fresh_g hgn 5 0 (by simp [go_sem])
  refine awp_loop (fun m s => ∃ k a i, k ≤ e.fields.length ∧ m = e.fields.length - k ∧ a ≠ g0 ∧ a ≠ g1 ∧
      Le { env := [(3, .ptr ⟨g0, 3, 0⟩ 0), (5, .ptr ⟨g1, 5, 0⟩ 0), (7, dN k), (6, .own ⟨a, i, 0⟩ k)],
           σ := [(⟨g0, 3, 0⟩, .box 25 (tyC x)), (⟨g1, 5, 0⟩, .box 52 (deC e)), (⟨a, i, 0⟩, .arr 62 5 ((e.fields.take k).map fun f => encPa (mapPa (substTy (e.formals.map (·.name)) x.args) f)))] } s) e.fields.length ?_ ?_
  · refine ⟨0, gn, 0, Nat.zero_le _, rfl, hn0, hn1, le_of ?_⟩
    simp only [go_sem, deC, siC, exC, List.cons_append, List.nil_append, tyC, hn0, hn1, Ne.symm hn0, Ne.symm hn1, List.take_zero, List.map_nil, deC, siC, exC, List.cons_append, List.nil_append, tyC]
    trivial
  · rintro m s ⟨k, a, i, hk, rfl, ha0, ha1, hle⟩
    refine awp_keep hle ?_
    clear hle
    by_cases hlt : k < e.fields.length
    · refine awp_seq_k (fun K6 hK6 => ?_)
      refine awp_seq_k (fun K7 hK7 => ?_)
      refine awp_plain 5 (by kernel_rfl) rfl (fun g4 hg4 => ?_)
      simp only [go_sem, deC, siC, exC, List.cons_append, List.nil_append, tyC, deC, siC, exC, List.cons_append, List.nil_append, tyC, hlt, mapPa, ha1, encPa]
      refine hK7 _ ?_
      refine awp_t rfl ?_
      refine awp_skip ?_
      refine hK6 _ ?_
      refine awp_seq_k (fun K8 hK8 => ?_)
      refine awp_block ?_
      refine awp_seq_k (fun K9 hK9 => ?_)
      refine awp_plain 7 (by kernel_rfl) rfl (fun g6 hg6 => ?_)
      simp only [go_sem, getM hlt, List.cons_append, List.nil_append, List.cons_append, List.nil_append, ha1, encPa]
      refine hK9 _ ?_
      refine awp_seq_k (fun K10 hK10 => ?_)
      have hn6_a : g6 ≠ a := fresh_g hg6 i 0 (by simp [go_sem, Ne.symm ha0, Ne.symm ha1])
      have hn6_g0 : g6 ≠ g0 := fresh_g hg6 3 0 (by simp [go_sem])
      have hn6_g1 : g6 ≠ g1 := fresh_g hg6 5 0 (by simp [go_sem])
      refine awp_any 9 (by kernel_rfl) (by kernel_rfl) rfl (fun g7 hg7 ops7 KR7 hops7 hKR7 => ?_)
      refine qrun_eval 4 hops7 ?_
      simp only [go_sem, List.nil_append, List.nil_append, ha1, Ne.symm hn6_a, Ne.symm hn6_g0, hn6_g1, Ne.symm hn6_g1]
      refine qrun_pure hops7 rfl rfl rfl (refNames_calls e.formals (by omega) _ _) (CoL.refl _) rfl ?_
      refine qrun_eval 2 hops7 ?_
      simp only [go_sem, List.nil_append, List.nil_append, ha0, hn6_g0]
      refine qrun_pure hops7 rfl rfl rfl (refSubst_calls (e.formals.map (·.name)) x.args (by simp; omega) hxa.2.2 _ (f4 _ (List.getElem_mem hlt)).2 _ _) (CoL.refl _) rfl ?_
      refine qrun_last 1 hops7 ?_
      simp only [go_sem, List.nil_append, List.nil_append]
      refine aops_last 1 hops7 ?_
      simp only [go_sem, List.cons_append, List.nil_append, List.cons_append, List.nil_append, Ne.symm hn6_a, Ne.symm hn6_g0, Ne.symm hn6_g1]
      refine hKR7 _ ?_
      refine hK10 _ ?_
      refine awp_ops (by kernel_rfl) rfl (fun g8 hg8 ops8 KR8 hops8 hKR8 => ?_)
      refine aops_eval 3 hops8 ?_
      simp only [go_sem, List.nil_append, List.nil_append, Ne.symm hn6_a, Ne.symm hn6_g0, Ne.symm hn6_g1]
      refine aops_app hops8 rfl rfl rfl rfl rfl es36 sz62 by62 ze62 rfl (by decide) ?_
      simp only [go_sem, List.length_take_of_le (Nat.le_of_lt hlt), Ne.symm ha0, Ne.symm ha1, hn6_a]
      first | refine ⟨⟨by omega, by omega⟩, ?_⟩ | skip
      refine aops_last 1 hops8 ?_
      simp only [go_sem, List.nil_append, List.nil_append]
      refine hKR8 _ ?_
      refine hK8 _ ?_
      have hn8_g0 : g8 ≠ g0 := fresh_g hg8 3 0 (by simp [go_sem, hn6_g0])
      have hn8_g1 : g8 ≠ g1 := fresh_g hg8 5 0 (by simp [go_sem, hn6_g1])
      refine awp_plain 3 (by kernel_rfl) rfl (fun g5 hg5 => ?_)
      simp only [go_sem, deC, siC, exC, List.cons_append, List.nil_append, tyC, deC, siC, exC, List.cons_append, List.nil_append, tyC, mapPa, encPa]
      try simp (disch := omega) only [wrapN]
      refine ⟨_, ?_, k + 1, g8, 41, hlt, rfl, hn8_g0, hn8_g1, le_of ?_⟩
      · omega
      simp only [go_sem, ← takeM _ hlt, hn6_g0, hn6_g1, hn8_g0, Ne.symm hn8_g0, hn8_g1, Ne.symm hn8_g1]
      omega
    · refine awp_seq_k (fun K11 hK11 => ?_)
      refine awp_seq_k (fun K12 hK12 => ?_)
      refine awp_plain 5 (by kernel_rfl) rfl (fun g4 hg4 => ?_)
      simp only [go_sem, hlt, deC, siC, exC, List.cons_append, List.nil_append, tyC, deC, siC, exC, List.cons_append, List.nil_append, tyC, ha1]
      refine hK12 _ ?_
      refine awp_f rfl ?_
      refine awp_exit ?_
      refine hK4 _ ?_
      refine awp_seq_k (fun K13 hK13 => ?_)
      have : k = e.fields.length := by omega
      subst this
      refine awp_plain 2 (by kernel_rfl) rfl (fun g9 hg9 => ?_)
      simp only [go_sem, List.take_length, List.nil_append, List.nil_append]
      refine hK13 _ ?_
      refine awp_ret ?_
      refine ret_frz ⟨a, i, 0⟩ ?_
      simp only [go_sem, Ne.symm ha0, Ne.symm ha1]
      refine ends_ev rfl ?_
      simp only [go_sem]
      exact Co.of_eq (by simp [fldsOf, List.map_map, Function.comp_def, encPa, paC])
end Go.Proofs.T

