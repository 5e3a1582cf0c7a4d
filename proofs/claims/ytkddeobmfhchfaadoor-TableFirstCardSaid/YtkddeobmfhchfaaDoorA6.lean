/- A part of the proof, under no conditions of its own: A6. -/
import Derived.Test.YtkddeobmfhchfaaDoorA5
namespace Go.Proofs.T
open Go Go.Ab Go.RowKit

theorem look_some {ns : List Str} {us : List Ty} {n : Str} {i : Nat} (h : ns.findIdx? (isS n) = some i) (hi : i < us.length) : look ns us n = some us[i] := by simp [look, h, hi]
theorem look_none {ns : List Str} {us : List Ty} {n : Str} (h : ns.findIdx? (isS n) = none) : look ns us n = none := by simp [look, h]
theorem look_past {ns : List Str} {us : List Ty} {n : Str} {i : Nat} (h : ns.findIdx? (isS n) = some i) (hi : ¬ i < us.length) : look ns us n = none := by simp [look, h]; omega
theorem substTy_var {ns : List Str} {us : List Ty} {t u : Ty} (h0 : t.args.length = 0) (h : look ns us t.name = some u) : substTy ns us t = .mk u.name u.args t.pos := by
  rw [substTy_eq, h]; simp [List.eq_nil_of_length_eq_zero h0]
theorem substTy_free {ns : List Str} {us : List Ty} {t : Ty} (h : t.args.length = 0 → look ns us t.name = none) : substTy ns us t = .mk t.name (t.args.map (substTy ns us)) t.pos := by
  rw [substTy_eq]
  cases ha : t.args with
  | nil => rw [h (by simp [ha])]; rfl
  | cons x y => rfl

theorem substTy_stay {ns : List Str} {us : List Ty} {t : Ty} (h0 : t.args.length = 0) (h : look ns us t.name = none) : substTy ns us t = t := by
  rw [substTy_free fun _ => h]
  conv => rhs; rw [← Ty.eta t]
  simp [List.eq_nil_of_length_eq_zero h0]

theorem refSubst_step (ns : List Str) (us : List Ty) (hns : ns.length ≤ 1000000) (hc : ∀ t ∈ us, ∀ g d, ACalls E 46 [encTy t, slS [], slTy []] [] g d (encTy t) []) (t : Ty) (ht : smTy t)
    (ih : ∀ x ∈ t.args, ∀ g d, ACalls E 46 [encTy x, slS ns, slTy us] [] g d (encTy (substTy ns us x)) []) (g d : Nat) :
    ACalls E 46 [encTy t, slS ns, slTy us] [] g d (encTy (substTy ns us t)) [] := by
  obtain ⟨hs1, hs2, hs3⟩ := (smTy_iff t).1 ht
  refine acalls_of_awp (fn := Tryd.f46) (N := 70) Tryd.call46 Tryd.func46 rfl rfl (by simp) ?_
  simp only [go_sem]
  refine awp_seq_k (fun K1 hK1 => ?_)
  refine awp_plain 2 (by kernel_rfl) rfl (fun g0 hg0 => ?_)
  simp only [go_sem]
  refine hK1 _ ?_
  refine awp_seq_k (fun K2 hK2 => ?_)
  refine awp_seq_k (fun K3 hK3 => ?_)
  refine awp_plain 1 (by kernel_rfl) rfl (fun g1 hg1 => ?_)
  simp only [go_sem]
  refine hK3 _ ?_
  refine awp_block ?_
  refine awp_loop (fun m s => ∃ k, k ≤ ns.length ∧ m = ns.length - k ∧ ns.findIdx? (isS t.name) = ((ns.drop k).findIdx? (isS t.name)).map (· + k) ∧
      Le { env := [(1, slS ns), (2, slTy us), (3, .ptr ⟨g0, 3, 0⟩ 0), (6, .ptr ⟨g0, 6, 0⟩ 0), (7, dN k)], σ := [(⟨g0, 3, 0⟩, .box 25 (tyC t)), (⟨g0, 6, 0⟩, .box 25 [.val (.string ByteArray.empty), .val (.slice none 0 0), dI 0])] } s) ns.length ?_ ?_
  · refine ⟨0, Nat.zero_le _, rfl, by simp, le_of ?_⟩
    simp only [go_sem, tyC]
    trivial
  · rintro m s ⟨k, hk, rfl, hf, hle⟩
    refine awp_keep hle ?_
    clear hle
    by_cases h0 : t.args.length = 0
    · by_cases h : k < ns.length
      · rw [findD _ _ _ h] at hf
        refine awp_seq_k (fun K4 hK4 => ?_)
        refine awp_seq_k (fun K5 hK5 => ?_)
        refine awp_plain 10 (by kernel_rfl) rfl (fun g2 hg2 => ?_)
        simp only [go_sem, tyC, h, h0, Int.ofNat_eq_zero, decide_true]
        refine hK5 _ ?_
        refine awp_t rfl ?_
        refine awp_skip ?_
        refine hK4 _ ?_
        refine awp_seq_k (fun K6 hK6 => ?_)
        refine awp_block ?_
        refine awp_seq_k (fun K7 hK7 => ?_)
        by_cases he : ns[k] = t.name
        · rw [if_pos (by simp [isS, he])] at hf
          refine awp_anyq (by kernel_rfl) rfl (fun g4 hg4 ops4 KR4 hops4 hKR4 => ?_)
          refine qrun_last 7 hops4 ?_
          simp only [go_sem, getM h, he, decide_true]
          refine hKR4 _ ?_
          refine hK7 _ ?_
          refine awp_t rfl ?_
          refine awp_seq_k (fun K8 hK8 => ?_)
          refine awp_seq_k (fun K9 hK9 => ?_)
          by_cases hi : k < us.length
          · have hres := substTy_var h0 (look_some (us := us) (by simpa using hf) hi)
            have h5 : ¬ ((us.length : Int) ≤ k) := by omega
            refine awp_plain 4 (by kernel_rfl) rfl (fun g5 hg5 => ?_)
            simp only [go_sem, h5]
            refine hK9 _ ?_
            refine awp_f rfl ?_
            refine awp_skip ?_
            refine hK8 _ ?_
            refine awp_seq_k (fun K10 hK10 => ?_)
            refine awp_ops (by kernel_rfl) rfl (fun g7 hg7 ops7 KR7 hops7 hKR7 => ?_)
            refine aops_eval 4 hops7 ?_
            simp only [go_sem, getM hi]
            refine aops_pure hops7 rfl rfl rfl (hc _ (List.getElem_mem hi) _ _) (.cons (.refl _) (.cons (.nil _) (.cons (.nil _) .nil))) ?_
            refine aops_last 2 hops7 ?_
            simp only [go_sem]
            refine hKR7 _ ?_
            refine hK10 _ ?_
            refine awp_seq_k (fun K11 hK11 => ?_)
            refine awp_plain 4 (by kernel_rfl) rfl (fun g8 hg8 => ?_)
            simp only [go_sem]
            refine hK11 _ ?_
            refine awp_seq_k (fun K12 hK12 => ?_)
            refine awp_plain 2 (by kernel_rfl) rfl (fun g9 hg9 => ?_)
            simp only [go_sem]
            refine hK12 _ ?_
            refine awp_ret ?_
            rw [hres]
            refine ends_ev rfl ?_
            simp only [go_sem]
            exact Co.refl _
          · have hres := substTy_stay (us := us) h0 (look_past (by simpa using hf) hi)
            have h5 : ((us.length : Int) ≤ k) := by omega
            refine awp_plain 4 (by kernel_rfl) rfl (fun g5 hg5 => ?_)
            simp only [go_sem, h5]
            refine hK9 _ ?_
            refine awp_t rfl ?_
            refine awp_seq_k (fun K13 hK13 => ?_)
            refine awp_plain 2 (by kernel_rfl) rfl (fun g6 hg6 => ?_)
            simp only [go_sem]
            refine hK13 _ ?_
            refine awp_ret ?_
            rw [hres]
            refine ends_ev rfl ?_
            simp only [go_sem]
            exact Co.refl _
        · rw [if_neg (by simp [isS, he])] at hf
          refine awp_anyq (by kernel_rfl) rfl (fun g4 hg4 ops4 KR4 hops4 hKR4 => ?_)
          refine qrun_last 7 hops4 ?_
          simp only [go_sem, getM h, he]
          refine hKR4 _ ?_
          refine hK7 _ ?_
          refine awp_f rfl ?_
          refine awp_skip ?_
          refine hK6 _ ?_
          refine awp_plain 3 (by kernel_rfl) rfl (fun g3 hg3 => ?_)
          simp only [go_sem]
          try simp (disch := omega) only [wrapN]
          refine ⟨_, ?_, k + 1, h, rfl, ?_, le_of ?_⟩
          · omega
          · rw [hf]; simp [Option.map_map, Function.comp_def, Nat.add_comm, Nat.add_left_comm]
          simp only [go_sem, tyC]
          omega
      · rw [dropN ns k (by omega)] at hf
        have hres := substTy_free (us := us) (fun _ => look_none (by simpa using hf))
        refine awp_seq_k (fun K14 hK14 => ?_)
        refine awp_seq_k (fun K15 hK15 => ?_)
        refine awp_plain 10 (by kernel_rfl) rfl (fun g2 hg2 => ?_)
        simp only [go_sem, tyC, h]
        refine hK15 _ ?_
        refine awp_f rfl ?_
        refine awp_exit ?_
        refine hK2 _ ?_
        refine awp_seq_k (fun K16 hK16 => ?_)
        refine awp_plain 7 (by kernel_rfl) rfl (fun g10 hg10 => ?_)
        simp only [go_sem]
        refine hK16 _ ?_
        refine awp_seq_k (fun K17 hK17 => ?_)
        refine awp_seq_k (fun K18 hK18 => ?_)
        refine awp_plain 1 (by kernel_rfl) rfl (fun g11 hg11 => ?_)
        simp only [go_sem]
        refine hK18 _ ?_
        refine awp_block ?_
        refine awp_nil_box ⟨g10, 9, 0⟩ 1 25 3 ?_
        simp only [go_sem]
        intro gn hgn
        have hn : gn ≠ g10 := fresh_g hgn 9 0 (by simp [go_sem])
        refine awp_loop (fun m s => ∃ k a i, k ≤ t.args.length ∧ m = t.args.length - k ∧ a ≠ g0 ∧ a ≠ g10 ∧
            Le { env := [(1, slS ns), (2, slTy us), (3, .ptr ⟨g0, 3, 0⟩ 0), (6, .ptr ⟨g0, 6, 0⟩ 0), (9, .ptr ⟨g10, 9, 0⟩ 0), (10, dN k)], σ := [(⟨g0, 3, 0⟩, .box 25 (tyC t)), (⟨g0, 6, 0⟩, .box 25 [.val (.string ByteArray.empty), .val (.slice none 0 0), dI 0]), (⟨g10, 9, 0⟩, .box 25 [.val (.string t.name), .own ⟨a, i, 0⟩ k, .val (.int .i64 t.pos)]), (⟨a, i, 0⟩, .arr 25 3 ((t.args.take k).map fun t => encTy (substTy ns us t)))] } s) t.args.length ?_ ?_
        · have hn2 : gn ≠ g0 := fresh_g hgn 3 0 (by simp [go_sem])
          refine ⟨0, gn, 0, Nat.zero_le _, rfl, hn2, hn, le_of ?_⟩
          simp only [go_sem, tyC, hn, hn2, Ne.symm hn, Ne.symm hn2]
          trivial
        · rintro m s ⟨k, a, i, hk, rfl, ha0, ha10, hle⟩
          refine awp_keep hle ?_
          clear hle
          by_cases hlt : k < t.args.length
          · refine awp_seq_k (fun K19 hK19 => ?_)
            refine awp_seq_k (fun K20 hK20 => ?_)
            refine awp_plain 5 (by kernel_rfl) rfl (fun g12 hg12 => ?_)
            simp only [go_sem, hlt, tyC, ha0]
            refine hK20 _ ?_
            refine awp_t rfl ?_
            refine awp_skip ?_
            refine hK19 _ ?_
            refine awp_seq_k (fun K21 hK21 => ?_)
            refine awp_block ?_
            refine awp_any 11 (by kernel_rfl) (by kernel_rfl) rfl (fun g14 hg14 ops14 KR14 hops14 hKR14 => ?_)
            refine qrun_eval 9 hops14 ?_
            simp only [go_sem, getM hlt, ha0, ha10]
            refine qrun_pure hops14 rfl rfl rfl (ih _ (List.getElem_mem hlt) _ _) (CoL.refl _) rfl ?_
            refine qrun_last 1 hops14 ?_
            simp only [go_sem]
            refine aops_eval 0 hops14 ?_
            simp only [go_sem]
            refine aops_app hops14 rfl rfl rfl rfl rfl es23 sz25 by25 ze25 rfl (by decide) ?_
            simp only [go_sem, List.length_take_of_le (Nat.le_of_lt hlt), Ne.symm ha0, Ne.symm ha10]
            first | refine ⟨⟨by omega, by omega⟩, ?_⟩ | skip
            refine aops_last 2 hops14 ?_
            simp only [go_sem]
            refine hKR14 _ ?_
            refine hK21 _ ?_
            have hn14_g0 : g14 ≠ g0 := fresh_g hg14 3 0 (by simp [go_sem])
            have hn14_g10 : g14 ≠ g10 := fresh_g hg14 9 0 (by simp [go_sem])
            refine awp_plain 3 (by kernel_rfl) rfl (fun g13 hg13 => ?_)
            simp only [go_sem, tyC]
            try simp (disch := omega) only [wrapN]
            refine ⟨_, ?_, k + 1, g14, 67, hlt, rfl, hn14_g0, hn14_g10, le_of ?_⟩
            · omega
            simp only [go_sem, ← takeM _ hlt, hn14_g0, Ne.symm hn14_g0, hn14_g10, Ne.symm hn14_g10]
            omega
          · refine awp_seq_k (fun K22 hK22 => ?_)
            refine awp_seq_k (fun K23 hK23 => ?_)
            refine awp_plain 5 (by kernel_rfl) rfl (fun g12 hg12 => ?_)
            simp only [go_sem, hlt, tyC, ha0]
            refine hK23 _ ?_
            refine awp_f rfl ?_
            refine awp_exit ?_
            refine hK17 _ ?_
            refine awp_seq_k (fun K24 hK24 => ?_)
            refine awp_plain 2 (by kernel_rfl) rfl (fun g15 hg15 => ?_)
            simp only [go_sem, ha0, ha10]
            refine hK24 _ ?_
            refine awp_ret ?_
            have : k = t.args.length := by omega
            subst this
            rw [hres]
            refine ret_frz ⟨a, i, 0⟩ ?_
            simp only [go_sem, Ne.symm ha0, Ne.symm ha10]
            refine ends_ev rfl ?_
            simp only [go_sem]
            exact Co.of_eq (by rw [encTy_agg]; simp [tyC, Function.comp_def])
    · have hres := substTy_free (ns := ns) (us := us) (fun h => absurd h h0)
      refine awp_seq_k (fun K25 hK25 => ?_)
      refine awp_seq_k (fun K26 hK26 => ?_)
      by_cases h : k < ns.length
      · refine awp_plain 10 (by kernel_rfl) rfl (fun g2 hg2 => ?_)
        simp only [go_sem, tyC, h, h0, Int.ofNat_eq_zero]
        refine hK26 _ ?_
        refine awp_f rfl ?_
        refine awp_exit ?_
        refine hK2 _ ?_
        refine awp_seq_k (fun K27 hK27 => ?_)
        refine awp_plain 7 (by kernel_rfl) rfl (fun g10 hg10 => ?_)
        simp only [go_sem]
        refine hK27 _ ?_
        refine awp_seq_k (fun K28 hK28 => ?_)
        refine awp_seq_k (fun K29 hK29 => ?_)
        refine awp_plain 1 (by kernel_rfl) rfl (fun g11 hg11 => ?_)
        simp only [go_sem]
        refine hK29 _ ?_
        refine awp_block ?_
        refine awp_nil_box ⟨g10, 9, 0⟩ 1 25 3 ?_
        simp only [go_sem]
        intro gn hgn
        have hn : gn ≠ g10 := fresh_g hgn 9 0 (by simp [go_sem])
        refine awp_loop (fun m s => ∃ k a i, k ≤ t.args.length ∧ m = t.args.length - k ∧ a ≠ g0 ∧ a ≠ g10 ∧
            Le { env := [(1, slS ns), (2, slTy us), (3, .ptr ⟨g0, 3, 0⟩ 0), (6, .ptr ⟨g0, 6, 0⟩ 0), (9, .ptr ⟨g10, 9, 0⟩ 0), (10, dN k)], σ := [(⟨g0, 3, 0⟩, .box 25 (tyC t)), (⟨g0, 6, 0⟩, .box 25 [.val (.string ByteArray.empty), .val (.slice none 0 0), dI 0]), (⟨g10, 9, 0⟩, .box 25 [.val (.string t.name), .own ⟨a, i, 0⟩ k, .val (.int .i64 t.pos)]), (⟨a, i, 0⟩, .arr 25 3 ((t.args.take k).map fun t => encTy (substTy ns us t)))] } s) t.args.length ?_ ?_
        · have hn2 : gn ≠ g0 := fresh_g hgn 3 0 (by simp [go_sem])
          refine ⟨0, gn, 0, Nat.zero_le _, rfl, hn2, hn, le_of ?_⟩
          simp only [go_sem, tyC, hn, hn2, Ne.symm hn, Ne.symm hn2]
          trivial
        · rintro m s ⟨k, a, i, hk, rfl, ha0, ha10, hle⟩
          refine awp_keep hle ?_
          clear hle
          by_cases hlt : k < t.args.length
          · refine awp_seq_k (fun K30 hK30 => ?_)
            refine awp_seq_k (fun K31 hK31 => ?_)
            refine awp_plain 5 (by kernel_rfl) rfl (fun g12 hg12 => ?_)
            simp only [go_sem, hlt, tyC, ha0]
            refine hK31 _ ?_
            refine awp_t rfl ?_
            refine awp_skip ?_
            refine hK30 _ ?_
            refine awp_seq_k (fun K32 hK32 => ?_)
            refine awp_block ?_
            refine awp_any 11 (by kernel_rfl) (by kernel_rfl) rfl (fun g14 hg14 ops14 KR14 hops14 hKR14 => ?_)
            refine qrun_eval 9 hops14 ?_
            simp only [go_sem, getM hlt, ha0, ha10]
            refine qrun_pure hops14 rfl rfl rfl (ih _ (List.getElem_mem hlt) _ _) (CoL.refl _) rfl ?_
            refine qrun_last 1 hops14 ?_
            simp only [go_sem]
            refine aops_eval 0 hops14 ?_
            simp only [go_sem]
            refine aops_app hops14 rfl rfl rfl rfl rfl es23 sz25 by25 ze25 rfl (by decide) ?_
            simp only [go_sem, List.length_take_of_le (Nat.le_of_lt hlt), Ne.symm ha0, Ne.symm ha10]
            first | refine ⟨⟨by omega, by omega⟩, ?_⟩ | skip
            refine aops_last 2 hops14 ?_
            simp only [go_sem]
            refine hKR14 _ ?_
            refine hK32 _ ?_
            have hn14_g0 : g14 ≠ g0 := fresh_g hg14 3 0 (by simp [go_sem])
            have hn14_g10 : g14 ≠ g10 := fresh_g hg14 9 0 (by simp [go_sem])
            refine awp_plain 3 (by kernel_rfl) rfl (fun g13 hg13 => ?_)
            simp only [go_sem, tyC]
            try simp (disch := omega) only [wrapN]
            refine ⟨_, ?_, k + 1, g14, 67, hlt, rfl, hn14_g0, hn14_g10, le_of ?_⟩
            · omega
            simp only [go_sem, ← takeM _ hlt, hn14_g0, Ne.symm hn14_g0, hn14_g10, Ne.symm hn14_g10]
            omega
          · refine awp_seq_k (fun K33 hK33 => ?_)
            refine awp_seq_k (fun K34 hK34 => ?_)
            refine awp_plain 5 (by kernel_rfl) rfl (fun g12 hg12 => ?_)
            simp only [go_sem, hlt, tyC, ha0]
            refine hK34 _ ?_
            refine awp_f rfl ?_
            refine awp_exit ?_
            refine hK28 _ ?_
            refine awp_seq_k (fun K35 hK35 => ?_)
            refine awp_plain 2 (by kernel_rfl) rfl (fun g15 hg15 => ?_)
            simp only [go_sem, ha0, ha10]
            refine hK35 _ ?_
            refine awp_ret ?_
            have : k = t.args.length := by omega
            subst this
            rw [hres]
            refine ret_frz ⟨a, i, 0⟩ ?_
            simp only [go_sem, Ne.symm ha0, Ne.symm ha10]
            refine ends_ev rfl ?_
            simp only [go_sem]
            exact Co.of_eq (by rw [encTy_agg]; simp [tyC, Function.comp_def])
      · refine awp_plain 10 (by kernel_rfl) rfl (fun g2 hg2 => ?_)
        simp only [go_sem, tyC, h]
        refine hK26 _ ?_
        refine awp_f rfl ?_
        refine awp_exit ?_
        refine hK2 _ ?_
        refine awp_seq_k (fun K36 hK36 => ?_)
        refine awp_plain 7 (by kernel_rfl) rfl (fun g10 hg10 => ?_)
        simp only [go_sem]
        refine hK36 _ ?_
        refine awp_seq_k (fun K37 hK37 => ?_)
        refine awp_seq_k (fun K38 hK38 => ?_)
        refine awp_plain 1 (by kernel_rfl) rfl (fun g11 hg11 => ?_)
        simp only [go_sem]
        refine hK38 _ ?_
        refine awp_block ?_
        refine awp_nil_box ⟨g10, 9, 0⟩ 1 25 3 ?_
        simp only [go_sem]
        intro gn hgn
        have hn : gn ≠ g10 := fresh_g hgn 9 0 (by simp [go_sem])
        refine awp_loop (fun m s => ∃ k a i, k ≤ t.args.length ∧ m = t.args.length - k ∧ a ≠ g0 ∧ a ≠ g10 ∧
            Le { env := [(1, slS ns), (2, slTy us), (3, .ptr ⟨g0, 3, 0⟩ 0), (6, .ptr ⟨g0, 6, 0⟩ 0), (9, .ptr ⟨g10, 9, 0⟩ 0), (10, dN k)], σ := [(⟨g0, 3, 0⟩, .box 25 (tyC t)), (⟨g0, 6, 0⟩, .box 25 [.val (.string ByteArray.empty), .val (.slice none 0 0), dI 0]), (⟨g10, 9, 0⟩, .box 25 [.val (.string t.name), .own ⟨a, i, 0⟩ k, .val (.int .i64 t.pos)]), (⟨a, i, 0⟩, .arr 25 3 ((t.args.take k).map fun t => encTy (substTy ns us t)))] } s) t.args.length ?_ ?_
        · have hn2 : gn ≠ g0 := fresh_g hgn 3 0 (by simp [go_sem])
          refine ⟨0, gn, 0, Nat.zero_le _, rfl, hn2, hn, le_of ?_⟩
          simp only [go_sem, tyC, hn, hn2, Ne.symm hn, Ne.symm hn2]
          trivial
        · rintro m s ⟨k, a, i, hk, rfl, ha0, ha10, hle⟩
          refine awp_keep hle ?_
          clear hle
          by_cases hlt : k < t.args.length
          · refine awp_seq_k (fun K39 hK39 => ?_)
            refine awp_seq_k (fun K40 hK40 => ?_)
            refine awp_plain 5 (by kernel_rfl) rfl (fun g12 hg12 => ?_)
            simp only [go_sem, hlt, tyC, ha0]
            refine hK40 _ ?_
            refine awp_t rfl ?_
            refine awp_skip ?_
            refine hK39 _ ?_
            refine awp_seq_k (fun K41 hK41 => ?_)
            refine awp_block ?_
            refine awp_any 11 (by kernel_rfl) (by kernel_rfl) rfl (fun g14 hg14 ops14 KR14 hops14 hKR14 => ?_)
            refine qrun_eval 9 hops14 ?_
            simp only [go_sem, getM hlt, ha0, ha10]
            refine qrun_pure hops14 rfl rfl rfl (ih _ (List.getElem_mem hlt) _ _) (CoL.refl _) rfl ?_
            refine qrun_last 1 hops14 ?_
            simp only [go_sem]
            refine aops_eval 0 hops14 ?_
            simp only [go_sem]
            refine aops_app hops14 rfl rfl rfl rfl rfl es23 sz25 by25 ze25 rfl (by decide) ?_
            simp only [go_sem, List.length_take_of_le (Nat.le_of_lt hlt), Ne.symm ha0, Ne.symm ha10]
            first | refine ⟨⟨by omega, by omega⟩, ?_⟩ | skip
            refine aops_last 2 hops14 ?_
            simp only [go_sem]
            refine hKR14 _ ?_
            refine hK41 _ ?_
            have hn14_g0 : g14 ≠ g0 := fresh_g hg14 3 0 (by simp [go_sem])
            have hn14_g10 : g14 ≠ g10 := fresh_g hg14 9 0 (by simp [go_sem])
            refine awp_plain 3 (by kernel_rfl) rfl (fun g13 hg13 => ?_)
            simp only [go_sem, tyC]
            try simp (disch := omega) only [wrapN]
            refine ⟨_, ?_, k + 1, g14, 67, hlt, rfl, hn14_g0, hn14_g10, le_of ?_⟩
            · omega
            simp only [go_sem, ← takeM _ hlt, hn14_g0, Ne.symm hn14_g0, hn14_g10, Ne.symm hn14_g10]
            omega
          · refine awp_seq_k (fun K42 hK42 => ?_)
            refine awp_seq_k (fun K43 hK43 => ?_)
            refine awp_plain 5 (by kernel_rfl) rfl (fun g12 hg12 => ?_)
            simp only [go_sem, hlt, tyC, ha0]
            refine hK43 _ ?_
            refine awp_f rfl ?_
            refine awp_exit ?_
            refine hK37 _ ?_
            refine awp_seq_k (fun K44 hK44 => ?_)
            refine awp_plain 2 (by kernel_rfl) rfl (fun g15 hg15 => ?_)
            simp only [go_sem, ha0, ha10]
            refine hK44 _ ?_
            refine awp_ret ?_
            have : k = t.args.length := by omega
            subst this
            rw [hres]
            refine ret_frz ⟨a, i, 0⟩ ?_
            simp only [go_sem, Ne.symm ha0, Ne.symm ha10]
            refine ends_ev rfl ?_
            simp only [go_sem]
            exact Co.of_eq (by rw [encTy_agg]; simp [tyC, Function.comp_def])

theorem refSubst_nil : ∀ (t : Ty), smTy t → ∀ g d, ACalls E 46 [encTy t, slS [], slTy []] [] g d (encTy t) [] := by
  refine Ty.ind fun t ih ht g d => ?_
  have := refSubst_step [] [] (by simp) (fun t ht => by cases ht) t ht (fun x hx g d => by rw [substTy_nil]; exact ih x hx (((smTy_iff t).1 ht).2.2 x hx) g d) g d
  rwa [substTy_nil] at this

theorem refSubst_calls (ns : List Str) (us : List Ty) (hns : ns.length ≤ 1000000) (hus : ∀ x ∈ us, smTy x) : ∀ (t : Ty), smTy t → ∀ g d, ACalls E 46 [encTy t, slS ns, slTy us] [] g d (encTy (substTy ns us t)) [] := by
  refine Ty.ind fun t ih ht g d => ?_
  exact refSubst_step ns us hns (fun u hu => refSubst_nil u (hus u hu)) t ht (fun x hx => ih x hx (((smTy_iff t).1 ht).2.2 x hx)) g d

end Go.Proofs.T

