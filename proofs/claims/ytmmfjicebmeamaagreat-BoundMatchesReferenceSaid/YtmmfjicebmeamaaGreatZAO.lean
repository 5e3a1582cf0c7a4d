/- A part of the proof, under no conditions of its own: ZAO. -/
import Derived.Test.YtmmfjicebmeamaaGreatZAN
import Derived.Test.YtmmfjicebmeamaaGreatZAH
namespace Go.Proofs.T
open Go Go.Ab Go.RowKit

/-! ## The nodes, as the reference counts them -/

theorem fold_take {α β : Type} (f : β → α → β) (a : β) {l : List α} {k : Nat} (h : k < l.length) : (l.take (k + 1)).foldl f a = f ((l.take k).foldl f a) l[k] := by
  rw [List.take_add_one, List.getElem?_eq_getElem h, List.foldl_append]
  rfl
theorem okRowsSg : ∀ l : List Sig, okRows 7 (l.map encSi) := fun l => okRows_map 7 encSi l fun _ => ⟨rfl, rfl⟩
/-- A list of keys that is small. -/
def smL (l : List Str) : Prop := l.length ≤ 1000000 ∧ ∀ x ∈ l, x.size ≤ 9223372036854775807
theorem smL_add {n : Str} (hn : n.size ≤ 1000000) {c : Nat} {l : List Str} (h : smL l) (hc : l.length + c ≤ 1000000) : smL (addK n c l) := by
  refine ⟨Nat.le_trans (addK_len n c l) hc, fun x hx => ?_⟩
  rcases (addK_mem n c l x).1 hx with ⟨k, _, rfl⟩ | hx
  · rw [keyS_size]; omega
  · exact h.2 x hx
theorem smL_fold : ∀ (L : List (Str × Nat)) (l : List Str), smL l → (∀ s ∈ L, s.1.size ≤ 1000000) → l.length + (L.map (·.2)).sum ≤ 1000000 → smL (L.foldl addF l)
  | [], l, h, _, _ => h
  | s :: L, l, h, hs, hc => by
    simp only [List.map_cons, List.sum_cons] at hc
    refine smL_fold L _ (smL_add (hs s List.mem_cons_self) h (by omega)) (fun x hx => hs x (List.mem_cons_of_mem _ hx)) ?_
    have := addK_len s.1 s.2 l
    unfold addF
    omega
theorem key_fold (n : Str) (k : Nat) : (n ++ (⟨#[32]⟩ : ByteArray)) ++ strOfNums [(k : Int) / 256, (k : Int) % 256] = keyS n k := rfl
theorem wrap8 {x : Int} (h0 : 0 ≤ x) (h : x ≤ 255) : IntKind.u8.wrap x = x := by
  simp [IntKind.wrap, IntKind.signed, IntKind.bits]
  omega
theorem strOfNums_size (a b : Int) : (strOfNums [a, b]).size = 2 := rfl
theorem decs_sum (p : Prg) : (p.decls.map (fun d => wN (deTys d))).sum ≤ wN (prTys p) := by
  unfold prTys
  rw [wN_app, wN_flat]
  omega
theorem tyKeys_len (p : Prg) : (tyKeys p).length ≤ wN (prTys p) := by
  have h1 := fold_len (p.decls.map tyF) []
  have h2 : ((p.decls.map tyF).map (·.2)).sum ≤ (p.decls.map (fun d => wN (deTys d))).sum := by
    rw [List.map_map]
    exact sum_le (fun d => tyF_le d) _
  have h3 := decs_sum p
  unfold tyKeys
  simp only [List.length_nil] at h1
  omega
theorem meF_sum : ∀ X : List Dec, ((X.flatMap meF).map (·.2)).sum ≤ (X.map (fun d => wN (deTys d))).sum
  | [] => by simp
  | x :: X => by
    have := meF_le x
    have := meF_sum X
    simp only [List.flatMap_cons, List.map_append, List.sum_append, List.map_cons, List.sum_cons]
    omega
theorem meKeys_len (p : Prg) : (meKeys p).length ≤ wN (prTys p) := by
  have h1 := fold_len (p.decls.flatMap meF) []
  have h2 := meF_sum p.decls
  have h3 := decs_sum p
  unfold meKeys
  simp only [List.length_nil] at h1
  omega
def meP (L : List Dec) : List (Str × Nat) := L.flatMap meF
set_option maxRecDepth 100000 in
theorem nodes22_calls (p : Prg) (hp : smPr p) (hw : wN (prTys p) ≤ 60000) (g q : Nat) : ACalls E 26 [encPr p] [] g q (dN ((tyKeys p).length + (meKeys p).length)) [] := by
  obtain ⟨⟨k1, k2⟩, k3⟩ := hp
  have hwd : (p.decls.map (fun d => wN (deTys d))).sum ≤ 60000 := by
    unfold prTys at hw
    rw [wN_app, wN_flat] at hw
    omega
  refine acalls_of_awp (fn := Tryz.f26) (N := 90) Tryz.call26 Tryz.func26 rfl rfl (by simp) ?_
  simp only [go_sem]
  refine awp_seq_k (fun K1 hK1 => ?_)
  refine awp_plain 2 (by kernel_rfl) rfl (fun g0 hg0 => ?_)
  simp only [go_sem]
  refine hK1 _ ?_
  refine awp_seq_k (fun K2 hK2 => ?_)
  refine awp_plain 1 (by kernel_rfl) rfl (fun g1 hg1 => ?_)
  simp only [go_sem]
  refine hK2 _ ?_
  refine awp_seq_k (fun K3 hK3 => ?_)
  refine awp_nil 3 9 1 rfl fun gn hgn => ?_
  refine awp_frz ⟨gn, 0, 0⟩ ?_
  simp only [go_sem]
  refine awp_plain 1 (by kernel_rfl) rfl (fun g2 hg2 => ?_)
  simp only [go_sem]
  refine hK3 _ ?_
  refine awp_seq_k (fun K4 hK4 => ?_)
  refine awp_seq_k (fun K5 hK5 => ?_)
  refine awp_nil 4 9 1 rfl fun gm hgm => ?_
  refine awp_frz ⟨gm, 0, 0⟩ ?_
  simp only [go_sem]
  refine awp_plain 1 (by kernel_rfl) rfl (fun g3 hg3 => ?_)
  simp only [go_sem]
  refine hK5 _ ?_
  refine awp_block ?_
  refine awp_loop (fun m st => ∃ k l r, k ≤ p.decls.length ∧ m = p.decls.length - k ∧ (l = ((p.decls.take k).map tyF).foldl addF [] ∧ r = (meP (p.decls.take k)).foldl addF []) ∧
      Le { env := [(1, .ptr ⟨g0, 1, 0⟩ 0), (5, dN k), (3, slS l), (4, slS r)], σ := [(⟨g0, 1, 0⟩, .box 30 (prC p))] } st) p.decls.length ?_ ?_
  · refine ⟨0, [], [], Nat.zero_le _, rfl, ⟨rfl, rfl⟩, le_of ?_⟩
    simp only [go_sem, List.map_nil]
    all_goals first | exact rfl | exact ⟨rfl, rfl⟩ | trivial
  · rintro m st ⟨k, l, r, hk, rfl, ⟨hl, hr⟩, hle⟩
    refine awp_keep hle ?_
    clear hle
    refine awp_seq_k (fun K6 hK6 => ?_)
    refine awp_seq_k (fun K7 hK7 => ?_)
    by_cases hlt : k < p.decls.length
    · have hst := sum_take (fun d => wN (deTys d)) hlt
      have hgm := getM (f := encDe) hlt
      have hsm := k2 _ (List.getElem_mem hlt)
      have htf : ((p.decls.take (k + 1)).map tyF).foldl addF [] = addF l (tyF p.decls[k]) := by
        rw [List.take_add_one, List.getElem?_eq_getElem hlt, List.map_append, List.foldl_append, ← hl]
        rfl
      have hmf : (meP (p.decls.take (k + 1))).foldl addF [] = (meF p.decls[k]).foldl addF r := by
        unfold meP
        rw [flat_take meF hlt, List.foldl_append, hr]
        rfl
      have hll : l.length ≤ ((p.decls.take k).map (fun d => wN (deTys d))).sum := by
        have h1 := fold_len ((p.decls.take k).map tyF) []
        have h2 : (((p.decls.take k).map tyF).map (·.2)).sum ≤ ((p.decls.take k).map (fun d => wN (deTys d))).sum := by
          rw [List.map_map]
          exact sum_le (fun d => tyF_le d) _
        rw [← hl] at h1
        simp only [List.length_nil] at h1
        omega
      have hrl : r.length ≤ ((p.decls.take k).map (fun d => wN (deTys d))).sum := by
        have h1 := fold_len (meP (p.decls.take k)) []
        have h2 : ((meP (p.decls.take k)).map (·.2)).sum ≤ ((p.decls.take k).map (fun d => wN (deTys d))).sum := by
          unfold meP
          generalize p.decls.take k = X
          induction X with
          | nil => simp
          | cons x X ih =>
            have := meF_le x
            simp only [List.flatMap_cons, List.map_append, List.sum_append, List.map_cons, List.sum_cons]
            omega
        rw [← hr] at h1
        simp only [List.length_nil] at h1
        omega
      have hsl : smL l := by
        rw [hl]
        refine smL_fold _ _ ⟨by simp, by simp⟩ (fun s hs => ?_) ?_
        · obtain ⟨d, hd, rfl⟩ := List.mem_map.1 hs
          exact (k2 d (List.mem_of_mem_take hd)).1
        · have h2 : (((p.decls.take k).map tyF).map (·.2)).sum ≤ ((p.decls.take k).map (fun d => wN (deTys d))).sum := by
            rw [List.map_map]
            exact sum_le (fun d => tyF_le d) _
          simp only [List.length_nil]
          omega
      have hsr : smL r := by
        refine ⟨by omega, fun x hx => ?_⟩
        rw [hr, fold_mem] at hx
        rcases hx with ⟨s, hs, j, hj, rfl⟩ | hx
        · unfold meP at hs
          obtain ⟨d, hd, hs⟩ := List.mem_flatMap.1 hs
          obtain ⟨s', hs', rfl⟩ := List.mem_map.1 hs
          have hk2 := k2 d (List.mem_of_mem_take hd)
          have : s'.name.size ≤ 1000000 := by
            rcases List.mem_append.1 hs' with h | h
            · exact (hk2.2.2.2.1.2 s' h).1
            · rw [List.mem_singleton.1 h]
              exact hk2.2.2.2.2.2.2.1.1
          rw [keyS_size]
          show s'.name.size + 3 ≤ _
          omega
        · cases hx
      clear hl hr
      refine awp_plain 5 (by kernel_rfl) rfl (fun g4 hg4 => ?_)
      simp only [go_sem, hlt]
      refine hK7 _ ?_
      refine awp_t rfl ?_
      refine awp_skip ?_
      refine hK6 _ ?_
      refine awp_seq_k (fun K8 hK8 => ?_)
      refine awp_block ?_
      refine awp_seq_k (fun K9 hK9 => ?_)
      generalize p.decls[k] = D at *
      have hDf := tyF_le D
      have hds := hsm.2.2.2.1.1
      refine awp_plain 7 (by kernel_rfl) rfl (fun g6 hg6 => ?_)
      simp only [go_sem, hgm]
      refine hK9 _ ?_
      refine awp_seq_k (fun K10 hK10 => ?_)
      have hn6_g0 : g6 ≠ g0 := fresh_g hg6 1 0 (by simp [go_sem])
      refine awp_anyT 8 [0, 0, 2, 7, 0, 16, 48, 127, 255] (by kernel_rfl) (by kernel_rfl) (by kernel_rfl) rfl (fun g7 hg7 ops7 KR7 hops7 hKR7 => ?_)
      refine qrunT_eval 3 hops7 rfl ?_
      simp only [go_sem, Ne.symm hn6_g0]
      refine qrunT_app hops7 rfl rfl rfl rfl rfl es43 sz46 by46 ze46 rfl (by decide) rfl rfl ?_
      simp only [go_sem, okRowsSg]
      first | refine ⟨⟨by omega, by omega⟩, ?_⟩ | skip
      refine qrunT_eval 3 hops7 rfl ?_
      simp only [go_sem, List.nil_append, Ne.symm hn6_g0]
      refine qrunT_app hops7 rfl rfl rfl rfl rfl es43 sz46 by46 ze46 rfl (by decide) rfl rfl ?_
      simp only [go_sem]
      first | refine ⟨⟨by omega, by omega⟩, ?_⟩ | skip
      refine qrunT_last 0 hops7 rfl ?_
      simp only [go_sem]
      refine aops_last 1 hops7 ?_
      simp only [go_sem]
      refine hKR7 _ ?_
      refine hK10 _ ?_
      refine awp_seq_k (fun K11 hK11 => ?_)
      refine awp_seq_k (fun K12 hK12 => ?_)
      refine awp_frz ⟨g7, 30, 0⟩ ?_
      simp only [go_sem]
      have hS : (D.sigs.map encSi ++ [.agg (siC D.sig)]) = (D.sigs ++ [D.sig]).map encSi := by simp [encSi]
      refine awp_plain 1 (by kernel_rfl) rfl (fun g8 hg8 => ?_)
      simp only [go_sem]
      refine hK12 _ ?_
      refine awp_block ?_
      refine awp_loop (fun m st => ∃ j l2, j ≤ D.formals.length ∧ m = D.formals.length - j ∧ l2 = addK D.name j l ∧
          Le { env := [(1, .ptr ⟨g0, 1, 0⟩ 0), (4, slS r), (5, dN k), (6, .ptr ⟨g6, 6, 0⟩ 0), (7, .sl false ((D.sigs ++ [D.sig]).map encSi)), (3, slS l2), (8, dN j)], σ := [(⟨g0, 1, 0⟩, .box 30 (prC p)), (⟨g6, 6, 0⟩, .box 48 (deC D))] } st) D.formals.length ?_ ?_
      · refine ⟨0, l, Nat.zero_le _, rfl, rfl, le_of ?_⟩
        simp only [go_sem, ← hS, hn6_g0, Ne.symm hn6_g0]
        all_goals first | exact rfl | exact ⟨rfl, rfl⟩ | trivial
      · rintro m st ⟨j, l2, hj, rfl, hl2, hle⟩
        refine awp_keep hle ?_
        clear hle
        refine awp_seq_k (fun K13 hK13 => ?_)
        refine awp_seq_k (fun K14 hK14 => ?_)
        by_cases hlj : j < D.formals.length
        · have hsl2 : smL l2 := by rw [hl2]; exact smL_add hsm.1 hsl (by omega)
          have hnm := hsm.1
          have hky := keyS_size D.name j
          have hw1 : IntKind.u8.wrap ((j : Int) / 256) = (j : Int) / 256 := wrap8 (by omega) (by omega)
          have hw2 : IntKind.u8.wrap ((j : Int) % 256) = (j : Int) % 256 := wrap8 (by omega) (by omega)
          have f1 : (ByteArray.size (D.name) ≤ 9223372036854775806) = True := eq_true (by omega)
          have f0 : ((256 : Int) = 0) = False := eq_false (by decide)
          have hz := strOfNums_size ((j : Int) / 256) ((j : Int) % 256)
          have f2 : (ByteArray.size (D.name) + 1 + (strOfNums [(j : Int) / 256, (j : Int) % 256]).size ≤ 9223372036854775807) = True := eq_true (by omega)
          refine awp_plain 5 (by kernel_rfl) rfl (fun g9 hg9 => ?_)
          simp only [go_sem, hlj, Ne.symm hn6_g0]
          refine hK14 _ ?_
          refine awp_t rfl ?_
          refine awp_skip ?_
          refine hK13 _ ?_
          refine awp_seq_k (fun K15 hK15 => ?_)
          refine awp_block ?_
          refine awp_ops (by kernel_rfl) rfl (fun g11 hg11 ops11 KR11 hops11 hKR11 => ?_)
          refine aops_eval 13 hops11 ?_
          simp only [go_sem, Ne.symm hn6_g0, f1, f0, if_true, if_false]
          try simp (disch := omega) only [wrapN, wrapB, Int.tdiv_eq_ediv_of_nonneg, Int.tmod_eq_emod_of_nonneg]
          try simp only [go_sem, key_fold, f2, if_true]
          try simp (disch := omega) only [wrapN, wrapB, Int.tdiv_eq_ediv_of_nonneg, Int.tmod_eq_emod_of_nonneg]
          refine aops_pure hops11 rfl rfl rfl (put14_calls l2 hsl2.1 (keyS (D.name) j) (by omega) hsl2.2 _ _) (CoL.refl _) ?_
          refine aops_last 1 hops11 ?_
          simp only [go_sem, if_true, if_false]
          refine hKR11 _ ?_
          refine hK15 _ ?_
          refine awp_plain 3 (by kernel_rfl) rfl (fun g10 hg10 => ?_)
          simp only [go_sem, if_true, if_false]
          try simp (disch := omega) only [wrapN]
          refine ⟨_, ?_, j + 1, putS l2 (keyS D.name j), hlj, rfl, by rw [addK, hl2], le_of ?_⟩
          · omega
          simp only [go_sem, hn6_g0, Ne.symm hn6_g0, if_true, if_false]
          all_goals first | exact rfl | exact ⟨rfl, rfl⟩ | trivial | omega
        · have : j = D.formals.length := by omega
          subst this
          refine awp_plain 5 (by kernel_rfl) rfl (fun g9 hg9 => ?_)
          simp only [go_sem, hlj, Ne.symm hn6_g0]
          refine hK14 _ ?_
          refine awp_f rfl ?_
          refine awp_exit ?_
          refine hK11 _ ?_
          refine awp_seq_k (fun K16 hK16 => ?_)
          refine awp_plain 1 (by kernel_rfl) rfl (fun g12 hg12 => ?_)
          simp only [go_sem]
          refine hK16 _ ?_
          refine awp_block ?_
          generalize hSS : D.sigs ++ [D.sig] = S at *
          have hmS : meF D = S.map siF := by rw [← hSS]; rfl
          have hSl : S.length = D.sigs.length + 1 := by rw [← hSS]; simp
          have hSm : ∀ s ∈ S, smSi s := fun s hs => by
            rw [← hSS] at hs
            rcases List.mem_append.1 hs with h | h
            · exact hsm.2.2.2.1.2 s h
            · rw [List.mem_singleton.1 h]
              exact hsm.2.2.2.2.2.2.1
          have hmw := meF_le D
          rw [hmS, List.map_map] at hmw
          rw [hmS] at hmf
          have hl3 : addF l (tyF D) = l2 := hl2.symm
          rw [hl3] at htf
          refine awp_loop (fun m st => ∃ i r2, i ≤ S.length ∧ m = S.length - i ∧ r2 = ((S.take i).map siF).foldl addF r ∧
              Le { env := [(1, .ptr ⟨g0, 1, 0⟩ 0), (4, slS r2), (5, dN k), (7, .sl false (S.map encSi)), (3, slS l2), (9, dN i)], σ := [(⟨g0, 1, 0⟩, .box 30 (prC p))] } st) S.length ?_ ?_
          · refine ⟨0, r, Nat.zero_le _, rfl, rfl, le_of ?_⟩
            simp only [go_sem, hn6_g0]
            all_goals first | exact rfl | exact ⟨rfl, rfl⟩ | trivial
          · rintro m st ⟨i, r2, hi, rfl, hr2, hle⟩
            refine awp_keep hle ?_
            clear hle
            refine awp_seq_k (fun K17 hK17 => ?_)
            refine awp_seq_k (fun K18 hK18 => ?_)
            by_cases hli : i < S.length
            · have hsi := hSm _ (List.getElem_mem hli)
              have hgs := getM (f := encSi) hli
              have hsti := sum_take (fun s => s.formals.length) hli
              have hrf : ((S.take (i + 1)).map siF).foldl addF r = addF r2 (siF S[i]) := by
                rw [List.take_add_one, List.getElem?_eq_getElem hli, List.map_append, List.foldl_append, ← hr2]
                rfl
              have hr2l : r2.length ≤ r.length + ((S.take i).map (fun s => s.formals.length)).sum := by
                have h1 := fold_len ((S.take i).map siF) r
                rw [← hr2, List.map_map] at h1
                exact h1
              have hmw2 : (S.map (fun s => s.formals.length)).sum ≤ wN (deTys D) := hmw
              have hsr2 : smL r2 := by
                rw [hr2]
                refine smL_fold _ _ hsr (fun s hs => ?_) ?_
                · obtain ⟨x, hx, rfl⟩ := List.mem_map.1 hs
                  exact (hSm x (List.mem_of_mem_take hx)).1
                · rw [List.map_map]
                  have : ((S.take i).map ((fun x => x.2) ∘ siF)).sum = ((S.take i).map (fun s => s.formals.length)).sum := rfl
                  omega
              refine awp_plain 4 (by kernel_rfl) rfl (fun g13 hg13 => ?_)
              simp only [go_sem, hli]
              refine hK18 _ ?_
              refine awp_t rfl ?_
              refine awp_skip ?_
              refine hK17 _ ?_
              refine awp_seq_k (fun K19 hK19 => ?_)
              refine awp_block ?_
              refine awp_seq_k (fun K20 hK20 => ?_)
              generalize S[i] = X at *
              refine awp_plain 1 (by kernel_rfl) rfl (fun g15 hg15 => ?_)
              simp only [go_sem]
              refine hK20 _ ?_
              refine awp_block ?_
              refine awp_loop (fun m st => ∃ j r3, j ≤ X.formals.length ∧ m = X.formals.length - j ∧ r3 = addK X.name j r2 ∧
                  Le { env := [(1, .ptr ⟨g0, 1, 0⟩ 0), (4, slS r3), (5, dN k), (7, .sl false (S.map encSi)), (3, slS l2), (9, dN i), (10, dN j)], σ := [(⟨g0, 1, 0⟩, .box 30 (prC p))] } st) X.formals.length ?_ ?_
              · refine ⟨0, r2, Nat.zero_le _, rfl, rfl, le_of ?_⟩
                simp only [go_sem]
                all_goals first | exact rfl | exact ⟨rfl, rfl⟩ | trivial
              · rintro m st ⟨j, r3, hj, rfl, hr3, hle⟩
                refine awp_keep hle ?_
                clear hle
                refine awp_seq_k (fun K21 hK21 => ?_)
                refine awp_seq_k (fun K22 hK22 => ?_)
                by_cases hlx : j < X.formals.length
                · have hsr3 : smL r3 := by rw [hr3]; exact smL_add hsi.1 hsr2 (by omega)
                  have hsm := hsi
                  have hnm := hsm.1
                  have hky := keyS_size X.name j
                  have hw1 : IntKind.u8.wrap ((j : Int) / 256) = (j : Int) / 256 := wrap8 (by omega) (by omega)
                  have hw2 : IntKind.u8.wrap ((j : Int) % 256) = (j : Int) % 256 := wrap8 (by omega) (by omega)
                  have f1 : (ByteArray.size (X.name) ≤ 9223372036854775806) = True := eq_true (by omega)
                  have f0 : ((256 : Int) = 0) = False := eq_false (by decide)
                  have hz := strOfNums_size ((j : Int) / 256) ((j : Int) % 256)
                  have f2 : (ByteArray.size (X.name) + 1 + (strOfNums [(j : Int) / 256, (j : Int) % 256]).size ≤ 9223372036854775807) = True := eq_true (by omega)
                  refine awp_plain 8 (by kernel_rfl) rfl (fun g16 hg16 => ?_)
                  simp only [go_sem, hlx, hgs]
                  refine hK22 _ ?_
                  refine awp_t rfl ?_
                  refine awp_skip ?_
                  refine hK21 _ ?_
                  refine awp_seq_k (fun K23 hK23 => ?_)
                  refine awp_block ?_
                  refine awp_any 17 (by kernel_rfl) (by kernel_rfl) rfl (fun g18 hg18 ops18 KR18 hops18 hKR18 => ?_)
                  refine qrun_eval 16 hops18 ?_
                  simp only [go_sem, hgs, f1, f0, if_true, if_false]
                  try simp (disch := omega) only [wrapN, wrapB, Int.tdiv_eq_ediv_of_nonneg, Int.tmod_eq_emod_of_nonneg]
                  try simp only [go_sem, key_fold, f2, if_true]
                  try simp (disch := omega) only [wrapN, wrapB, Int.tdiv_eq_ediv_of_nonneg, Int.tmod_eq_emod_of_nonneg]
                  refine qrun_pure hops18 rfl rfl rfl (put14_calls r3 hsr3.1 (keyS (X.name) j) (by omega) hsr3.2 _ _) (CoL.refl _) rfl ?_
                  refine qrun_last 0 hops18 ?_
                  simp only [go_sem]
                  refine aops_last 1 hops18 ?_
                  simp only [go_sem, if_true, if_false]
                  refine hKR18 _ ?_
                  refine hK23 _ ?_
                  refine awp_plain 3 (by kernel_rfl) rfl (fun g17 hg17 => ?_)
                  simp only [go_sem, if_true, if_false]
                  try simp (disch := omega) only [wrapN]
                  refine ⟨_, ?_, j + 1, putS r3 (keyS X.name j), hlx, rfl, by rw [addK, hr3], le_of ?_⟩
                  · omega
                  simp only [go_sem, if_true, if_false]
                  all_goals first | exact rfl | exact ⟨rfl, rfl⟩ | trivial | omega
                · have : j = X.formals.length := by omega
                  subst this
                  refine awp_plain 8 (by kernel_rfl) rfl (fun g16 hg16 => ?_)
                  simp only [go_sem, hlx, hgs]
                  refine hK22 _ ?_
                  refine awp_f rfl ?_
                  refine awp_exit ?_
                  refine hK19 _ ?_
                  refine awp_plain 3 (by kernel_rfl) rfl (fun g14 hg14 => ?_)
                  simp only [go_sem]
                  try simp (disch := omega) only [wrapN]
                  refine ⟨_, ?_, i + 1, r3, hli, rfl, by rw [hrf, hr3]; rfl, le_of ?_⟩
                  · omega
                  simp only [go_sem]
                  all_goals first | exact rfl | exact ⟨rfl, rfl⟩ | trivial | omega
            · have : i = S.length := by omega
              subst this
              rw [List.take_length] at hr2
              refine awp_plain 4 (by kernel_rfl) rfl (fun g13 hg13 => ?_)
              simp only [go_sem, hli]
              refine hK18 _ ?_
              refine awp_f rfl ?_
              refine awp_exit ?_
              refine hK8 _ ?_
              refine awp_plain 3 (by kernel_rfl) rfl (fun g5 hg5 => ?_)
              simp only [go_sem]
              try simp (disch := omega) only [wrapN]
              refine ⟨_, ?_, k + 1, l2, r2, hlt, rfl, ⟨htf.symm, by rw [hmf, hr2]⟩, le_of ?_⟩
              · omega
              simp only [go_sem]
              all_goals first | exact rfl | exact ⟨rfl, rfl⟩ | trivial | omega
    · have : k = p.decls.length := by omega
      subst this
      rw [List.take_length] at hl hr
      have e1 : l = tyKeys p := hl
      have e2 : r = meKeys p := hr
      have h1 : l.length ≤ 60000 := by rw [e1]; exact Nat.le_trans (tyKeys_len p) hw
      have h2 : r.length ≤ 60000 := by rw [e2]; exact Nat.le_trans (meKeys_len p) hw
      refine awp_plain 5 (by kernel_rfl) rfl (fun g4 hg4 => ?_)
      simp only [go_sem, hlt]
      refine hK7 _ ?_
      refine awp_f rfl ?_
      refine awp_exit ?_
      refine hK4 _ ?_
      refine awp_seq_k (fun K24 hK24 => ?_)
      refine awp_plain 6 (by kernel_rfl) rfl (fun g19 hg19 => ?_)
      simp only [go_sem]
      try simp (disch := omega) only [wrapN]
      refine hK24 _ ?_
      refine awp_ret ?_
      refine ends_ev rfl ?_
      simp only [go_sem]
      exact Co.of_eq (by rw [← e1, ← e2]; simp [])
end Go.Proofs.T


namespace Go.Proofs.T
open Go Go.Ab Go.RowKit

/-! ## The nodes of an expression as a list of the caller's own, and the height -/

set_option maxRecDepth 100000 in
theorem list05x_calls (t : Ex) (_hok0 : okEx t) (h0 : t.kids = []) (g d : Nat) : ACalls E 27 [encEx t] [] g d (.sl true [encEx t]) [] := by
  have hlt' : (((0 : Nat) : Int) < (t.kids.length : Int)) = False := eq_false (by rw [h0]; decide)
  refine acalls_of_awp (fn := Tryz.f27) (N := 23) Tryz.call27 Tryz.func27 rfl rfl (by simp) ?_
  simp only [go_sem]
  refine awp_seq_k (fun K1 hK1 => ?_)
  refine awp_plain 2 (by kernel_rfl) rfl (fun g0 hg0 => ?_)
  simp only [go_sem]
  refine hK1 _ ?_
  refine awp_seq_k (fun K2 hK2 => ?_)
  refine awp_plain 3 (by kernel_rfl) rfl (fun g1 hg1 => ?_)
  simp only [go_sem]
  refine hK2 _ ?_
  refine awp_seq_k (fun K3 hK3 => ?_)
  refine awp_seq_k (fun K4 hK4 => ?_)
  refine awp_plain 1 (by kernel_rfl) rfl (fun g2 hg2 => ?_)
  simp only [go_sem]
  refine hK4 _ ?_
  refine awp_block ?_
  refine awp_loop (fun m s => m = 0 ∧ Le { env := [(1, .ptr ⟨g0, 1, 0⟩ 0), (4, dN 0), (3, .sl true [encEx t])], σ := [(⟨g0, 1, 0⟩, .box 28 (exC t))] } s) 0 ?_ ?_
  · refine ⟨rfl, le_of ?_⟩
    simp only [go_sem, exC]
    all_goals first | exact rfl | exact ⟨rfl, rfl⟩ | trivial
  · rintro m s ⟨rfl, hle⟩
    refine awp_keep hle ?_
    clear hle
    refine awp_seq_k (fun K5 hK5 => ?_)
    refine awp_seq_k (fun K6 hK6 => ?_)
    refine awp_plain 5 (by kernel_rfl) rfl (fun g3 hg3 => ?_)
    simp only [go_sem, hlt', decide_false, exC]
    refine hK6 _ ?_
    refine awp_f rfl ?_
    refine awp_exit ?_
    refine hK3 _ ?_
    refine awp_seq_k (fun K7 hK7 => ?_)
    refine awp_plain 2 (by kernel_rfl) rfl (fun g6 hg6 => ?_)
    simp only [go_sem]
    refine hK7 _ ?_
    refine awp_ret ?_
    refine ends_ev rfl ?_
    simp only [go_sem]
    exact Co.refl _
set_option maxRecDepth 100000 in
theorem list05o_calls (t : Ex) (hok0 : okEx t) (hlen : (nodesEx t).length ≤ 1000000) (h0 : 0 < t.kids.length) (g d : Nat) : ACalls E 27 [encEx t] [] g d (.own ⟨g, d, 1⟩ (nodesEx t).length) [(⟨g, d, 1⟩, .arr 28 8 ((nodesEx t).map encEx))] := by
  have ih : ∀ x ∈ t.kids, okEx x → (nodesEx x).length ≤ 1000000 → ∀ g d, ACalls E 27 [encEx x] [] g d (slEx (nodesEx x)) [] := fun x _ hx hl g d => list05_calls x hx hl g d
  have hok := (okEx_iff t).1 hok0
  have hn := nodesEx_eq t
  have hl1 : (nodesExs t.kids).length + 1 ≤ 1000000 := by rw [hn] at hlen; simpa using hlen
  refine acalls_of_awp (fn := Tryz.f27) (N := 23) Tryz.call27 Tryz.func27 rfl rfl (by simp) ?_
  simp only [go_sem]
  refine awp_seq_k (fun K1 hK1 => ?_)
  refine awp_plain 2 (by kernel_rfl) rfl (fun g0 hg0 => ?_)
  simp only [go_sem]
  refine hK1 _ ?_
  refine awp_seq_k (fun K2 hK2 => ?_)
  refine awp_plain 3 (by kernel_rfl) rfl (fun g1 hg1 => ?_)
  simp only [go_sem]
  refine hK2 _ ?_
  refine awp_seq_k (fun K3 hK3 => ?_)
  refine awp_seq_k (fun K4 hK4 => ?_)
  refine awp_plain 1 (by kernel_rfl) rfl (fun g2 hg2 => ?_)
  simp only [go_sem]
  refine hK4 _ ?_
  refine awp_block ?_
  refine awp_loop (fun m s => ∃ k, k ≤ t.kids.length ∧ m = t.kids.length - k ∧ ((k = 0 ∧ Le { env := [(1, .ptr ⟨g0, 1, 0⟩ 0), (4, dN 0), (3, .sl true [encEx t])], σ := [(⟨g0, 1, 0⟩, .box 28 (exC t))] } s) ∨
      ∃ a i, a ≠ g0 ∧ Le { env := [(1, .ptr ⟨g0, 1, 0⟩ 0), (4, dN k), (3, .own ⟨a, i, 0⟩ (1 + (nodesExs (t.kids.take k)).length))], σ := [(⟨g0, 1, 0⟩, .box 28 (exC t)), (⟨a, i, 0⟩, .arr 28 8 (encEx t :: (nodesExs (t.kids.take k)).map encEx))] } s)) t.kids.length ?_ ?_
  · refine ⟨0, Nat.zero_le _, rfl, .inl ⟨rfl, le_of ?_⟩⟩
    simp only [go_sem, exC]
    all_goals first | exact rfl | exact ⟨rfl, rfl⟩ | trivial
  · rintro m s ⟨k, hk, rfl, ⟨rfl, hle⟩ | ⟨a, i, ha, hle⟩⟩
    · refine awp_keep hle ?_
      clear hle
      refine awp_seq_k (fun K5 hK5 => ?_)
      refine awp_seq_k (fun K6 hK6 => ?_)
      by_cases hlt : 0 < t.kids.length
      · have hlt' : (((0 : Nat) : Int) < (t.kids.length : Int)) = True := eq_true (by omega)
        have hb := nodesExs_get1 t.kids 0 hlt
        have hp := nodesEx_pos t.kids[0]
        refine awp_plain 5 (by kernel_rfl) rfl (fun g3 hg3 => ?_)
        simp only [go_sem, hlt', decide_true, exC]
        refine hK6 _ ?_
        refine awp_t rfl ?_
        refine awp_skip ?_
        refine hK5 _ ?_
        refine awp_seq_k (fun K7 hK7 => ?_)
        refine awp_block ?_
        refine awp_ops (by kernel_rfl) rfl (fun g5 hg5 ops5 KR5 hops5 hKR5 => ?_)
        refine aops_eval 6 hops5 ?_
        simp only [go_sem, getM hlt]
        have hn5_g0 : g5 ≠ g0 := fresh_g hg5 1 0 (by simp [go_sem])
        refine aops_pure hops5 rfl rfl rfl (ih _ (List.getElem_mem hlt) (hok.2.2.2.2 _ (List.getElem_mem hlt)) (by omega) _ _) (CoL.refl _) ?_
        refine aops_appx hops5 rfl rfl rfl rfl rfl es26 sz28 by28 ze28 rfl (by decide) ?_
        simp only [go_sem, okRowsEx]
        refine ⟨hp, ⟨by omega, by omega⟩, ?_⟩
        refine aops_last 1 hops5 ?_
        simp only [go_sem]
        refine hKR5 _ ?_
        refine hK7 _ ?_
        refine awp_plain 3 (by kernel_rfl) rfl (fun g4 hg4 => ?_)
        simp only [go_sem, exC]
        try simp (disch := omega) only [wrapN]
        refine ⟨_, ?_, 1, hlt, rfl, .inr ⟨g5, 21, hn5_g0, le_of ?_⟩⟩
        · omega
        have h1 := nodesExs_take t.kids 0 hlt
        rw [List.take_zero] at h1
        have h2 : nodesExs (t.kids.take 1) = nodesEx t.kids[0] := h1
        simp only [go_sem, h2, hn5_g0, Ne.symm hn5_g0]
        all_goals first | exact rfl | exact ⟨rfl, rfl⟩ | trivial
      · exact absurd h0 hlt
    · refine awp_keep hle ?_
      clear hle
      refine awp_seq_k (fun K8 hK8 => ?_)
      refine awp_seq_k (fun K9 hK9 => ?_)
      by_cases hlt : k < t.kids.length
      · have hb := nodesExs_get1 t.kids k hlt
        have hc := nodesExs_len t.kids (k + 1)
        have h1 := nodesExs_take t.kids k hlt
        rw [h1, List.length_append] at hc
        refine awp_plain 5 (by kernel_rfl) rfl (fun g3 hg3 => ?_)
        simp only [go_sem, hlt, exC, ha]
        refine hK9 _ ?_
        refine awp_t rfl ?_
        refine awp_skip ?_
        refine hK8 _ ?_
        refine awp_seq_k (fun K10 hK10 => ?_)
        refine awp_block ?_
        refine awp_ops (by kernel_rfl) rfl (fun g5 hg5 ops5 KR5 hops5 hKR5 => ?_)
        refine aops_eval 6 hops5 ?_
        simp only [go_sem, getM hlt, ha]
        refine aops_pure hops5 rfl rfl rfl (ih _ (List.getElem_mem hlt) (hok.2.2.2.2 _ (List.getElem_mem hlt)) (by omega) _ _) (CoL.refl _) ?_
        refine aops_app hops5 rfl rfl rfl rfl rfl es26 sz28 by28 ze28 rfl (by decide) ?_
        simp only [go_sem, okRowsEx, Ne.symm ha]
        first | refine ⟨⟨by omega, by omega⟩, ?_⟩ | skip
        have hn5_g0 : g5 ≠ g0 := fresh_g hg5 1 0 (by simp [go_sem])
        refine aops_last 1 hops5 ?_
        simp only [go_sem]
        refine hKR5 _ ?_
        refine hK10 _ ?_
        refine awp_plain 3 (by kernel_rfl) rfl (fun g4 hg4 => ?_)
        simp only [go_sem, exC]
        try simp (disch := omega) only [wrapN]
        refine ⟨_, ?_, k + 1, hlt, rfl, .inr ⟨g5, 21, hn5_g0, le_of ?_⟩⟩
        · omega
        simp only [go_sem, h1, List.map_append, List.length_append, Nat.add_assoc, hn5_g0, Ne.symm hn5_g0]
        all_goals first | exact rfl | exact ⟨rfl, rfl⟩ | trivial | omega
      · have : k = t.kids.length := by omega
        subst this
        refine awp_plain 5 (by kernel_rfl) rfl (fun g3 hg3 => ?_)
        simp only [go_sem, hlt, exC, ha]
        refine hK9 _ ?_
        refine awp_f rfl ?_
        refine awp_exit ?_
        refine hK3 _ ?_
        refine awp_seq_k (fun K11 hK11 => ?_)
        refine awp_plain 2 (by kernel_rfl) rfl (fun g6 hg6 => ?_)
        simp only [go_sem]
        refine hK11 _ ?_
        refine awp_ret ?_
        rw [hn]
        refine ends_own [⟨a, i, 0⟩] rfl ?_
        simp only [go_sem, newSto, List.map_cons, List.length_cons, Ne.symm ha]
        exact Co.of_eq (by rw [Nat.add_comm])

def hgt (p : Prg) (n : Nat) : Nat := dmax (tyPr p) 1 * (n + 2)
theorem okTys_pr {p : Prg} (hp : smPr p) : ∀ t ∈ tyPr p, okTy t := by
  have hsi : ∀ s : Sig, smSi s → ∀ t ∈ siTys s, okTy t := fun s hs t ht => by
    unfold siTys at ht
    simp only [List.mem_append, List.mem_map, List.mem_singleton] at ht
    rcases ht with (⟨f, hf, rfl⟩ | ⟨f, hf, rfl⟩) | rfl
    · exact smTy.ok _ (hs.2.1.2 f hf).2
    · exact smTy.ok _ (hs.2.2.1.2 f hf).2
    · exact smTy.ok _ hs.2.2.2
  have hex : ∀ e : Ex, smEx e → ∀ t ∈ bodyTys e, okTy t := by
    intro e he t ht
    unfold bodyTys at ht
    obtain ⟨x, hx, ht⟩ := List.mem_flatMap.1 ht
    have hxs : ∀ e : Ex, smEx e → ∀ x ∈ nodesEx e, smEx x := by
      refine Ex.ind fun e ih he x hx => ?_
      rw [nodesEx_eq] at hx
      rcases List.mem_cons.1 hx with rfl | hx
      · exact he
      · rw [nodesExs_flat] at hx
        obtain ⟨y, hy, hx⟩ := List.mem_flatMap.1 hx
        exact ih y hy (((smEx_iff e).1 he).2.2.2.2 y hy) x hx
    have h := (smEx_iff x).1 (hxs e he x hx)
    unfold bodyT at ht
    rcases List.mem_append.1 ht with ht | ht
    · exact smTy.ok _ (h.2.2.1.2 t ht)
    · split at ht
      · rw [List.mem_singleton.1 ht]
        exact smTy.ok _ h.2.1
      · cases ht
  intro t ht
  unfold tyPr at ht
  rcases List.mem_append.1 ht with ht | ht
  · obtain ⟨d, hd, ht⟩ := List.mem_flatMap.1 ht
    have h := hp.1.2 d hd
    unfold tyDe at ht
    simp only [List.mem_append, List.mem_map, List.mem_flatMap] at ht
    rcases ht with ((⟨f, hf, rfl⟩ | ⟨f, hf, rfl⟩) | ⟨s, hs, ht⟩) | ht
    · exact smTy.ok _ (h.2.1.2 f hf).2
    · exact smTy.ok _ (h.2.2.1.2 f hf).2
    · exact hsi s (h.2.2.2.1.2 s hs) t ht
    · split at ht
      · rcases List.mem_append.1 ht with ht | ht
        · exact hsi _ h.2.2.2.2.2.2.1 t ht
        · exact hex _ h.2.2.2.2.2.2.2 t ht
      · cases ht
  · exact hex _ hp.2 t ht
theorem tyPr_sub (p : Prg) : ∀ t ∈ tyPr p, t ∈ prTys p := by
  have hex : ∀ e : Ex, ∀ t ∈ bodyTys e, t ∈ exTys e := by
    intro e t ht
    obtain ⟨x, hx, ht⟩ := List.mem_flatMap.1 ht
    refine List.mem_flatMap.2 ⟨x, hx, ?_⟩
    unfold bodyT at ht
    rcases List.mem_append.1 ht with ht | ht
    · exact List.mem_cons_of_mem _ ht
    · split at ht
      · rw [List.mem_singleton.1 ht]
        exact List.mem_cons_self
      · cases ht
  intro t ht
  unfold tyPr at ht
  unfold prTys
  rcases List.mem_append.1 ht with ht | ht
  · obtain ⟨d, hd, ht⟩ := List.mem_flatMap.1 ht
    refine List.mem_append_left _ (List.mem_flatMap.2 ⟨d, hd, ?_⟩)
    unfold tyDe at ht
    unfold deTys
    simp only [List.mem_append] at ht ⊢
    rcases ht with ((ht | ht) | ht) | ht
    · exact .inl (.inl (.inl (.inl ht)))
    · exact .inl (.inl (.inl (.inr ht)))
    · exact .inl (.inl (.inr ht))
    · split at ht
      · rcases List.mem_append.1 ht with ht | ht
        · exact .inl (.inr ht)
        · exact .inr (hex _ t ht)
      · cases ht
  · exact List.mem_append_right _ (hex _ t ht)
theorem dmax_pr {p : Prg} (hw : wN (prTys p) ≤ 600) : dmax (tyPr p) 1 ≤ 600 := by
  refine dmax_le _ _ _ (by omega) (fun t ht => ?_)
  exact Nat.le_trans (depTy_le t) (Nat.le_trans (wN_mem (tyPr_sub p t ht)) hw)
theorem hgt_le {p : Prg} {n : Nat} (hw : wN (prTys p) ≤ 600) (hn : n ≤ 1200) : hgt p n ≤ 1000000 := by
  have := dmax_pr hw
  unfold hgt
  exact Nat.le_trans (Nat.mul_le_mul this (show n + 2 ≤ 1202 by omega)) (by decide)
set_option maxRecDepth 100000 in
theorem height22_calls (p : Prg) (hp : smPr p) (hw : wN (prTys p) ≤ 600) (g q : Nat) : ACalls E 9 [encPr p] [] g q (dN (hgt p ((tyKeys p).length + (meKeys p).length))) [] := by
  have hT := tyPr_le p
  have hok := okTys_pr hp
  have hdm := dmax_pr hw
  have hty := tyKeys_len p
  have hme := meKeys_len p
  have hg := hgt_le (n := (tyKeys p).length + (meKeys p).length) hw (by omega)
  refine acalls_of_awp (fn := Tryz.f9) (N := 26) Tryz.call9 Tryz.func9 rfl rfl (by simp) ?_
  simp only [go_sem]
  refine awp_seq_k (fun K1 hK1 => ?_)
  refine awp_plain 2 (by kernel_rfl) rfl (fun g0 hg0 => ?_)
  simp only [go_sem]
  refine hK1 _ ?_
  refine awp_seq_k (fun K2 hK2 => ?_)
  refine awp_ops (by kernel_rfl) rfl (fun g1 hg1 ops1 KR1 hops1 hKR1 => ?_)
  refine aops_eval 1 hops1 ?_
  simp only [go_sem]
  refine aops_pure hops1 rfl rfl rfl (types06_calls p hp (by omega) _ _) (CoL.refl _) ?_
  refine aops_last 1 hops1 ?_
  simp only [go_sem]
  refine hKR1 _ ?_
  refine hK2 _ ?_
  refine awp_seq_k (fun K3 hK3 => ?_)
  refine awp_plain 1 (by kernel_rfl) rfl (fun g2 hg2 => ?_)
  simp only [go_sem]
  refine hK3 _ ?_
  refine awp_seq_k (fun K4 hK4 => ?_)
  refine awp_seq_k (fun K5 hK5 => ?_)
  refine awp_plain 1 (by kernel_rfl) rfl (fun g3 hg3 => ?_)
  simp only [go_sem]
  refine hK5 _ ?_
  refine awp_block ?_
  refine awp_loop (fun m s => ∃ k n, k ≤ (tyPr p).length ∧ m = (tyPr p).length - k ∧ dmax ((tyPr p).drop k) n = dmax (tyPr p) 1 ∧ Le { env := [(1, .ptr ⟨g0, 1, 0⟩ 0), (3, slTy (tyPr p)), (4, dN n), (5, dN k)], σ := [(⟨g0, 1, 0⟩, .box 30 (prC p))] } s) (tyPr p).length ?_ ?_
  · refine ⟨0, 1, Nat.zero_le _, rfl, rfl, le_of ?_⟩
    simp only [go_sem]
    all_goals first | exact rfl | exact ⟨rfl, rfl⟩ | trivial
  · rintro m s ⟨k, n, hk, rfl, hc, hle⟩
    refine awp_keep hle ?_
    clear hle
    refine awp_seq_k (fun K6 hK6 => ?_)
    refine awp_seq_k (fun K7 hK7 => ?_)
    by_cases hlt : k < (tyPr p).length
    · have hmem := List.getElem_mem hlt
      have hkn : (namesTy (tyPr p)[k]).length ≤ 1000000 := Nat.le_trans (wN_mem (tyPr_sub p _ hmem)) (by omega)
      rw [dmax_drop hlt] at hc
      refine awp_plain 4 (by kernel_rfl) rfl (fun g4 hg4 => ?_)
      simp only [go_sem, hlt]
      refine hK7 _ ?_
      refine awp_t rfl ?_
      refine awp_skip ?_
      refine hK6 _ ?_
      refine awp_seq_k (fun K8 hK8 => ?_)
      refine awp_block ?_
      refine awp_ops (by kernel_rfl) rfl (fun g6 hg6 ops6 KR6 hops6 hKR6 => ?_)
      refine aops_eval 5 hops6 ?_
      simp only [go_sem, getM hlt]
      by_cases hgk : n < depTy (tyPr p)[k]
      · have g1 : ((depTy (tyPr p)[k] : Int) > (n : Int)) = True := eq_true (by omega)
        rw [if_pos hgk] at hc
        refine aops_pure hops6 rfl rfl rfl (depth04_calls _ (hok _ hmem) hkn _ _) (CoL.refl _) ?_
        refine aops_last 2 hops6 ?_
        simp only [go_sem, g1, if_true]
        refine hKR6 _ ?_
        refine hK8 _ ?_
        refine awp_plain 3 (by kernel_rfl) rfl (fun g5 hg5 => ?_)
        simp only [go_sem]
        try simp (disch := omega) only [wrapN]
        refine ⟨_, ?_, k + 1, _, hlt, rfl, hc, le_of ?_⟩
        · omega
        simp only [go_sem]
        all_goals first | exact rfl | exact ⟨rfl, rfl⟩ | trivial | omega
      · have g1 : ((depTy (tyPr p)[k] : Int) > (n : Int)) = False := eq_false (by omega)
        rw [if_neg hgk] at hc
        refine aops_pure hops6 rfl rfl rfl (depth04_calls _ (hok _ hmem) hkn _ _) (CoL.refl _) ?_
        refine aops_last 2 hops6 ?_
        simp only [go_sem, g1, if_false]
        refine hKR6 _ ?_
        refine hK8 _ ?_
        refine awp_plain 3 (by kernel_rfl) rfl (fun g5 hg5 => ?_)
        simp only [go_sem]
        try simp (disch := omega) only [wrapN]
        refine ⟨_, ?_, k + 1, _, hlt, rfl, hc, le_of ?_⟩
        · omega
        simp only [go_sem]
        all_goals first | exact rfl | exact ⟨rfl, rfl⟩ | trivial | omega
    · have : k = (tyPr p).length := by omega
      subst this
      rw [List.drop_length] at hc
      have hn : n = dmax (tyPr p) 1 := hc
      have hm : (n : Int) * (((tyKeys p).length + (meKeys p).length : Nat) + 2 : Int) = (hgt p ((tyKeys p).length + (meKeys p).length) : Nat) := by
        rw [hn]; unfold hgt; push_cast; rfl
      refine awp_plain 4 (by kernel_rfl) rfl (fun g4 hg4 => ?_)
      simp only [go_sem, hlt]
      refine hK7 _ ?_
      refine awp_f rfl ?_
      refine awp_exit ?_
      refine hK4 _ ?_
      refine awp_seq_k (fun K9 hK9 => ?_)
      refine awp_ops (by kernel_rfl) rfl (fun g7 hg7 ops7 KR7 hops7 hKR7 => ?_)
      refine aops_eval 2 hops7 ?_
      simp only [go_sem]
      refine aops_pure hops7 rfl rfl rfl (nodes22_calls p hp (by omega) _ _) (CoL.refl _) ?_
      refine aops_last 3 hops7 ?_
      simp only [go_sem]
      try simp (disch := omega) only [wrapN]
      try simp only [go_sem, hm]
      try simp (disch := omega) only [wrapN, wrapB, Int.tdiv_eq_ediv_of_nonneg, Int.tmod_eq_emod_of_nonneg]
      refine hKR7 _ ?_
      refine hK9 _ ?_
      refine awp_ret ?_
      refine ends_ev rfl ?_
      simp only [go_sem]
      exact Co.refl _
end Go.Proofs.T


namespace Go.Proofs.T
open Go Go.Ab Go.RowKit

/-! ## Lists of types, joined -/

theorem growTy_calls (n : Nat) (hn : n ≤ 1000000) (g d : Nat) : ACalls E 125 [.val (.slice none 0 0), dN n] [] g d (.own ⟨g, d, 1⟩ 0) [(⟨g, d, 1⟩, .arr 25 3 [])] := by
  refine acalls_row (l := [.slice none 0 0, .int .i64 n]) Tryz.call125 fun w0 _ w _ => ?_
  by_cases h0 : n = 0
  · subst h0
    refine (Any8.slices_Grow_room Tryz.layGrowTy none 0 0 0 w (by omega) (by omega) (by omega) (by omega)).mono ?_
    rintro e w' ⟨rfl, rfl⟩
    exact ⟨_, rfl, Gr.of ⟨rfl, rfl, rfl, Nat.le_refl _, fun _ _ _ => rfl⟩, .inl rfl⟩
  · obtain ⟨i0, hi0⟩ : ∃ i0, Tryz.prog.info? 25 = some i0 := by
      cases h : Tryz.prog.info? 25 with
      | none => have := sz25; simp [szOf, h] at this
      | some i => exact ⟨i, rfl⟩
    have hs0 : i0.size = 3 := by have := sz25; simpa [szOf, hi0] using this
    have hb0 : i0.bytes = 48 := by have := by25; simpa [bytesOf, hi0] using this
    have hz0 := ze25
    simp only [zeroOf, hi0, Option.bind_some] at hz0
    refine (Any8.slices_Grow_grow Tryz.layGrowTy i0 _ hi0 hz0 (by omega) none 0 0 n [] w (by omega) (by omega) (by rw [hb0]; omega) (by omega) (by simp) (fun _ => rfl) (fun a h => by cases h)).mono ?_
    rintro e w' ⟨rfl, rfl⟩
    have hh : ∀ (A : Array Value) (T : TypeId), (w.drew.alloc (.cells A T)).heap[w.heap.size]? = some (.cells A T (0, 0)) := fun A T => by
      show (w.heap.push _)[w.heap.size]? = _
      exact Array.getElem?_push_size
    have ht : Tryz.layGrowTy_ren.t 25 = 25 := by kernel_rfl
    rw [ht]
    have hg : ∀ (A : Array Value) (T : TypeId), Gr w (w.drew.alloc (.cells A T)) none := fun A T => by
      refine ⟨⟨rfl, rfl, rfl, ?_, fun k hk _ => ?_⟩, Nat.le_succ _⟩
      · show w.heap.size ≤ (w.heap.push _).size
        rw [Array.size_push]
        omega
      · show (w.heap.push _)[k]? = _
        rw [Array.getElem?_push_lt hk, Array.getElem?_eq_getElem hk]
    refine ⟨_, rfl, hg _ _, .inr ⟨_, _, rfl, hh _ _, grownCap_le_maxLen _ _ _ _ (by unfold maxLen; omega), ?_⟩⟩
    · have h5 : (Value.agg #[.string ByteArray.empty, .slice none 0 0, .int .i64 0]).cells.size = 3 := rfl
      have := grownCap_ge w n 0 25
      have e0 : (([] : List Value).toArray).size = 0 := rfl
      rw [Array.size_append, Array.size_append, size_zeroCells, size_zeroCells, h5, e0, Nat.zero_add n]
      revert this
      generalize grownCap w n 0 25 = c
      intro this
      omega

def flatT (ls : List (List Ty)) (k : Nat) : List Ty := (ls.take k).flatten
theorem flatT_succ (ls : List (List Ty)) (k : Nat) (h : k < ls.length) : flatT ls (k + 1) = flatT ls k ++ ls[k] := by
  unfold flatT
  rw [List.take_add_one, List.getElem?_eq_getElem h, List.flatten_append]
  simp only [Option.toList, List.flatten_cons, List.flatten_nil, List.append_nil]

theorem concatTy_calls (x : Bool) (ls : List (List Ty)) (hl : ls.length ≤ 1000) (hls : ∀ k, k ≤ ls.length → (flatT ls k).length ≤ 1000000) (g d : Nat) :
    ACalls E 86 [.sl x (ls.map slTy)] [] g d (slTy (flatT ls ls.length)) [] := by
  refine acalls_of_awp (fn := Tryz.f86) (N := 36) Tryz.call86 Tryz.func86 rfl rfl (by simp) ?_
  simp only [go_sem]
  refine awp_seq_k (fun K1 hK1 => ?_)
  refine awp_plain 1 (by kernel_rfl) rfl (fun g0 hg0 => ?_)
  simp only [go_sem]
  refine hK1 _ ?_
  refine awp_seq_k (fun K2 hK2 => ?_)
  refine awp_plain 1 (by kernel_rfl) rfl (fun g1 hg1 => ?_)
  simp only [go_sem]
  refine hK2 _ ?_
  refine awp_seq_k (fun K3 hK3 => ?_)
  refine awp_seq_k (fun K4 hK4 => ?_)
  refine awp_plain 3 (by kernel_rfl) rfl (fun g2 hg2 => ?_)
  simp only [go_sem]
  refine hK4 _ ?_
  refine awp_block ?_
  refine awp_loop (fun m s => ∃ k, k ≤ ls.length ∧ m = ls.length - k ∧
      Le { env := [(0, .sl x (ls.map slTy)), (3, dN (flatT ls k).length), (9, .sl x (ls.map slTy)), (10, dN ls.length), (11, dN k)], σ := [] } s) ls.length ?_ ?_
  · refine ⟨0, Nat.zero_le _, rfl, le_of ?_⟩
    simp only [go_sem, flatT]
    trivial
  · rintro m s ⟨k, hk, rfl, hle⟩
    refine awp_keep hle ?_
    clear hle
    by_cases h : k < ls.length
    · have hb := hls (k + 1) h
      have hb' : (flatT ls (k + 1)).length = (flatT ls k).length + ls[k].length := by rw [flatT_succ _ _ h, List.length_append]
      refine awp_seq_k (fun K5 hK5 => ?_)
      refine awp_plain 1 (by kernel_rfl) rfl (fun g3 hg3 => ?_)
      simp only [go_sem, h]
      refine hK5 _ ?_
      refine awp_seq_k (fun K6 hK6 => ?_)
      refine awp_t rfl ?_
      refine awp_skip ?_
      refine hK6 _ ?_
      refine awp_seq_k (fun K7 hK7 => ?_)
      refine awp_block ?_
      refine awp_seq_k (fun K8 hK8 => ?_)
      refine awp_plain 3 (by kernel_rfl) rfl (fun g4 hg4 => ?_)
      simp only [go_sem, getM h]
      refine hK8 _ ?_
      refine awp_seq_k (fun K9 hK9 => ?_)
      have h0 : ¬ (((flatT ls k).length : Int) + ls[k].length < 0) := by omega
      refine awp_plain 5 (by kernel_rfl) rfl (fun g5 hg5 => ?_)
      simp only [go_sem]
      try simp (disch := omega) only [wrapN]
      refine hK9 _ ?_
      refine awp_seq_k (fun K10 hK10 => ?_)
      refine awp_plain 2 (by kernel_rfl) rfl (fun g6 hg6 => ?_)
      simp only [go_sem, h0]
      refine hK10 _ ?_
      refine awp_f rfl ?_
      refine awp_skip ?_
      refine hK7 _ ?_
      refine awp_plain 2 (by kernel_rfl) rfl (fun g8 hg8 => ?_)
      simp only [go_sem]
      try simp (disch := omega) only [wrapN]
      refine ⟨_, ?_, k + 1, h, rfl, le_of ?_⟩
      · omega
      rw [hb']
      simp only [go_sem]
      omega
    · have : k = ls.length := by omega
      subst this
      have hb := hls _ (Nat.le_refl _)
      refine awp_seq_k (fun K11 hK11 => ?_)
      refine awp_plain 1 (by kernel_rfl) rfl (fun g3 hg3 => ?_)
      simp only [go_sem, h]
      refine hK11 _ ?_
      refine awp_seq_k (fun K12 hK12 => ?_)
      refine awp_f rfl ?_
      refine awp_exit ?_
      refine hK3 _ ?_
      refine awp_seq_k (fun K13 hK13 => ?_)
      refine awp_ops (by kernel_rfl) rfl (fun g9 hg9 ops9 KR9 hops9 hKR9 => ?_)
      refine aops_eval 1 hops9 ?_
      simp only [go_sem]
      refine aops_pure hops9 rfl rfl rfl (growTy_calls _ hb _ _) (CoL.refl _) ?_
      refine aops_last 1 hops9 ?_
      simp only [go_sem]
      refine hKR9 _ ?_
      refine hK13 _ ?_
      refine awp_seq_k (fun K14 hK14 => ?_)
      refine awp_seq_k (fun K15 hK15 => ?_)
      refine awp_plain 3 (by kernel_rfl) rfl (fun g10 hg10 => ?_)
      simp only [go_sem]
      refine hK15 _ ?_
      refine awp_block ?_
      refine awp_loop (fun m s => ∃ k a i j, k ≤ ls.length ∧ m = ls.length - k ∧
          Le { env := [(6, .own ⟨a, i, j⟩ (flatT ls k).length), (25, .sl x (ls.map slTy)), (26, dN ls.length), (27, dN k)], σ := [(⟨a, i, j⟩, .arr 25 3 ((flatT ls k).map encTy))] } s) ls.length ?_ ?_
      · refine ⟨0, g9, 24, 1, Nat.zero_le _, rfl, le_of ?_⟩
        simp only [go_sem, flatT]
        trivial
      · rintro m s ⟨k, a, i, j, hk, rfl, hle⟩
        refine awp_keep hle ?_
        clear hle
        by_cases h : k < ls.length
        · have hb := hls (k + 1) h
          have hb' : (flatT ls (k + 1)).length = (flatT ls k).length + ls[k].length := by rw [flatT_succ _ _ h, List.length_append]
          refine awp_seq_k (fun K16 hK16 => ?_)
          refine awp_plain 1 (by kernel_rfl) rfl (fun g11 hg11 => ?_)
          simp only [go_sem, h]
          refine hK16 _ ?_
          refine awp_seq_k (fun K17 hK17 => ?_)
          refine awp_t rfl ?_
          refine awp_skip ?_
          refine hK17 _ ?_
          refine awp_seq_k (fun K18 hK18 => ?_)
          refine awp_block ?_
          refine awp_seq_k (fun K19 hK19 => ?_)
          refine awp_plain 3 (by kernel_rfl) rfl (fun g12 hg12 => ?_)
          simp only [go_sem, getM h]
          refine hK19 _ ?_
          refine awp_ops (by kernel_rfl) rfl (fun g13 hg13 ops13 KR13 hops13 hKR13 => ?_)
          refine aops_eval 2 hops13 ?_
          simp only [go_sem]
          refine aops_app hops13 rfl rfl rfl rfl rfl es23 sz25 by25 ze25 rfl (by decide) ?_
          simp only [go_sem, okRowsTy]
          first | refine ⟨⟨by omega, by omega⟩, ?_⟩ | skip
          refine aops_last 1 hops13 ?_
          simp only [go_sem]
          refine hKR13 _ ?_
          refine hK18 _ ?_
          refine awp_plain 2 (by kernel_rfl) rfl (fun g14 hg14 => ?_)
          simp only [go_sem]
          try simp (disch := omega) only [wrapN]
          refine ⟨_, ?_, k + 1, g13, 33, 0, h, rfl, le_of ?_⟩
          · omega
          rw [flatT_succ _ _ h]
          simp only [go_sem]
          omega
        · have : k = ls.length := by omega
          subst this
          refine awp_seq_k (fun K20 hK20 => ?_)
          refine awp_plain 1 (by kernel_rfl) rfl (fun g11 hg11 => ?_)
          simp only [go_sem, h]
          refine hK20 _ ?_
          refine awp_seq_k (fun K21 hK21 => ?_)
          refine awp_f rfl ?_
          refine awp_exit ?_
          refine hK14 _ ?_
          refine awp_seq_k (fun K22 hK22 => ?_)
          refine awp_plain 2 (by kernel_rfl) rfl (fun g15 hg15 => ?_)
          simp only [go_sem]
          refine hK22 _ ?_
          refine awp_ret ?_
          refine ret_frz ⟨a, i, j⟩ ?_
          simp only [go_sem]
          refine ends_ev rfl ?_
          simp only [go_sem]
          exact Co.refl _
theorem concatTo_calls (x : Bool) (ls : List (List Ty)) (hl : ls.length ≤ 1000) (hls : ∀ k, k ≤ ls.length → (flatT ls k).length ≤ 1000000) (g d : Nat) :
    ACalls E 86 [.sl x (ls.map slTy)] [] g d (.own ⟨g, d, 1⟩ (flatT ls ls.length).length) [(⟨g, d, 1⟩, .arr 25 3 ((flatT ls ls.length).map encTy))] := by
  refine acalls_of_awp (fn := Tryz.f86) (N := 36) Tryz.call86 Tryz.func86 rfl rfl (by simp) ?_
  simp only [go_sem]
  refine awp_seq_k (fun K1 hK1 => ?_)
  refine awp_plain 1 (by kernel_rfl) rfl (fun g0 hg0 => ?_)
  simp only [go_sem]
  refine hK1 _ ?_
  refine awp_seq_k (fun K2 hK2 => ?_)
  refine awp_plain 1 (by kernel_rfl) rfl (fun g1 hg1 => ?_)
  simp only [go_sem]
  refine hK2 _ ?_
  refine awp_seq_k (fun K3 hK3 => ?_)
  refine awp_seq_k (fun K4 hK4 => ?_)
  refine awp_plain 3 (by kernel_rfl) rfl (fun g2 hg2 => ?_)
  simp only [go_sem]
  refine hK4 _ ?_
  refine awp_block ?_
  refine awp_loop (fun m s => ∃ k, k ≤ ls.length ∧ m = ls.length - k ∧
      Le { env := [(0, .sl x (ls.map slTy)), (3, dN (flatT ls k).length), (9, .sl x (ls.map slTy)), (10, dN ls.length), (11, dN k)], σ := [] } s) ls.length ?_ ?_
  · refine ⟨0, Nat.zero_le _, rfl, le_of ?_⟩
    simp only [go_sem, flatT]
    trivial
  · rintro m s ⟨k, hk, rfl, hle⟩
    refine awp_keep hle ?_
    clear hle
    by_cases h : k < ls.length
    · have hb := hls (k + 1) h
      have hb' : (flatT ls (k + 1)).length = (flatT ls k).length + ls[k].length := by rw [flatT_succ _ _ h, List.length_append]
      refine awp_seq_k (fun K5 hK5 => ?_)
      refine awp_plain 1 (by kernel_rfl) rfl (fun g3 hg3 => ?_)
      simp only [go_sem, h]
      refine hK5 _ ?_
      refine awp_seq_k (fun K6 hK6 => ?_)
      refine awp_t rfl ?_
      refine awp_skip ?_
      refine hK6 _ ?_
      refine awp_seq_k (fun K7 hK7 => ?_)
      refine awp_block ?_
      refine awp_seq_k (fun K8 hK8 => ?_)
      refine awp_plain 3 (by kernel_rfl) rfl (fun g4 hg4 => ?_)
      simp only [go_sem, getM h]
      refine hK8 _ ?_
      refine awp_seq_k (fun K9 hK9 => ?_)
      have h0 : ¬ (((flatT ls k).length : Int) + ls[k].length < 0) := by omega
      refine awp_plain 5 (by kernel_rfl) rfl (fun g5 hg5 => ?_)
      simp only [go_sem]
      try simp (disch := omega) only [wrapN]
      refine hK9 _ ?_
      refine awp_seq_k (fun K10 hK10 => ?_)
      refine awp_plain 2 (by kernel_rfl) rfl (fun g6 hg6 => ?_)
      simp only [go_sem, h0]
      refine hK10 _ ?_
      refine awp_f rfl ?_
      refine awp_skip ?_
      refine hK7 _ ?_
      refine awp_plain 2 (by kernel_rfl) rfl (fun g8 hg8 => ?_)
      simp only [go_sem]
      try simp (disch := omega) only [wrapN]
      refine ⟨_, ?_, k + 1, h, rfl, le_of ?_⟩
      · omega
      rw [hb']
      simp only [go_sem]
      omega
    · have : k = ls.length := by omega
      subst this
      have hb := hls _ (Nat.le_refl _)
      refine awp_seq_k (fun K11 hK11 => ?_)
      refine awp_plain 1 (by kernel_rfl) rfl (fun g3 hg3 => ?_)
      simp only [go_sem, h]
      refine hK11 _ ?_
      refine awp_seq_k (fun K12 hK12 => ?_)
      refine awp_f rfl ?_
      refine awp_exit ?_
      refine hK3 _ ?_
      refine awp_seq_k (fun K13 hK13 => ?_)
      refine awp_ops (by kernel_rfl) rfl (fun g9 hg9 ops9 KR9 hops9 hKR9 => ?_)
      refine aops_eval 1 hops9 ?_
      simp only [go_sem]
      refine aops_pure hops9 rfl rfl rfl (growTy_calls _ hb _ _) (CoL.refl _) ?_
      refine aops_last 1 hops9 ?_
      simp only [go_sem]
      refine hKR9 _ ?_
      refine hK13 _ ?_
      refine awp_seq_k (fun K14 hK14 => ?_)
      refine awp_seq_k (fun K15 hK15 => ?_)
      refine awp_plain 3 (by kernel_rfl) rfl (fun g10 hg10 => ?_)
      simp only [go_sem]
      refine hK15 _ ?_
      refine awp_block ?_
      refine awp_loop (fun m s => ∃ k a i j, k ≤ ls.length ∧ m = ls.length - k ∧
          Le { env := [(6, .own ⟨a, i, j⟩ (flatT ls k).length), (25, .sl x (ls.map slTy)), (26, dN ls.length), (27, dN k)], σ := [(⟨a, i, j⟩, .arr 25 3 ((flatT ls k).map encTy))] } s) ls.length ?_ ?_
      · refine ⟨0, g9, 24, 1, Nat.zero_le _, rfl, le_of ?_⟩
        simp only [go_sem, flatT]
        trivial
      · rintro m s ⟨k, a, i, j, hk, rfl, hle⟩
        refine awp_keep hle ?_
        clear hle
        by_cases h : k < ls.length
        · have hb := hls (k + 1) h
          have hb' : (flatT ls (k + 1)).length = (flatT ls k).length + ls[k].length := by rw [flatT_succ _ _ h, List.length_append]
          refine awp_seq_k (fun K16 hK16 => ?_)
          refine awp_plain 1 (by kernel_rfl) rfl (fun g11 hg11 => ?_)
          simp only [go_sem, h]
          refine hK16 _ ?_
          refine awp_seq_k (fun K17 hK17 => ?_)
          refine awp_t rfl ?_
          refine awp_skip ?_
          refine hK17 _ ?_
          refine awp_seq_k (fun K18 hK18 => ?_)
          refine awp_block ?_
          refine awp_seq_k (fun K19 hK19 => ?_)
          refine awp_plain 3 (by kernel_rfl) rfl (fun g12 hg12 => ?_)
          simp only [go_sem, getM h]
          refine hK19 _ ?_
          refine awp_ops (by kernel_rfl) rfl (fun g13 hg13 ops13 KR13 hops13 hKR13 => ?_)
          refine aops_eval 2 hops13 ?_
          simp only [go_sem]
          refine aops_app hops13 rfl rfl rfl rfl rfl es23 sz25 by25 ze25 rfl (by decide) ?_
          simp only [go_sem, okRowsTy]
          first | refine ⟨⟨by omega, by omega⟩, ?_⟩ | skip
          refine aops_last 1 hops13 ?_
          simp only [go_sem]
          refine hKR13 _ ?_
          refine hK18 _ ?_
          refine awp_plain 2 (by kernel_rfl) rfl (fun g14 hg14 => ?_)
          simp only [go_sem]
          try simp (disch := omega) only [wrapN]
          refine ⟨_, ?_, k + 1, g13, 33, 0, h, rfl, le_of ?_⟩
          · omega
          rw [flatT_succ _ _ h]
          simp only [go_sem]
          omega
        · have : k = ls.length := by omega
          subst this
          refine awp_seq_k (fun K20 hK20 => ?_)
          refine awp_plain 1 (by kernel_rfl) rfl (fun g11 hg11 => ?_)
          simp only [go_sem, h]
          refine hK20 _ ?_
          refine awp_seq_k (fun K21 hK21 => ?_)
          refine awp_f rfl ?_
          refine awp_exit ?_
          refine hK14 _ ?_
          refine awp_seq_k (fun K22 hK22 => ?_)
          refine awp_plain 2 (by kernel_rfl) rfl (fun g15 hg15 => ?_)
          simp only [go_sem]
          refine hK22 _ ?_
          refine awp_ret ?_
          refine ends_own [⟨a, i, j⟩] rfl ?_
          simp only [go_sem, newSto]
          exact Co.refl _
theorem concat2_calls (x y : List Ty) (h : x.length + y.length ≤ 1000000) (g d : Nat) : ACalls E 86 [.sl true [slTy x, slTy y]] [] g d (slTy (x ++ y)) [] := by
  have hc := concatTy_calls true [x, y] (by simp) (fun k hk => by
    have : flatT [x, y] k = [] ∨ flatT [x, y] k = x ∨ flatT [x, y] k = x ++ y := by
      match k, hk with
      | 0, _ => left; rfl
      | 1, _ => right; left; simp [flatT]
      | 2, _ => right; right; simp [flatT]
      | k + 3, hk => simp at hk
    rcases this with h1 | h1 | h1
    · rw [h1]; simp
    · rw [h1]; omega
    · rw [h1, List.length_append]; exact h) g d
  have hfl : flatT [x, y] [x, y].length = x ++ y := by simp [flatT]
  rw [hfl] at hc
  exact hc
theorem concat2o_calls (x y : List Ty) (h : x.length + y.length ≤ 1000000) (g d : Nat) : ACalls E 86 [.sl true [slTy x, slTy y]] [] g d (.own ⟨g, d, 1⟩ (x ++ y).length) [(⟨g, d, 1⟩, .arr 25 3 ((x ++ y).map encTy))] := by
  have hc := concatTo_calls true [x, y] (by simp) (fun k hk => by
    have : flatT [x, y] k = [] ∨ flatT [x, y] k = x ∨ flatT [x, y] k = x ++ y := by
      match k, hk with
      | 0, _ => left; rfl
      | 1, _ => right; left; simp [flatT]
      | 2, _ => right; right; simp [flatT]
      | k + 3, hk => simp at hk
    rcases this with h1 | h1 | h1
    · rw [h1]; simp
    · rw [h1]; omega
    · rw [h1, List.length_append]; exact h) g d
  have hfl : flatT [x, y] [x, y].length = x ++ y := by simp [flatT]
  rw [hfl] at hc
  exact hc
end Go.Proofs.T


namespace Go.Proofs.T
open Go Go.Ab Go.RowKit

/-! ## The types of formals, parameters, signatures -/

set_option maxRecDepth 100000 in
theorem formals_calls (l : List Formal) (hl : l.length ≤ 1000000) (g d : Nat) : ACalls E 87 [slFm l] [] g d (slTy (l.map (·.bound))) [] := by
  refine acalls_of_awp (fn := Tryz.f87) (N := 19) Tryz.call87 Tryz.func87 rfl rfl (by simp) ?_
  simp only [go_sem]
  refine awp_seq_k (fun K1 hK1 => ?_)
  refine awp_plain 1 (by kernel_rfl) rfl (fun g0 hg0 => ?_)
  simp only [go_sem]
  refine hK1 _ ?_
  refine awp_seq_k (fun K2 hK2 => ?_)
  refine awp_plain 1 (by kernel_rfl) rfl (fun g1 hg1 => ?_)
  simp only [go_sem]
  refine hK2 _ ?_
  refine awp_seq_k (fun K3 hK3 => ?_)
  refine awp_seq_k (fun K4 hK4 => ?_)
  refine awp_plain 3 (by kernel_rfl) rfl (fun g2 hg2 => ?_)
  simp only [go_sem]
  refine hK4 _ ?_
  refine awp_block ?_
  refine awp_nil 3 25 3 rfl fun gn hgn => ?_
  refine awp_loop (fun m s => ∃ k a i, k ≤ l.length ∧ m = l.length - k ∧
      Le { env := [(6, slFm l), (7, dN l.length), (8, dN k), (3, .own ⟨a, i, 0⟩ k)], σ := [(⟨a, i, 0⟩, .arr 25 3 (((l.take k).map (·.bound)).map encTy))] } s) l.length ?_ ?_
  · refine ⟨0, gn, 0, Nat.zero_le _, rfl, le_of ?_⟩
    simp only [go_sem]
    trivial
  · rintro m s ⟨k, a, i, hk, rfl, hle⟩
    refine awp_keep hle ?_
    clear hle
    by_cases hlt : k < l.length
    · refine awp_seq_k (fun K5 hK5 => ?_)
      refine awp_plain 1 (by kernel_rfl) rfl (fun g3 hg3 => ?_)
      simp only [go_sem, hlt]
      refine hK5 _ ?_
      refine awp_seq_k (fun K6 hK6 => ?_)
      refine awp_t rfl ?_
      refine awp_skip ?_
      refine hK6 _ ?_
      refine awp_seq_k (fun K7 hK7 => ?_)
      refine awp_block ?_
      refine awp_seq_k (fun K8 hK8 => ?_)
      refine awp_plain 4 (by kernel_rfl) rfl (fun g4 hg4 => ?_)
      simp only [go_sem, getM hlt]
      refine hK8 _ ?_
      have hn4_a : g4 ≠ a := fresh_g hg4 i 0 (by simp [go_sem])
      refine awp_ops (by kernel_rfl) rfl (fun g5 hg5 ops5 KR5 hops5 hKR5 => ?_)
      refine aops_eval 4 hops5 ?_
      simp only [go_sem, Ne.symm hn4_a]
      refine aops_app hops5 rfl rfl rfl rfl rfl es23 sz25 by25 ze25 rfl (by decide) ?_
      simp only [go_sem, List.length_take_of_le (Nat.le_of_lt hlt), hn4_a]
      first | refine ⟨⟨by omega, by omega⟩, ?_⟩ | skip
      refine aops_last 1 hops5 ?_
      simp only [go_sem]
      refine hKR5 _ ?_
      refine hK7 _ ?_
      refine awp_plain 2 (by kernel_rfl) rfl (fun g6 hg6 => ?_)
      simp only [go_sem]
      try simp (disch := omega) only [wrapN]
      refine ⟨_, ?_, k + 1, g5, 16, hlt, rfl, le_of ?_⟩
      · omega
      simp only [go_sem, takeMB (fun x : Formal => x.bound) encTy hlt]
      all_goals first | exact rfl | exact ⟨rfl, rfl⟩ | trivial | omega
    · refine awp_seq_k (fun K9 hK9 => ?_)
      refine awp_plain 1 (by kernel_rfl) rfl (fun g3 hg3 => ?_)
      simp only [go_sem, hlt]
      refine hK9 _ ?_
      refine awp_seq_k (fun K10 hK10 => ?_)
      refine awp_f rfl ?_
      refine awp_exit ?_
      refine hK3 _ ?_
      refine awp_seq_k (fun K11 hK11 => ?_)
      refine awp_plain 2 (by kernel_rfl) rfl (fun g7 hg7 => ?_)
      simp only [go_sem]
      refine hK11 _ ?_
      refine awp_ret ?_
      have : k = l.length := by omega
      subst this
      refine ret_frz ⟨a, i, 0⟩ ?_
      simp only [go_sem]
      refine ends_ev rfl ?_
      simp only [go_sem]
      exact Co.of_eq (by simp [])
set_option maxRecDepth 100000 in
theorem params_calls (l : List Param) (hl : l.length ≤ 1000000) (g d : Nat) : ACalls E 88 [slPa l] [] g d (slTy (l.map (·.type))) [] := by
  refine acalls_of_awp (fn := Tryz.f88) (N := 19) Tryz.call88 Tryz.func88 rfl rfl (by simp) ?_
  simp only [go_sem]
  refine awp_seq_k (fun K1 hK1 => ?_)
  refine awp_plain 1 (by kernel_rfl) rfl (fun g0 hg0 => ?_)
  simp only [go_sem]
  refine hK1 _ ?_
  refine awp_seq_k (fun K2 hK2 => ?_)
  refine awp_plain 1 (by kernel_rfl) rfl (fun g1 hg1 => ?_)
  simp only [go_sem]
  refine hK2 _ ?_
  refine awp_seq_k (fun K3 hK3 => ?_)
  refine awp_seq_k (fun K4 hK4 => ?_)
  refine awp_plain 3 (by kernel_rfl) rfl (fun g2 hg2 => ?_)
  simp only [go_sem]
  refine hK4 _ ?_
  refine awp_block ?_
  refine awp_nil 3 25 3 rfl fun gn hgn => ?_
  refine awp_loop (fun m s => ∃ k a i, k ≤ l.length ∧ m = l.length - k ∧
      Le { env := [(6, slPa l), (7, dN l.length), (8, dN k), (3, .own ⟨a, i, 0⟩ k)], σ := [(⟨a, i, 0⟩, .arr 25 3 (((l.take k).map (·.type)).map encTy))] } s) l.length ?_ ?_
  · refine ⟨0, gn, 0, Nat.zero_le _, rfl, le_of ?_⟩
    simp only [go_sem]
    trivial
  · rintro m s ⟨k, a, i, hk, rfl, hle⟩
    refine awp_keep hle ?_
    clear hle
    by_cases hlt : k < l.length
    · refine awp_seq_k (fun K5 hK5 => ?_)
      refine awp_plain 1 (by kernel_rfl) rfl (fun g3 hg3 => ?_)
      simp only [go_sem, hlt]
      refine hK5 _ ?_
      refine awp_seq_k (fun K6 hK6 => ?_)
      refine awp_t rfl ?_
      refine awp_skip ?_
      refine hK6 _ ?_
      refine awp_seq_k (fun K7 hK7 => ?_)
      refine awp_block ?_
      refine awp_seq_k (fun K8 hK8 => ?_)
      refine awp_plain 4 (by kernel_rfl) rfl (fun g4 hg4 => ?_)
      simp only [go_sem, getM hlt]
      refine hK8 _ ?_
      have hn4_a : g4 ≠ a := fresh_g hg4 i 0 (by simp [go_sem])
      refine awp_ops (by kernel_rfl) rfl (fun g5 hg5 ops5 KR5 hops5 hKR5 => ?_)
      refine aops_eval 4 hops5 ?_
      simp only [go_sem, Ne.symm hn4_a]
      refine aops_app hops5 rfl rfl rfl rfl rfl es23 sz25 by25 ze25 rfl (by decide) ?_
      simp only [go_sem, List.length_take_of_le (Nat.le_of_lt hlt), hn4_a]
      first | refine ⟨⟨by omega, by omega⟩, ?_⟩ | skip
      refine aops_last 1 hops5 ?_
      simp only [go_sem]
      refine hKR5 _ ?_
      refine hK7 _ ?_
      refine awp_plain 2 (by kernel_rfl) rfl (fun g6 hg6 => ?_)
      simp only [go_sem]
      try simp (disch := omega) only [wrapN]
      refine ⟨_, ?_, k + 1, g5, 16, hlt, rfl, le_of ?_⟩
      · omega
      simp only [go_sem, takeMB (fun x : Param => x.type) encTy hlt]
      all_goals first | exact rfl | exact ⟨rfl, rfl⟩ | trivial | omega
    · refine awp_seq_k (fun K9 hK9 => ?_)
      refine awp_plain 1 (by kernel_rfl) rfl (fun g3 hg3 => ?_)
      simp only [go_sem, hlt]
      refine hK9 _ ?_
      refine awp_seq_k (fun K10 hK10 => ?_)
      refine awp_f rfl ?_
      refine awp_exit ?_
      refine hK3 _ ?_
      refine awp_seq_k (fun K11 hK11 => ?_)
      refine awp_plain 2 (by kernel_rfl) rfl (fun g7 hg7 => ?_)
      simp only [go_sem]
      refine hK11 _ ?_
      refine awp_ret ?_
      have : k = l.length := by omega
      subst this
      refine ret_frz ⟨a, i, 0⟩ ?_
      simp only [go_sem]
      refine ends_ev rfl ?_
      simp only [go_sem]
      exact Co.of_eq (by simp [])
set_option maxRecDepth 100000 in
theorem sigD_calls (s : Sig) (h1 : s.formals.length ≤ 400000) (h2 : s.params.length ≤ 400000) (g d : Nat) : ACalls E 89 [encSi s] [] g d (slTy (siTys s)) [] := by
  refine acalls_of_awp (fn := Tryz.f89) (N := 15) Tryz.call89 Tryz.func89 rfl rfl (by simp) ?_
  simp only [go_sem]
  refine awp_seq_k (fun K1 hK1 => ?_)
  refine awp_plain 2 (by kernel_rfl) rfl (fun g0 hg0 => ?_)
  simp only [go_sem]
  refine hK1 _ ?_
  refine awp_seq_k (fun K2 hK2 => ?_)
  refine awp_any 11 (by kernel_rfl) (by kernel_rfl) rfl (fun g1 hg1 ops1 KR1 hops1 hKR1 => ?_)
  refine qrun_eval 2 hops1 ?_
  simp only [go_sem]
  refine qrun_pure hops1 rfl rfl rfl (formals_calls s.formals (by omega) _ _) (CoL.refl _) rfl ?_
  refine qrun_eval 2 hops1 ?_
  simp only [go_sem]
  refine qrun_pure hops1 rfl rfl rfl (params_calls s.params (by omega) _ _) (CoL.refl _) rfl ?_
  refine qrun_eval 1 hops1 ?_
  simp only [go_sem]
  refine qrun_pure hops1 rfl rfl rfl (concat2o_calls (s.formals.map (·.bound)) (s.params.map (·.type)) (by simp; omega) _ _) (CoL.refl _) (by simp [nwOk]) ?_
  refine qrun_last 3 hops1 ?_
  simp only [go_sem]
  refine aops_eval 0 hops1 ?_
  simp only [go_sem]
  refine aops_app hops1 rfl rfl rfl rfl rfl es23 sz25 by25 ze25 rfl (by decide) ?_
  simp only [go_sem]
  first | refine ⟨⟨by omega, by omega⟩, ?_⟩ | skip
  refine aops_last 1 hops1 ?_
  simp only [go_sem]
  refine hKR1 _ ?_
  refine hK2 _ ?_
  refine awp_ret ?_
  refine ret_frz ⟨g1, 14, 0⟩ ?_
  simp only [go_sem]
  refine ends_ev rfl ?_
  simp only [go_sem]
  exact Co.of_eq (by simp [siTys])
end Go.Proofs.T

