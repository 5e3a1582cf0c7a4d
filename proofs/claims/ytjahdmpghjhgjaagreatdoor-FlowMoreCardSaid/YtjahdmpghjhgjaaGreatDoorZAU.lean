/- A part of the proof, under no conditions of its own: ZAU. -/
import Derived.Test.YtjahdmpghjhgjaaGreatDoorZAT
import Derived.Test.YtjahdmpghjhgjaaGreatDoorZAH
namespace Go.Proofs.T
open Go Go.Ab Go.RowKit

/-! ## The law FlowNodes: is a node that of a formal? -/

def hasS (x : Nd) (s : Sig) : Bool := x.method && (decide (s.name = x.name) && decide (x.idx < (s.formals.length : Int)))
def hasD (x : Nd) (d : Dec) : Bool := (!x.method && (decide (d.name = x.name) && decide (x.idx < (d.formals.length : Int)))) || (d.sigs ++ [d.sig]).any (hasS x)
theorem any_no {α : Type} {f : α → Bool} {l : List α} {k : Nat} (h : k < l.length) (ha : (l.take k).any f = false) (hf : f l[k] = false) : (l.take (k + 1)).any f = false := by
  rw [List.take_add_one, List.getElem?_eq_getElem h, List.any_append, ha]
  simp [hf]
set_option maxRecDepth 100000 in
theorem has18_calls (p : Prg) (hp : smPr p) (x : Nd) (hx : p.decls.any (hasD x) = true) (g r : Nat) : ACalls E 19 [encPr p, encNd x] [] g r (dB true) [] := by
  obtain ⟨⟨k1, k2⟩, k3⟩ := hp
  refine acalls_of_awp (fn := Tryz.f19) (N := 76) Tryz.call19 Tryz.func19 rfl rfl (by simp) ?_
  simp only [go_sem]
  refine awp_seq_k (fun K1 hK1 => ?_)
  refine awp_plain 3 (by kernel_rfl) rfl (fun g0 hg0 => ?_)
  simp only [go_sem]
  refine hK1 _ ?_
  refine awp_seq_k (fun K2 hK2 => ?_)
  refine awp_seq_k (fun K3 hK3 => ?_)
  refine awp_plain 1 (by kernel_rfl) rfl (fun g1 hg1 => ?_)
  simp only [go_sem]
  refine hK3 _ ?_
  refine awp_block ?_
  refine awp_loop (fun m st => ∃ k, k ≤ p.decls.length ∧ m = p.decls.length - k ∧ (p.decls.take k).any (hasD x) = false ∧ Le { env := [(2, .ptr ⟨g0, 2, 0⟩ 0), (3, .ptr ⟨g0, 3, 0⟩ 0), (5, dN k)], σ := [(⟨g0, 2, 0⟩, .box 30 (prC p)), (⟨g0, 3, 0⟩, .box 51 (ndC x))] } st) p.decls.length ?_ ?_
  · refine ⟨0, Nat.zero_le _, rfl, rfl, le_of ?_⟩
    simp only [go_sem]
    all_goals first | done | exact rfl | exact ⟨rfl, rfl⟩ | trivial | omega
  · rintro m st ⟨k, hk, rfl, hall, hle⟩
    refine awp_keep hle ?_
    clear hle
    refine awp_seq_k (fun K4 hK4 => ?_)
    refine awp_seq_k (fun K5 hK5 => ?_)
    by_cases hlt : k < p.decls.length
    · have hgm := getM (f := encDe) hlt
      have hX := k2 _ (List.getElem_mem hlt)
      have hno := any_no hlt hall
      generalize p.decls[k] = X at *
      have hsl := hX.2.2.2.1.1
      refine awp_plain 5 (by kernel_rfl) rfl (fun g2 hg2 => ?_)
      simp only [go_sem, hlt, decide_true]
      refine hK5 _ ?_
      refine awp_t rfl ?_
      refine awp_skip ?_
      refine hK4 _ ?_
      refine awp_seq_k (fun K6 hK6 => ?_)
      refine awp_block ?_
      refine awp_seq_k (fun K7 hK7 => ?_)
      refine awp_plain 7 (by kernel_rfl) rfl (fun g4 hg4 => ?_)
      simp only [go_sem, hgm]
      refine hK7 _ ?_
      refine awp_seq_k (fun K8 hK8 => ?_)
      refine awp_seq_k (fun K9 hK9 => ?_)
      have hn4_g0 : g4 ≠ g0 := fresh_g hg4 2 0 (by simp [go_sem])
      have hn4_g0 : g4 ≠ g0 := fresh_g hg4 3 0 (by simp [go_sem])
      obtain ⟨xm, xn, xi⟩ := x
      cases xm with
      | false =>
        by_cases hn : X.name = xn
        · by_cases hi : xi < (X.formals.length : Int)
          · refine awp_plain 18 (by kernel_rfl) rfl (fun g5 hg5 => ?_)
            simp only [go_sem, hn, hi, decide_true, hn4_g0, Ne.symm hn4_g0, List.nil_append]
            refine hK9 _ ?_
            refine awp_t rfl ?_
            refine awp_seq_k (fun K10 hK10 => ?_)
            refine awp_plain 1 (by kernel_rfl) rfl (fun g6 hg6 => ?_)
            simp only [go_sem, List.nil_append]
            refine hK10 _ ?_
            refine awp_ret ?_
            refine ends_ev rfl ?_
            simp only [go_sem]
            exact Co.refl _
          · refine awp_plain 18 (by kernel_rfl) rfl (fun g5 hg5 => ?_)
            simp only [go_sem, hn, hi, decide_true, decide_false, hn4_g0, Ne.symm hn4_g0, List.nil_append]
            refine hK9 _ ?_
            refine awp_f rfl ?_
            refine awp_skip ?_
            refine hK8 _ ?_
            refine awp_seq_k (fun K11 hK11 => ?_)
            refine awp_anyT 8 [0, 0, 2, 7, 0, 16, 48, 127, 255] (by kernel_rfl) (by kernel_rfl) (by kernel_rfl) rfl (fun g7 hg7 ops7 KR7 hops7 hKR7 => ?_)
            refine qrunT_eval 3 hops7 rfl ?_
            simp only [go_sem, Ne.symm hn4_g0, List.cons_append, List.nil_append]
            refine qrunT_app hops7 rfl rfl rfl rfl rfl es37 sz40 by40 ze40 rfl (by decide) rfl rfl ?_
            simp only [go_sem, List.nil_append, okRowsSig]
            first | refine ⟨⟨by omega, by omega⟩, ?_⟩ | skip
            refine qrunT_eval 3 hops7 rfl ?_
            simp only [go_sem, List.nil_append, Ne.symm hn4_g0, List.nil_append]
            refine qrunT_app hops7 rfl rfl rfl rfl rfl es37 sz40 by40 ze40 rfl (by decide) rfl rfl ?_
            simp only [go_sem]
            first | refine ⟨⟨by omega, by omega⟩, ?_⟩ | skip
            have hn7_g0 : g7 ≠ g0 := fresh_g hg7 2 0 (by simp [go_sem, hn4_g0])
            have hn7_g0 : g7 ≠ g0 := fresh_g hg7 3 0 (by simp [go_sem, hn4_g0])
            have hn7_g4 : g7 ≠ g4 := fresh_g hg7 6 0 (by simp [go_sem])
            refine qrunT_last 0 hops7 rfl ?_
            simp only [go_sem]
            refine aops_last 1 hops7 ?_
            simp only [go_sem, List.nil_append]
            refine hKR7 _ ?_
            refine hK11 _ ?_
            refine awp_seq_k (fun K12 hK12 => ?_)
            refine awp_frz ⟨g7, 46, 0⟩ ?_
            simp only [go_sem, exC, List.cons_append, List.nil_append, Ne.symm hn7_g0, Ne.symm hn7_g4]
            have hS : (X.sigs.map encSi ++ [.agg (siC X.sig)]) = (X.sigs ++ [X.sig]).map encSi := by simp [encSi]
            have hSl : (X.sigs ++ [X.sig]).length = X.sigs.length + 1 := by simp
            generalize hSS : X.sigs ++ [X.sig] = S at *
            refine awp_plain 1 (by kernel_rfl) rfl (fun g8 hg8 => ?_)
            simp only [go_sem, List.nil_append]
            refine hK12 _ ?_
            refine awp_block ?_
            refine awp_loop (fun m st => ∃ j, j ≤ S.length ∧ m = S.length - j ∧ (S.take j).any (hasS ⟨false, xn, xi⟩) = false ∧ Le { env := [(2, .ptr ⟨g0, 2, 0⟩ 0), (3, .ptr ⟨g0, 3, 0⟩ 0), (5, dN k), (7, slSi S), (8, dN j)], σ := [(⟨g0, 2, 0⟩, .box 30 (prC p)), (⟨g0, 3, 0⟩, .box 51 (ndC ⟨false, xn, xi⟩))] } st) S.length ?_ ?_
            · refine ⟨0, Nat.zero_le _, rfl, rfl, le_of ?_⟩
              simp only [go_sem, ← hS, hn4_g0, siC, exC, List.cons_append, List.nil_append]
              all_goals first | done | exact rfl | exact ⟨rfl, rfl⟩ | trivial | omega
            · rintro m st ⟨j, hj, rfl, haj, hle⟩
              refine awp_keep hle ?_
              clear hle
              refine awp_seq_k (fun K13 hK13 => ?_)
              refine awp_seq_k (fun K14 hK14 => ?_)
              by_cases hlj : j < S.length
              · have hgs := getM (f := encSi) hlj
                have hnj := any_no hlj haj
                generalize S[j] = Y at *
                refine awp_plain 4 (by kernel_rfl) rfl (fun g9 hg9 => ?_)
                simp only [go_sem, hlj, decide_true, exC, List.cons_append, List.nil_append]
                refine hK14 _ ?_
                refine awp_t rfl ?_
                refine awp_skip ?_
                refine hK13 _ ?_
                refine awp_seq_k (fun K15 hK15 => ?_)
                refine awp_block ?_
                refine awp_seq_k (fun K16 hK16 => ?_)
                refine awp_anyq (by kernel_rfl) rfl (fun g11 hg11 ops11 KR11 hops11 hKR11 => ?_)
                refine qrun_last 23 hops11 ?_
                simp only [go_sem, List.nil_append]
                refine hKR11 _ ?_
                refine hK16 _ ?_
                refine awp_f rfl ?_
                refine awp_skip ?_
                refine hK15 _ ?_
                refine awp_plain 3 (by kernel_rfl) rfl (fun g10 hg10 => ?_)
                simp only [go_sem, exC, List.cons_append, List.nil_append]
                try simp (disch := omega) only [wrapN]
                refine ⟨_, ?_, j + 1, hlj, rfl, hnj (by simp [hasS, Bool.false_and]), le_of ?_⟩
                · omega
                simp only [go_sem]
                all_goals first | done | exact rfl | exact ⟨rfl, rfl⟩ | trivial | omega
              · have : j = S.length := by omega
                subst this
                rw [List.take_length] at haj
                have hnn := (show hasD ⟨false, xn, xi⟩ X = false by unfold hasD; rw [hSS, haj]; simp [hi])
                refine awp_plain 4 (by kernel_rfl) rfl (fun g9 hg9 => ?_)
                simp only [go_sem, hlj, decide_false, exC, List.cons_append, List.nil_append]
                refine hK14 _ ?_
                refine awp_f rfl ?_
                refine awp_exit ?_
                refine hK6 _ ?_
                refine awp_plain 3 (by kernel_rfl) rfl (fun g3 hg3 => ?_)
                simp only [go_sem, exC, List.cons_append, List.nil_append]
                try simp (disch := omega) only [wrapN]
                refine ⟨_, ?_, k + 1, hlt, rfl, hno hnn, le_of ?_⟩
                · omega
                simp only [go_sem]
                all_goals first | done | exact rfl | exact ⟨rfl, rfl⟩ | trivial | omega
        · refine awp_plain 18 (by kernel_rfl) rfl (fun g5 hg5 => ?_)
          simp only [go_sem, hn, decide_false, hn4_g0, Ne.symm hn4_g0, List.nil_append]
          refine hK9 _ ?_
          refine awp_f rfl ?_
          refine awp_skip ?_
          refine hK8 _ ?_
          refine awp_seq_k (fun K17 hK17 => ?_)
          refine awp_anyT 8 [0, 0, 2, 7, 0, 16, 48, 127, 255] (by kernel_rfl) (by kernel_rfl) (by kernel_rfl) rfl (fun g7 hg7 ops7 KR7 hops7 hKR7 => ?_)
          refine qrunT_eval 3 hops7 rfl ?_
          simp only [go_sem, Ne.symm hn4_g0, List.cons_append, List.nil_append]
          refine qrunT_app hops7 rfl rfl rfl rfl rfl es37 sz40 by40 ze40 rfl (by decide) rfl rfl ?_
          simp only [go_sem, List.nil_append, okRowsSig]
          first | refine ⟨⟨by omega, by omega⟩, ?_⟩ | skip
          refine qrunT_eval 3 hops7 rfl ?_
          simp only [go_sem, List.nil_append, Ne.symm hn4_g0, List.nil_append]
          refine qrunT_app hops7 rfl rfl rfl rfl rfl es37 sz40 by40 ze40 rfl (by decide) rfl rfl ?_
          simp only [go_sem]
          first | refine ⟨⟨by omega, by omega⟩, ?_⟩ | skip
          have hn7_g0 : g7 ≠ g0 := fresh_g hg7 2 0 (by simp [go_sem, hn4_g0])
          have hn7_g0 : g7 ≠ g0 := fresh_g hg7 3 0 (by simp [go_sem, hn4_g0])
          have hn7_g4 : g7 ≠ g4 := fresh_g hg7 6 0 (by simp [go_sem])
          refine qrunT_last 0 hops7 rfl ?_
          simp only [go_sem]
          refine aops_last 1 hops7 ?_
          simp only [go_sem, List.nil_append]
          refine hKR7 _ ?_
          refine hK17 _ ?_
          refine awp_seq_k (fun K18 hK18 => ?_)
          refine awp_frz ⟨g7, 46, 0⟩ ?_
          simp only [go_sem, exC, List.cons_append, List.nil_append, Ne.symm hn7_g0, Ne.symm hn7_g4]
          have hS : (X.sigs.map encSi ++ [.agg (siC X.sig)]) = (X.sigs ++ [X.sig]).map encSi := by simp [encSi]
          have hSl : (X.sigs ++ [X.sig]).length = X.sigs.length + 1 := by simp
          generalize hSS : X.sigs ++ [X.sig] = S at *
          refine awp_plain 1 (by kernel_rfl) rfl (fun g8 hg8 => ?_)
          simp only [go_sem, List.nil_append]
          refine hK18 _ ?_
          refine awp_block ?_
          refine awp_loop (fun m st => ∃ j, j ≤ S.length ∧ m = S.length - j ∧ (S.take j).any (hasS ⟨false, xn, xi⟩) = false ∧ Le { env := [(2, .ptr ⟨g0, 2, 0⟩ 0), (3, .ptr ⟨g0, 3, 0⟩ 0), (5, dN k), (7, slSi S), (8, dN j)], σ := [(⟨g0, 2, 0⟩, .box 30 (prC p)), (⟨g0, 3, 0⟩, .box 51 (ndC ⟨false, xn, xi⟩))] } st) S.length ?_ ?_
          · refine ⟨0, Nat.zero_le _, rfl, rfl, le_of ?_⟩
            simp only [go_sem, ← hS, hn4_g0, siC, exC, List.cons_append, List.nil_append]
            all_goals first | done | exact rfl | exact ⟨rfl, rfl⟩ | trivial | omega
          · rintro m st ⟨j, hj, rfl, haj, hle⟩
            refine awp_keep hle ?_
            clear hle
            refine awp_seq_k (fun K19 hK19 => ?_)
            refine awp_seq_k (fun K20 hK20 => ?_)
            by_cases hlj : j < S.length
            · have hgs := getM (f := encSi) hlj
              have hnj := any_no hlj haj
              generalize S[j] = Y at *
              refine awp_plain 4 (by kernel_rfl) rfl (fun g9 hg9 => ?_)
              simp only [go_sem, hlj, decide_true, exC, List.cons_append, List.nil_append]
              refine hK20 _ ?_
              refine awp_t rfl ?_
              refine awp_skip ?_
              refine hK19 _ ?_
              refine awp_seq_k (fun K21 hK21 => ?_)
              refine awp_block ?_
              refine awp_seq_k (fun K22 hK22 => ?_)
              refine awp_anyq (by kernel_rfl) rfl (fun g11 hg11 ops11 KR11 hops11 hKR11 => ?_)
              refine qrun_last 23 hops11 ?_
              simp only [go_sem, List.nil_append]
              refine hKR11 _ ?_
              refine hK22 _ ?_
              refine awp_f rfl ?_
              refine awp_skip ?_
              refine hK21 _ ?_
              refine awp_plain 3 (by kernel_rfl) rfl (fun g10 hg10 => ?_)
              simp only [go_sem, exC, List.cons_append, List.nil_append]
              try simp (disch := omega) only [wrapN]
              refine ⟨_, ?_, j + 1, hlj, rfl, hnj (by simp [hasS, Bool.false_and]), le_of ?_⟩
              · omega
              simp only [go_sem]
              all_goals first | done | exact rfl | exact ⟨rfl, rfl⟩ | trivial | omega
            · have : j = S.length := by omega
              subst this
              rw [List.take_length] at haj
              have hnn := (show hasD ⟨false, xn, xi⟩ X = false by unfold hasD; rw [hSS, haj]; simp [hn])
              refine awp_plain 4 (by kernel_rfl) rfl (fun g9 hg9 => ?_)
              simp only [go_sem, hlj, decide_false, exC, List.cons_append, List.nil_append]
              refine hK20 _ ?_
              refine awp_f rfl ?_
              refine awp_exit ?_
              refine hK6 _ ?_
              refine awp_plain 3 (by kernel_rfl) rfl (fun g3 hg3 => ?_)
              simp only [go_sem, exC, List.cons_append, List.nil_append]
              try simp (disch := omega) only [wrapN]
              refine ⟨_, ?_, k + 1, hlt, rfl, hno hnn, le_of ?_⟩
              · omega
              simp only [go_sem]
              all_goals first | done | exact rfl | exact ⟨rfl, rfl⟩ | trivial | omega
      | true =>
        refine awp_plain 18 (by kernel_rfl) rfl (fun g5 hg5 => ?_)
        simp only [go_sem, hn4_g0, List.nil_append]
        refine hK9 _ ?_
        refine awp_f rfl ?_
        refine awp_skip ?_
        refine hK8 _ ?_
        refine awp_seq_k (fun K23 hK23 => ?_)
        refine awp_anyT 8 [0, 0, 2, 7, 0, 16, 48, 127, 255] (by kernel_rfl) (by kernel_rfl) (by kernel_rfl) rfl (fun g7 hg7 ops7 KR7 hops7 hKR7 => ?_)
        refine qrunT_eval 3 hops7 rfl ?_
        simp only [go_sem, Ne.symm hn4_g0, List.cons_append, List.nil_append]
        refine qrunT_app hops7 rfl rfl rfl rfl rfl es37 sz40 by40 ze40 rfl (by decide) rfl rfl ?_
        simp only [go_sem, List.nil_append, okRowsSig]
        first | refine ⟨⟨by omega, by omega⟩, ?_⟩ | skip
        refine qrunT_eval 3 hops7 rfl ?_
        simp only [go_sem, List.nil_append, Ne.symm hn4_g0, List.nil_append]
        refine qrunT_app hops7 rfl rfl rfl rfl rfl es37 sz40 by40 ze40 rfl (by decide) rfl rfl ?_
        simp only [go_sem]
        first | refine ⟨⟨by omega, by omega⟩, ?_⟩ | skip
        have hn7_g0 : g7 ≠ g0 := fresh_g hg7 2 0 (by simp [go_sem, hn4_g0])
        have hn7_g0 : g7 ≠ g0 := fresh_g hg7 3 0 (by simp [go_sem, hn4_g0])
        have hn7_g4 : g7 ≠ g4 := fresh_g hg7 6 0 (by simp [go_sem])
        refine qrunT_last 0 hops7 rfl ?_
        simp only [go_sem]
        refine aops_last 1 hops7 ?_
        simp only [go_sem, List.nil_append]
        refine hKR7 _ ?_
        refine hK23 _ ?_
        refine awp_seq_k (fun K24 hK24 => ?_)
        refine awp_frz ⟨g7, 46, 0⟩ ?_
        simp only [go_sem, exC, List.cons_append, List.nil_append, Ne.symm hn7_g0, Ne.symm hn7_g4]
        have hS : (X.sigs.map encSi ++ [.agg (siC X.sig)]) = (X.sigs ++ [X.sig]).map encSi := by simp [encSi]
        have hSl : (X.sigs ++ [X.sig]).length = X.sigs.length + 1 := by simp
        generalize hSS : X.sigs ++ [X.sig] = S at *
        refine awp_plain 1 (by kernel_rfl) rfl (fun g8 hg8 => ?_)
        simp only [go_sem, List.nil_append]
        refine hK24 _ ?_
        refine awp_block ?_
        refine awp_loop (fun m st => ∃ j, j ≤ S.length ∧ m = S.length - j ∧ (S.take j).any (hasS ⟨true, xn, xi⟩) = false ∧ Le { env := [(2, .ptr ⟨g0, 2, 0⟩ 0), (3, .ptr ⟨g0, 3, 0⟩ 0), (5, dN k), (7, slSi S), (8, dN j)], σ := [(⟨g0, 2, 0⟩, .box 30 (prC p)), (⟨g0, 3, 0⟩, .box 51 (ndC ⟨true, xn, xi⟩))] } st) S.length ?_ ?_
        · refine ⟨0, Nat.zero_le _, rfl, rfl, le_of ?_⟩
          simp only [go_sem, ← hS, hn4_g0, siC, exC, List.cons_append, List.nil_append]
          all_goals first | done | exact rfl | exact ⟨rfl, rfl⟩ | trivial | omega
        · rintro m st ⟨j, hj, rfl, haj, hle⟩
          refine awp_keep hle ?_
          clear hle
          refine awp_seq_k (fun K25 hK25 => ?_)
          refine awp_seq_k (fun K26 hK26 => ?_)
          by_cases hlj : j < S.length
          · have hgs := getM (f := encSi) hlj
            have hnj := any_no hlj haj
            generalize S[j] = Y at *
            refine awp_plain 4 (by kernel_rfl) rfl (fun g9 hg9 => ?_)
            simp only [go_sem, hlj, decide_true, exC, List.cons_append, List.nil_append]
            refine hK26 _ ?_
            refine awp_t rfl ?_
            refine awp_skip ?_
            refine hK25 _ ?_
            refine awp_seq_k (fun K27 hK27 => ?_)
            refine awp_block ?_
            refine awp_seq_k (fun K28 hK28 => ?_)
            by_cases hn : Y.name = xn
            · by_cases hi : xi < (Y.formals.length : Int)
              · refine awp_anyq (by kernel_rfl) rfl (fun g11 hg11 ops11 KR11 hops11 hKR11 => ?_)
                refine qrun_last 23 hops11 ?_
                simp only [go_sem, hgs, hn, hi, decide_true, siC, List.nil_append]
                refine hKR11 _ ?_
                refine hK28 _ ?_
                refine awp_t rfl ?_
                refine awp_seq_k (fun K29 hK29 => ?_)
                refine awp_plain 1 (by kernel_rfl) rfl (fun g12 hg12 => ?_)
                simp only [go_sem, List.nil_append]
                refine hK29 _ ?_
                refine awp_ret ?_
                refine ends_ev rfl ?_
                simp only [go_sem]
                exact Co.refl _
              · refine awp_anyq (by kernel_rfl) rfl (fun g11 hg11 ops11 KR11 hops11 hKR11 => ?_)
                refine qrun_last 23 hops11 ?_
                simp only [go_sem, hgs, hn, hi, decide_true, decide_false, siC, List.nil_append]
                refine hKR11 _ ?_
                refine hK28 _ ?_
                refine awp_f rfl ?_
                refine awp_skip ?_
                refine hK27 _ ?_
                refine awp_plain 3 (by kernel_rfl) rfl (fun g10 hg10 => ?_)
                simp only [go_sem, exC, List.cons_append, List.nil_append]
                try simp (disch := omega) only [wrapN]
                refine ⟨_, ?_, j + 1, hlj, rfl, hnj (by simp [hasS, hi]), le_of ?_⟩
                · omega
                simp only [go_sem]
                all_goals first | done | exact rfl | exact ⟨rfl, rfl⟩ | trivial | omega
            · refine awp_anyq (by kernel_rfl) rfl (fun g11 hg11 ops11 KR11 hops11 hKR11 => ?_)
              refine qrun_last 23 hops11 ?_
              simp only [go_sem, hgs, hn, decide_false, siC, List.nil_append]
              refine hKR11 _ ?_
              refine hK28 _ ?_
              refine awp_f rfl ?_
              refine awp_skip ?_
              refine hK27 _ ?_
              refine awp_plain 3 (by kernel_rfl) rfl (fun g10 hg10 => ?_)
              simp only [go_sem, exC, List.cons_append, List.nil_append]
              try simp (disch := omega) only [wrapN]
              refine ⟨_, ?_, j + 1, hlj, rfl, hnj (by simp [hasS, hn]), le_of ?_⟩
              · omega
              simp only [go_sem]
              all_goals first | done | exact rfl | exact ⟨rfl, rfl⟩ | trivial | omega
          · have : j = S.length := by omega
            subst this
            rw [List.take_length] at haj
            have hnn := (show hasD ⟨true, xn, xi⟩ X = false by unfold hasD; rw [hSS, haj]; simp)
            refine awp_plain 4 (by kernel_rfl) rfl (fun g9 hg9 => ?_)
            simp only [go_sem, hlj, decide_false, exC, List.cons_append, List.nil_append]
            refine hK26 _ ?_
            refine awp_f rfl ?_
            refine awp_exit ?_
            refine hK6 _ ?_
            refine awp_plain 3 (by kernel_rfl) rfl (fun g3 hg3 => ?_)
            simp only [go_sem, exC, List.cons_append, List.nil_append]
            try simp (disch := omega) only [wrapN]
            refine ⟨_, ?_, k + 1, hlt, rfl, hno hnn, le_of ?_⟩
            · omega
            simp only [go_sem]
            all_goals first | done | exact rfl | exact ⟨rfl, rfl⟩ | trivial | omega
    · have : k = p.decls.length := by omega
      subst this
      rw [List.take_length, hx] at hall
      cases hall

/-! ## How many formals are new; are all there? -/

/-- The most formals of a type with a name, among declarations. -/
noncomputable def mostF (s : Str) (l : List Dec) : Nat := l.foldl (fun m d => if d.name = s then max m d.formals.length else m) 0
theorem foldMax (s : Str) (l : List Dec) : ∀ m, m ≤ l.foldl (fun m d => if d.name = s then max m d.formals.length else m) m ∧ (∀ d ∈ l, d.name = s → d.formals.length ≤ l.foldl (fun m d => if d.name = s then max m d.formals.length else m) m) ∧ (∀ B, m ≤ B → (∀ d ∈ l, d.formals.length ≤ B) → l.foldl (fun m d => if d.name = s then max m d.formals.length else m) m ≤ B) := by
  induction l with
  | nil => intro m; exact ⟨Nat.le_refl _, (fun d hd => nomatch hd), fun B h _ => h⟩
  | cons x r ih =>
    intro m
    rw [List.foldl_cons]
    obtain ⟨h1, h2, h3⟩ := ih (if x.name = s then max m x.formals.length else m)
    refine ⟨Nat.le_trans ?_ h1, fun d hd hn => ?_, fun B hm hB => h3 B ?_ fun d hd => hB d (List.mem_cons_of_mem _ hd)⟩
    · split <;> omega
    · rcases List.mem_cons.1 hd with rfl | hd
      · refine Nat.le_trans ?_ h1
        rw [if_pos hn]
        omega
      · exact h2 d hd hn
    · have := hB x List.mem_cons_self
      split <;> omega
theorem mostF_succ (s : Str) {l : List Dec} {k : Nat} (h : k < l.length) : mostF s (l.take (k + 1)) = if l[k].name = s then max (mostF s (l.take k)) l[k].formals.length else mostF s (l.take k) := by
  unfold mostF
  rw [foldTake _ _ h]
theorem maxSub (a b : Nat) : (if (a : Int) - b > 0 then (a : Int) - b else 0) = ((a - b : Nat) : Int) := by split <;> omega
set_option maxRecDepth 100000 in
theorem fresh18_calls (p : Prg) (hp : smPr p) (k : Nat) (hk : k ≤ p.decls.length) (b : Bool) (s : Str) (i : Int) (n : Nat) (hn : n ≤ 1000000) (g r : Nat) : ACalls E 20 [encPr p, dN k, encNd ⟨b, s, i⟩, dN n] [] g r (dN (n - mostF s (p.decls.take k))) [] := by
  obtain ⟨⟨k1, k2⟩, k3⟩ := hp
  refine acalls_of_awp (fn := Tryz.f20) (N := 38) Tryz.call20 Tryz.func20 rfl rfl (by simp) ?_
  simp only [go_sem]
  refine awp_seq_k (fun K1 hK1 => ?_)
  refine awp_plain 3 (by kernel_rfl) rfl (fun g0 hg0 => ?_)
  simp only [go_sem]
  refine hK1 _ ?_
  refine awp_seq_k (fun K2 hK2 => ?_)
  refine awp_plain 1 (by kernel_rfl) rfl (fun g1 hg1 => ?_)
  simp only [go_sem]
  refine hK2 _ ?_
  refine awp_seq_k (fun K3 hK3 => ?_)
  refine awp_seq_k (fun K4 hK4 => ?_)
  refine awp_plain 1 (by kernel_rfl) rfl (fun g2 hg2 => ?_)
  simp only [go_sem]
  refine hK4 _ ?_
  refine awp_block ?_
  refine awp_loop (fun m st => ∃ j, j ≤ k ∧ m = k - j ∧ Le { env := [(1, dN k), (3, dN n), (4, .ptr ⟨g0, 4, 0⟩ 0), (6, .ptr ⟨g0, 6, 0⟩ 0), (9, dN (mostF s (p.decls.take j))), (10, dN j)], σ := [(⟨g0, 4, 0⟩, .box 30 (prC p)), (⟨g0, 6, 0⟩, .box 51 (ndC ⟨b, s, i⟩))] } st) k ?_ ?_
  · refine ⟨0, Nat.zero_le _, rfl, le_of ?_⟩
    simp only [go_sem]
    all_goals first | done | exact rfl | exact ⟨rfl, rfl⟩ | trivial | omega
  · rintro m st ⟨j, hj, rfl, hle⟩
    refine awp_keep hle ?_
    clear hle
    refine awp_seq_k (fun K5 hK5 => ?_)
    refine awp_seq_k (fun K6 hK6 => ?_)
    by_cases hlj : j < k
    · have hlt : j < p.decls.length := by omega
      have hgm := getM (f := encDe) hlt
      have hX := k2 _ (List.getElem_mem hlt)
      have hms := mostF_succ s hlt
      generalize p.decls[j] = X at *
      generalize mostF s (p.decls.take j) = M at *
      refine awp_plain 3 (by kernel_rfl) rfl (fun g3 hg3 => ?_)
      simp only [go_sem, hlj, decide_true]
      refine hK6 _ ?_
      refine awp_t rfl ?_
      refine awp_skip ?_
      refine hK5 _ ?_
      refine awp_seq_k (fun K7 hK7 => ?_)
      refine awp_block ?_
      refine awp_seq_k (fun K8 hK8 => ?_)
      by_cases hns : X.name = s
      · refine awp_anyq (by kernel_rfl) rfl (fun g5 hg5 ops5 KR5 hops5 hKR5 => ?_)
        refine qrun_last 9 hops5 ?_
        simp only [go_sem, hgm, hns, decide_true]
        refine hKR5 _ ?_
        refine hK8 _ ?_
        refine awp_t rfl ?_
        refine awp_plain 10 (by kernel_rfl) rfl (fun g6 hg6 => ?_)
        simp only [go_sem, hgm]
        refine hK7 _ ?_
        refine awp_plain 3 (by kernel_rfl) rfl (fun g4 hg4 => ?_)
        simp only [go_sem]
        try simp (disch := omega) only [wrapN]
        refine ⟨_, ?_, j + 1, hlj, rfl, le_of ?_⟩
        · omega
        rw [hms, if_pos hns]
        simp only [go_sem]
        all_goals first | done | exact rfl | exact ⟨rfl, rfl⟩ | trivial | omega
      · refine awp_anyq (by kernel_rfl) rfl (fun g5 hg5 ops5 KR5 hops5 hKR5 => ?_)
        refine qrun_last 9 hops5 ?_
        simp only [go_sem, hgm, hns, decide_false]
        refine hKR5 _ ?_
        refine hK8 _ ?_
        refine awp_f rfl ?_
        refine awp_skip ?_
        refine hK7 _ ?_
        refine awp_plain 3 (by kernel_rfl) rfl (fun g4 hg4 => ?_)
        simp only [go_sem]
        try simp (disch := omega) only [wrapN]
        refine ⟨_, ?_, j + 1, hlj, rfl, le_of ?_⟩
        · omega
        rw [hms, if_neg hns]
        simp only [go_sem]
        all_goals first | done | exact rfl | exact ⟨rfl, rfl⟩ | trivial | omega
    · have : j = k := by omega
      subst this
      have hM : mostF s (p.decls.take j) ≤ 1000000 := (foldMax s _ 0).2.2 _ (by omega) fun d hd => (by have := (k2 d (List.mem_of_mem_take hd)).2.1.1; omega)
      generalize mostF s (p.decls.take j) = M at *
      refine awp_plain 3 (by kernel_rfl) rfl (fun g3 hg3 => ?_)
      simp only [go_sem, hlj, decide_false]
      refine hK6 _ ?_
      refine awp_f rfl ?_
      refine awp_exit ?_
      refine hK3 _ ?_
      refine awp_seq_k (fun K9 hK9 => ?_)
      refine awp_plain 5 (by kernel_rfl) rfl (fun g7 hg7 => ?_)
      simp only [go_sem]
      try simp (disch := omega) only [wrapN]
      refine hK9 _ ?_
      refine awp_ret ?_
      refine ends_ev rfl ?_
      simp only [go_sem]
      exact Co.of_eq (by rw [maxSub n M])
noncomputable def memB (x : Nd) (l : List Nd) : Bool := by classical exact decide (x ∈ l)
theorem memB_true {x : Nd} {l : List Nd} : memB x l = true ↔ x ∈ l := by unfold memB; simp
theorem memB_succ {x : Nd} {l : List Nd} {k : Nat} (h : k < l.length) : memB x (l.take (k + 1)) = true ↔ memB x (l.take k) = true ∨ l[k] = x := by
  rw [memB_true, memB_true, List.take_add_one, List.getElem?_eq_getElem h, List.mem_append]
  simp [eq_comm]
set_option maxRecDepth 100000 in
theorem all18_calls (l : List Nd) (hl : l.length ≤ 1000000) (b : Bool) (o : Str) (i0 : Int) (n : Nat) (hn : n ≤ 1000000) (h : ∀ j : Nat, j < n → (⟨b, o, (j : Int)⟩ : Nd) ∈ l) (g d : Nat) : ACalls E 21 [slNd l, encNd ⟨b, o, i0⟩, dN n] [] g d (dB true) [] := by
  refine acalls_of_awp (fn := Tryz.f21) (N := 35) Tryz.call21 Tryz.func21 rfl rfl (by simp) ?_
  simp only [go_sem]
  refine awp_seq_k (fun K1 hK1 => ?_)
  refine awp_plain 2 (by kernel_rfl) rfl (fun g0 hg0 => ?_)
  simp only [go_sem]
  refine hK1 _ ?_
  refine awp_seq_k (fun K2 hK2 => ?_)
  refine awp_seq_k (fun K3 hK3 => ?_)
  refine awp_plain 2 (by kernel_rfl) rfl (fun g1 hg1 => ?_)
  simp only [go_sem]
  refine hK3 _ ?_
  refine awp_block ?_
  refine awp_loop (fun m st => ∃ k, k ≤ n ∧ m = n - k ∧ Le { env := [(0, slNd l), (2, dN n), (4, .ptr ⟨g0, 4, 0⟩ 0)], σ := [(⟨g0, 4, 0⟩, .box 51 (ndC ⟨b, o, (k : Int)⟩))] } st) n ?_ ?_
  · refine ⟨0, Nat.zero_le _, rfl, le_of ?_⟩
    simp only [go_sem]
    all_goals first | done | exact rfl | exact ⟨rfl, rfl⟩ | trivial | omega
  · rintro m st ⟨k, hk, rfl, hle⟩
    refine awp_keep hle ?_
    clear hle
    refine awp_seq_k (fun K4 hK4 => ?_)
    refine awp_seq_k (fun K5 hK5 => ?_)
    by_cases hlk : k < n
    · refine awp_plain 4 (by kernel_rfl) rfl (fun g2 hg2 => ?_)
      simp only [go_sem, hlk, decide_true]
      refine hK5 _ ?_
      refine awp_t rfl ?_
      refine awp_skip ?_
      refine hK4 _ ?_
      refine awp_seq_k (fun K6 hK6 => ?_)
      refine awp_block ?_
      refine awp_seq_k (fun K7 hK7 => ?_)
      refine awp_plain 1 (by kernel_rfl) rfl (fun g4 hg4 => ?_)
      simp only [go_sem]
      refine hK7 _ ?_
      refine awp_seq_k (fun K8 hK8 => ?_)
      refine awp_seq_k (fun K9 hK9 => ?_)
      refine awp_plain 1 (by kernel_rfl) rfl (fun g5 hg5 => ?_)
      simp only [go_sem]
      refine hK9 _ ?_
      refine awp_block ?_
      refine awp_loop (fun m st => ∃ j, j ≤ l.length ∧ m = l.length - j ∧ Le { env := [(0, slNd l), (2, dN n), (4, .ptr ⟨g0, 4, 0⟩ 0), (7, dB (memB ⟨b, o, (k : Int)⟩ (l.take j))), (8, dN j)], σ := [(⟨g0, 4, 0⟩, .box 51 (ndC ⟨b, o, (k : Int)⟩))] } st) l.length ?_ ?_
      · refine ⟨0, Nat.zero_le _, rfl, le_of ?_⟩
        simp only [go_sem]
        all_goals first | done | exact rfl | exact ⟨rfl, rfl⟩ | trivial | omega
      · rintro m st ⟨j, hj, rfl, hle⟩
        refine awp_keep hle ?_
        clear hle
        refine awp_seq_k (fun K10 hK10 => ?_)
        refine awp_seq_k (fun K11 hK11 => ?_)
        by_cases hlj : j < l.length
        · have hgm := getM (f := encNd) hlj
          have hms := @memB_succ ⟨b, o, (k : Int)⟩ l j hlj
          generalize l[j] = X at *
          refine awp_plain 4 (by kernel_rfl) rfl (fun g6 hg6 => ?_)
          simp only [go_sem, hlj, decide_true]
          refine hK11 _ ?_
          refine awp_t rfl ?_
          refine awp_skip ?_
          refine hK10 _ ?_
          refine awp_seq_k (fun K12 hK12 => ?_)
          refine awp_block ?_
          cases hM : memB ⟨b, o, (k : Int)⟩ (l.take j) with
          | true =>
            have hT : memB ⟨b, o, (k : Int)⟩ (l.take (j + 1)) = true := hms.2 (.inl hM)
            refine awp_any 9 (by kernel_rfl) (by kernel_rfl) rfl (fun g8 hg8 ops8 KR8 hops8 hKR8 => ?_)
            refine qrun_last 9 hops8 ?_
            simp only [go_sem]
            refine aops_last 1 hops8 ?_
            simp only [go_sem]
            refine hKR8 _ ?_
            refine hK12 _ ?_
            refine awp_plain 3 (by kernel_rfl) rfl (fun g7 hg7 => ?_)
            simp only [go_sem]
            try simp (disch := omega) only [wrapN]
            refine ⟨_, ?_, j + 1, hlj, rfl, le_of ?_⟩
            · omega
            simp only [go_sem, hT]
            all_goals first | done | exact rfl | exact ⟨rfl, rfl⟩ | trivial | omega
          | false =>
            by_cases hX : X = ⟨b, o, (k : Int)⟩
            · have hT : memB ⟨b, o, (k : Int)⟩ (l.take (j + 1)) = true := hms.2 (.inr hX)
              subst hX
              refine awp_any 9 (by kernel_rfl) (by kernel_rfl) rfl (fun g8 hg8 ops8 KR8 hops8 hKR8 => ?_)
              refine qrun_last 9 hops8 ?_
              simp only [go_sem, hgm, decide_true]
              refine aops_last 1 hops8 ?_
              simp only [go_sem]
              refine hKR8 _ ?_
              refine hK12 _ ?_
              refine awp_plain 3 (by kernel_rfl) rfl (fun g7 hg7 => ?_)
              simp only [go_sem]
              try simp (disch := omega) only [wrapN]
              refine ⟨_, ?_, j + 1, hlj, rfl, le_of ?_⟩
              · omega
              simp only [go_sem, hT]
              all_goals first | done | exact rfl | exact ⟨rfl, rfl⟩ | trivial | omega
            · have hT : memB ⟨b, o, (k : Int)⟩ (l.take (j + 1)) = false := Bool.eq_false_iff.2 fun e => (hms.1 e).elim (fun e => by rw [hM] at e; cases e) hX
              have hne := ndEq hX
              refine awp_any 9 (by kernel_rfl) (by kernel_rfl) rfl (fun g8 hg8 ops8 KR8 hops8 hKR8 => ?_)
              refine qrun_last 9 hops8 ?_
              simp only [go_sem, hgm, hne, decide_false]
              refine aops_last 1 hops8 ?_
              simp only [go_sem]
              refine hKR8 _ ?_
              refine hK12 _ ?_
              refine awp_plain 3 (by kernel_rfl) rfl (fun g7 hg7 => ?_)
              simp only [go_sem]
              try simp (disch := omega) only [wrapN]
              refine ⟨_, ?_, j + 1, hlj, rfl, le_of ?_⟩
              · omega
              simp only [go_sem, hT]
              all_goals first | done | exact rfl | exact ⟨rfl, rfl⟩ | trivial | omega
        · have : j = l.length := by omega
          subst this
          have hT : memB ⟨b, o, (k : Int)⟩ (l.take l.length) = true := memB_true.2 (by rw [List.take_length]; exact h k hlk)
          rw [List.take_length] at hT
          refine awp_plain 4 (by kernel_rfl) rfl (fun g6 hg6 => ?_)
          simp only [go_sem, hlj, decide_false, hT]
          refine hK11 _ ?_
          refine awp_f rfl ?_
          refine awp_exit ?_
          refine hK8 _ ?_
          refine awp_seq_k (fun K13 hK13 => ?_)
          refine awp_plain 2 (by kernel_rfl) rfl (fun g9 hg9 => ?_)
          simp only [go_sem, Bool.not_true]
          refine hK13 _ ?_
          refine awp_f rfl ?_
          refine awp_skip ?_
          refine hK6 _ ?_
          refine awp_plain 5 (by kernel_rfl) rfl (fun g3 hg3 => ?_)
          simp only [go_sem]
          try simp (disch := omega) only [wrapN]
          refine ⟨_, ?_, k + 1, hlk, rfl, le_of ?_⟩
          · omega
          simp only [go_sem]
          all_goals first | done | exact rfl | exact ⟨rfl, rfl⟩ | trivial | omega
    · have : k = n := by omega
      subst this
      refine awp_plain 4 (by kernel_rfl) rfl (fun g2 hg2 => ?_)
      simp only [go_sem, hlk, decide_false]
      refine hK5 _ ?_
      refine awp_f rfl ?_
      refine awp_exit ?_
      refine hK2 _ ?_
      refine awp_seq_k (fun K14 hK14 => ?_)
      refine awp_plain 1 (by kernel_rfl) rfl (fun g11 hg11 => ?_)
      simp only [go_sem]
      refine hK14 _ ?_
      refine awp_ret ?_
      refine ends_ev rfl ?_
      simp only [go_sem]
      exact Co.refl _
end Go.Proofs.T


namespace Go.Proofs.T
open Go Go.Ab Go.RowKit

/-! ## The law FlowNodes: the plain law -/

theorem nd_ok {p : Prg} (hp : smPr p) {x : Nd} (h : x ∈ ndP p) : okNd x := by
  unfold ndP ndD at h
  obtain ⟨d, hd, h⟩ := List.mem_flatMap.1 h
  have hs := hp.1.2 d hd
  rcases List.mem_append.1 h with h | h
  · obtain ⟨i, _, rfl⟩ := (ndF_mem _ _ _ _).1 h
    have := hs.1
    show d.name.size ≤ 9223372036854775807
    omega
  · obtain ⟨s, hm, h⟩ := List.mem_flatMap.1 h
    obtain ⟨i, _, rfl⟩ := (ndF_mem _ _ _ _).1 h
    have : smSi s := by
      rcases List.mem_append.1 hm with hm | hm
      · exact hs.2.2.2.1.2 s hm
      · rw [List.mem_singleton.1 hm]; exact hs.2.2.2.2.2.2.1
    have := this.1
    show s.name.size ≤ 9223372036854775807
    omega
theorem nd_has {p : Prg} {x : Nd} (h : x ∈ ndP p) : p.decls.any (hasD x) = true := by
  unfold ndP ndD at h
  obtain ⟨d, hd, h⟩ := List.mem_flatMap.1 h
  refine List.any_eq_true.2 ⟨d, hd, ?_⟩
  unfold hasD
  rcases List.mem_append.1 h with h | h
  · obtain ⟨i, hi, rfl⟩ := (ndF_mem _ _ _ _).1 h
    simp [hi]
  · obtain ⟨s, hm, h⟩ := List.mem_flatMap.1 h
    obtain ⟨i, hi, rfl⟩ := (ndF_mem _ _ _ _).1 h
    rw [List.any_eq_true.2 ⟨s, hm, by simp [hasS, hi]⟩, Bool.or_true]
theorem nodup_len {α : Type} : ∀ (l m : List α), l.Nodup → (∀ x ∈ l, x ∈ m) → l.length ≤ m.length
  | [], _, _, _ => Nat.zero_le _
  | x :: l, m, hn, h => by
    obtain ⟨s, t, rfl⟩ := List.append_of_mem (h x List.mem_cons_self)
    obtain ⟨h1, h2⟩ := List.nodup_cons.1 hn
    have := nodup_len l (s ++ t) h2 fun y hy => by
      have := h y (List.mem_cons_of_mem _ hy)
      simp only [List.mem_append, List.mem_cons] at this ⊢
      rcases this with h | rfl | h
      · exact .inl h
      · exact absurd hy h1
      · exact .inr h
    simp only [List.length_append, List.length_cons] at this ⊢
    omega
theorem nodesOf_mem (p : Prg) (x : Nd) : x ∈ nodesOf p ↔ x ∈ ndP p := by
  unfold nodesOf
  rw [cpU_all, (srt_perm ltNd (ndP p)).mem_iff]
theorem nodesOf_lt (p : Prg) : (nodesOf p).Pairwise fun a b => cfNd a b < 0 := (cpU_strict (srt_ord goodNd.swo _) _ (Nat.le_refl _)).1
theorem nodesOf_len (p : Prg) : (nodesOf p).length ≤ (ndP p).length := Nat.le_trans (cpU_len _ _) (by rw [srt_len]; exact Nat.le_refl _)
/-- How many formals are new, in all. -/
noncomputable def frN (l : List Dec) : Nat → Nat
  | 0 => 0
  | k + 1 => frN l k + (match l[k]? with | some d => d.formals.length - mostF d.name (l.take k) | none => 0)
theorem frN_succ {l : List Dec} {k : Nat} (h : k < l.length) : frN l (k + 1) = frN l k + (l[k].formals.length - mostF l[k].name (l.take k)) := by
  rw [frN, List.getElem?_eq_getElem h]
/-- The new ones themselves. -/
theorem frN_list (l : List Dec) : ∀ k, k ≤ l.length → ∃ F : List Nd, F.Nodup ∧ F.length = frN l k ∧ (∀ x ∈ F, ∃ d ∈ l.take k, ∃ j : Nat, j < d.formals.length ∧ x = ⟨false, d.name, (j : Int)⟩)
  | 0, _ => ⟨[], List.nodup_nil, rfl, fun x h => nomatch h⟩
  | k + 1, h => by
    have hk : k < l.length := h
    obtain ⟨F, h1, h2, h3⟩ := frN_list l k (by omega)
    have hmx := foldMax l[k].name (l.take k) 0
    have htk : l.take (k + 1) = l.take k ++ [l[k]] := by rw [List.take_add_one, List.getElem?_eq_getElem hk]; rfl
    rw [frN_succ hk, htk]
    generalize l[k] = X at *
    change _ ∧ (∀ d ∈ l.take k, d.name = X.name → d.formals.length ≤ mostF X.name (l.take k)) ∧ _ at hmx
    generalize mostF X.name (l.take k) = M at *
    refine ⟨F ++ (List.range (X.formals.length - M)).map fun j : Nat => ⟨false, X.name, ((M + j : Nat) : Int)⟩, ?_, ?_, fun x hx => ?_⟩
    · rw [List.nodup_append]
      refine ⟨h1, ?_, fun a ha b hb => ?_⟩
      · refine List.Pairwise.map _ (fun a b hab e => hab ?_) List.nodup_range
        have := (Nd.eq_iff.1 e).2.2
        simp only at this
        omega
      · rintro rfl
        obtain ⟨d, hd, j, hj, rfl⟩ := h3 a ha
        obtain ⟨j2, hj2, e⟩ := List.mem_map.1 hb
        obtain ⟨_, e1, e2⟩ := Nd.eq_iff.1 e
        simp only at e1 e2
        have := hmx.2.1 d hd e1.symm
        omega
    · rw [List.length_append, List.length_map, List.length_range, h2]
    · rcases List.mem_append.1 hx with hx | hx
      · obtain ⟨d, hd, r⟩ := h3 x hx
        exact ⟨d, List.mem_append_left _ hd, r⟩
      · obtain ⟨j, hj, rfl⟩ := List.mem_map.1 hx
        rw [List.mem_range] at hj
        exact ⟨X, List.mem_append_right _ (List.mem_singleton.2 rfl), M + j, by omega, rfl⟩
theorem frN_le (p : Prg) (k : Nat) (hk : k ≤ p.decls.length) : frN p.decls k ≤ (nodesOf p).length := by
  obtain ⟨F, h1, h2, h3⟩ := frN_list p.decls k hk
  rw [← h2]
  refine nodup_len F _ h1 fun x hx => ?_
  obtain ⟨d, hd, j, hj, rfl⟩ := h3 x hx
  rw [nodesOf_mem]
  unfold ndP ndD
  exact List.mem_flatMap.2 ⟨d, List.mem_of_mem_take hd, List.mem_append_left _ ((ndF_mem _ _ _ _).2 ⟨j, hj, rfl⟩)⟩

def okNd2 (x : Nd) : Prop := okNd x ∧ -9223372036854775808 ≤ x.idx ∧ x.idx ≤ 9223372036854775807
set_option maxHeartbeats 1000000 in
set_option maxRecDepth 100000 in
theorem flowNodes_calls (p : Prg) (hp : okPr p) (a b : Nd) (ha : okNd2 a) (_ : okNd2 b) (g d : Nat) : ACalls E 4 [encPr p, encNd a, encNd b] [] g d (dB true) [] := by
  refine acalls_of_awp (fn := Tryz.f4) (N := 162) Tryz.call4 Tryz.func4 rfl rfl (by simp) ?_
  simp only [go_sem]
  refine awp_seq_k (fun K1 hK1 => ?_)
  refine awp_plain 4 (by kernel_rfl) rfl (fun g0 hg0 => ?_)
  simp only [go_sem]
  refine hK1 _ ?_
  refine awp_seq_k (fun K2 hK2 => ?_)
  refine awp_seq_k (fun K3 hK3 => ?_)
  refine awp_ops (by kernel_rfl) rfl (fun g1 hg1 ops1 KR1 hops1 hKR1 => ?_)
  refine aops_eval 0 hops1 ?_
  simp only [go_sem]
  refine aops_pure hops1 rfl rfl rfl (awake18_calls _ _) (CoL.refl _) ?_
  refine aops_eval 3 hops1 ?_
  simp only [go_sem, Bool.not_true]
  by_cases hf : cntPr p ≤ 600
  · obtain ⟨hs, _⟩ := cntPr_sm p hf
    have hw := cntPr_w p hf
    refine aops_pure hops1 rfl rfl rfl (few06_calls p hp _ _) (CoL.refl _) ?_
    refine aops_eval 4 hops1 ?_
    simp only [go_sem, hf, decide_true, Bool.not_true]
    cases hr : rightPr p with
    | false =>
      refine aops_pure hops1 rfl rfl rfl (rightPr_calls p hs (by omega) _ _) (CoL.refl _) ?_
      refine aops_last 14 hops1 ?_
      simp only [go_sem, hr, Bool.not_false]
      refine hKR1 _ ?_
      refine hK3 _ ?_
      refine awp_t rfl ?_
      refine awp_seq_k (fun K4 hK4 => ?_)
      refine awp_ops (by kernel_rfl) rfl (fun g2 hg2 ops2 KR2 hops2 hKR2 => ?_)
      refine aops_eval 0 hops2 ?_
      simp only [go_sem]
      refine aops_pure hops2 rfl rfl rfl (awake18_calls _ _) (CoL.refl _) ?_
      refine aops_last 1 hops2 ?_
      simp only [go_sem]
      refine hKR2 _ ?_
      refine hK4 _ ?_
      refine awp_ret ?_
      refine ends_ev rfl ?_
      simp only [go_sem]
      exact Co.refl _
    | true =>
      by_cases q1 : 300 < (a.name.size : Int)
      · refine aops_pure hops1 rfl rfl rfl (rightPr_calls p hs (by omega) _ _) (CoL.refl _) ?_
        refine aops_last 14 hops1 ?_
        simp only [go_sem, hr, Bool.not_true, q1, decide_true]
        refine hKR1 _ ?_
        refine hK3 _ ?_
        refine awp_t rfl ?_
        refine awp_seq_k (fun K5 hK5 => ?_)
        refine awp_ops (by kernel_rfl) rfl (fun g2 hg2 ops2 KR2 hops2 hKR2 => ?_)
        refine aops_eval 0 hops2 ?_
        simp only [go_sem]
        refine aops_pure hops2 rfl rfl rfl (awake18_calls _ _) (CoL.refl _) ?_
        refine aops_last 1 hops2 ?_
        simp only [go_sem]
        refine hKR2 _ ?_
        refine hK5 _ ?_
        refine awp_ret ?_
        refine ends_ev rfl ?_
        simp only [go_sem]
        exact Co.refl _
      · by_cases q2 : 300 < (b.name.size : Int)
        · refine aops_pure hops1 rfl rfl rfl (rightPr_calls p hs (by omega) _ _) (CoL.refl _) ?_
          refine aops_last 14 hops1 ?_
          simp only [go_sem, hr, Bool.not_true, q1, q2, decide_true, decide_false]
          refine hKR1 _ ?_
          refine hK3 _ ?_
          refine awp_t rfl ?_
          refine awp_seq_k (fun K6 hK6 => ?_)
          refine awp_ops (by kernel_rfl) rfl (fun g2 hg2 ops2 KR2 hops2 hKR2 => ?_)
          refine aops_eval 0 hops2 ?_
          simp only [go_sem]
          refine aops_pure hops2 rfl rfl rfl (awake18_calls _ _) (CoL.refl _) ?_
          refine aops_last 1 hops2 ?_
          simp only [go_sem]
          refine hKR2 _ ?_
          refine hK6 _ ?_
          refine awp_ret ?_
          refine ends_ev rfl ?_
          simp only [go_sem]
          exact Co.refl _
        · have hN := ndP_len hs hw
          have c1 := nodesI_calls p hs hN
          have hlt := nodesOf_lt p
          have hLl := nodesOf_len p
          have hmem := nodesOf_mem p
          have hfr := frN_le p
          refine aops_pure hops1 rfl rfl rfl (rightPr_calls p hs (by omega) _ _) (CoL.refl _) ?_
          refine aops_last 14 hops1 ?_
          simp only [go_sem, hr, Bool.not_true, q1, q2, decide_false]
          refine hKR1 _ ?_
          refine hK3 _ ?_
          refine awp_f rfl ?_
          refine awp_skip ?_
          refine hK2 _ ?_
          refine awp_seq_k (fun K7 hK7 => ?_)
          generalize nodesOf p = L at *
          refine awp_ops (by kernel_rfl) rfl (fun g3 hg3 ops3 KR3 hops3 hKR3 => ?_)
          refine aops_eval 1 hops3 ?_
          simp only [go_sem]
          refine aops_pure hops3 rfl rfl rfl (c1 _ _) (CoL.refl _) ?_
          refine aops_last 1 hops3 ?_
          simp only [go_sem]
          refine hKR3 _ ?_
          refine hK7 _ ?_
          refine awp_seq_k (fun K8 hK8 => ?_)
          refine awp_seq_k (fun K9 hK9 => ?_)
          refine awp_plain 1 (by kernel_rfl) rfl (fun g4 hg4 => ?_)
          simp only [go_sem]
          refine hK9 _ ?_
          refine awp_block ?_
          refine awp_loop (fun m st => ∃ k, k ≤ L.length ∧ m = L.length - k ∧ Le { env := [(3, .ptr ⟨g0, 3, 0⟩ 0), (4, .ptr ⟨g0, 4, 0⟩ 0), (5, .ptr ⟨g0, 5, 0⟩ 0), (7, slNd L), (8, dN k)], σ := [(⟨g0, 3, 0⟩, .box 30 (prC p)), (⟨g0, 4, 0⟩, .box 51 (ndC a)), (⟨g0, 5, 0⟩, .box 51 (ndC b))] } st) L.length ?_ ?_
          · refine ⟨0, Nat.zero_le _, rfl, le_of ?_⟩
            simp only [go_sem]
            all_goals first | done | exact rfl | exact ⟨rfl, rfl⟩ | trivial | omega
          · rintro m st ⟨k, hk, rfl, hle⟩
            refine awp_keep hle ?_
            clear hle
            refine awp_seq_k (fun K10 hK10 => ?_)
            refine awp_seq_k (fun K11 hK11 => ?_)
            by_cases hk2 : k < L.length
            · have hgm := getM (f := encNd) hk2
              have hX := (hmem _).1 (List.getElem_mem hk2)
              have h18 := has18_calls p hs L[k] (nd_has hX)
              refine awp_plain 4 (by kernel_rfl) rfl (fun g5 hg5 => ?_)
              simp only [go_sem, hk2, decide_true]
              refine hK11 _ ?_
              refine awp_t rfl ?_
              refine awp_skip ?_
              refine hK10 _ ?_
              refine awp_seq_k (fun K12 hK12 => ?_)
              refine awp_block ?_
              refine awp_seq_k (fun K13 hK13 => ?_)
              cases k with
              | zero =>
                generalize L[0] = X at *
                refine awp_anyq (by kernel_rfl) rfl (fun g7 hg7 ops7 KR7 hops7 hKR7 => ?_)
                refine qrun_eval 21 hops7 ?_
                simp only [go_sem, hgm, show ((0 : Int) < ((0 : Nat) : Int)) = False from eq_false (by decide), decide_false]
                try simp (disch := omega) only [wrapN, wrapB, Int.tdiv_eq_ediv_of_nonneg, Int.tmod_eq_emod_of_nonneg]
                refine qrun_pure hops7 rfl rfl rfl (h18 _ _) (CoL.refl _) rfl ?_
                refine qrun_last 2 hops7 ?_
                simp only [go_sem, Bool.not_true]
                refine hKR7 _ ?_
                refine hK13 _ ?_
                refine awp_f rfl ?_
                refine awp_skip ?_
                refine hK12 _ ?_
                refine awp_plain 3 (by kernel_rfl) rfl (fun g6 hg6 => ?_)
                simp only [go_sem]
                try simp (disch := omega) only [wrapN]
                refine ⟨_, ?_, 1, hk2, rfl, le_of ?_⟩
                · omega
                simp only [go_sem]
                all_goals first | done | exact rfl | exact ⟨rfl, rfl⟩ | trivial | omega
              | succ k =>
                have hk3 : k < L.length := by omega
                have hgp := getM (f := encNd) hk3
                have hok := nd_ok hs ((hmem _).1 (List.getElem_mem hk3))
                have hc : cfNd L[k] L[k + 1] < 0 := List.pairwise_iff_getElem.1 hlt k (k + 1) hk3 hk2 (Nat.lt_succ_self k)
                have hpos : 0 < ((k + 1 : Nat) : Int) := by omega
                have hsub := subOne k (by omega)
                have hcn : ¬ 0 ≤ cfNd L[k] L[k + 1] := by omega
                generalize L[k + 1] = X at *
                generalize L[k] = Y at *
                refine awp_anyq (by kernel_rfl) rfl (fun g7 hg7 ops7 KR7 hops7 hKR7 => ?_)
                refine qrun_eval 12 hops7 ?_
                simp only [go_sem, hpos, decide_true, hsub, hgm, hgp]
                try simp (disch := omega) only [wrapN, wrapB, Int.tdiv_eq_ediv_of_nonneg, Int.tmod_eq_emod_of_nonneg]
                refine qrun_pure hops7 rfl rfl rfl (refNd_calls Y X hok _ _) (CoL.refl _) rfl ?_
                refine qrun_eval 8 hops7 ?_
                simp only [go_sem, hcn, decide_false, hgm]
                refine qrun_pure hops7 rfl rfl rfl (h18 _ _) (CoL.refl _) rfl ?_
                refine qrun_last 2 hops7 ?_
                simp only [go_sem, Bool.not_true]
                refine hKR7 _ ?_
                refine hK13 _ ?_
                refine awp_f rfl ?_
                refine awp_skip ?_
                refine hK12 _ ?_
                refine awp_plain 3 (by kernel_rfl) rfl (fun g6 hg6 => ?_)
                simp only [go_sem]
                try simp (disch := omega) only [wrapN]
                refine ⟨_, ?_, k + 1 + 1, hk2, rfl, le_of ?_⟩
                · omega
                simp only [go_sem]
                all_goals first | done | exact rfl | exact ⟨rfl, rfl⟩ | trivial | omega
            · refine awp_plain 4 (by kernel_rfl) rfl (fun g5 hg5 => ?_)
              simp only [go_sem, hk2, decide_false]
              refine hK11 _ ?_
              refine awp_f rfl ?_
              refine awp_exit ?_
              refine hK8 _ ?_
              refine awp_seq_k (fun K14 hK14 => ?_)
              refine awp_plain 1 (by kernel_rfl) rfl (fun g9 hg9 => ?_)
              simp only [go_sem]
              refine hK14 _ ?_
              refine awp_seq_k (fun K15 hK15 => ?_)
              refine awp_seq_k (fun K16 hK16 => ?_)
              refine awp_plain 1 (by kernel_rfl) rfl (fun g10 hg10 => ?_)
              simp only [go_sem]
              refine hK16 _ ?_
              refine awp_block ?_
              refine awp_loop (fun m st => ∃ k, k ≤ p.decls.length ∧ m = p.decls.length - k ∧ Le { env := [(3, .ptr ⟨g0, 3, 0⟩ 0), (4, .ptr ⟨g0, 4, 0⟩ 0), (5, .ptr ⟨g0, 5, 0⟩ 0), (7, slNd L), (9, dN (frN p.decls k)), (10, dN k)], σ := [(⟨g0, 3, 0⟩, .box 30 (prC p)), (⟨g0, 4, 0⟩, .box 51 (ndC a)), (⟨g0, 5, 0⟩, .box 51 (ndC b))] } st) p.decls.length ?_ ?_
              · refine ⟨0, Nat.zero_le _, rfl, le_of ?_⟩
                simp only [go_sem, show frN p.decls 0 = 0 from rfl]
                all_goals first | done | exact rfl | exact ⟨rfl, rfl⟩ | trivial | omega
              · rintro m st ⟨k, hk, rfl, hle⟩
                refine awp_keep hle ?_
                clear hle
                refine awp_seq_k (fun K17 hK17 => ?_)
                refine awp_seq_k (fun K18 hK18 => ?_)
                by_cases hk2 : k < p.decls.length
                · have hgm := getM (f := encDe) hk2
                  have hmm := List.getElem_mem hk2
                  have hX := hs.1.2 _ hmm
                  have hf1 := hfr k hk
                  have hf2 := hfr (k + 1) hk2
                  have hf3 := frN_succ hk2
                  have hm1 : ∀ j : Nat, j < p.decls[k].formals.length → (⟨false, p.decls[k].name, (j : Int)⟩ : Nd) ∈ L := fun j hj => (hmem _).2 (List.mem_flatMap.2 ⟨_, hmm, List.mem_append_left _ ((ndF_mem _ _ _ _).2 ⟨j, hj, rfl⟩)⟩)
                  have hm2 : ∀ s ∈ p.decls[k].sigs ++ [p.decls[k].sig], ∀ j : Nat, j < s.formals.length → (⟨true, s.name, (j : Int)⟩ : Nd) ∈ L := fun s hs j hj => (hmem _).2 (List.mem_flatMap.2 ⟨_, hmm, List.mem_append_right _ (List.mem_flatMap.2 ⟨s, hs, (ndF_mem _ _ _ _).2 ⟨j, hj, rfl⟩⟩)⟩)
                  have c2 := fun b s i n hn => fresh18_calls p hs k hk b s i n hn
                  generalize p.decls[k] = X at *
                  have hfl := hX.2.1.1
                  have hsl := hX.2.2.2.1.1
                  have hgl := hX.2.2.2.2.2.2.1.2.1.1
                  have c3 := all18_calls L (by omega) false X.name 0 X.formals.length (by omega) hm1
                  have c4 := all18_calls L (by omega) true X.sig.name 0 X.sig.formals.length (by omega) (hm2 _ (List.mem_append_right _ (List.mem_singleton.2 rfl)))
                  generalize frN p.decls k = N1 at *
                  generalize hN2 : frN p.decls (k + 1) = N2 at *
                  refine awp_plain 5 (by kernel_rfl) rfl (fun g11 hg11 => ?_)
                  simp only [go_sem, hk2, decide_true]
                  refine hK18 _ ?_
                  refine awp_t rfl ?_
                  refine awp_skip ?_
                  refine hK17 _ ?_
                  refine awp_seq_k (fun K19 hK19 => ?_)
                  refine awp_block ?_
                  refine awp_seq_k (fun K20 hK20 => ?_)
                  refine awp_plain 7 (by kernel_rfl) rfl (fun g13 hg13 => ?_)
                  simp only [go_sem, hgm]
                  refine hK20 _ ?_
                  refine awp_seq_k (fun K21 hK21 => ?_)
                  have hn13_g0 : g13 ≠ g0 := fresh_g hg13 3 0 (by simp [go_sem])
                  have hn13_g0 : g13 ≠ g0 := fresh_g hg13 4 0 (by simp [go_sem])
                  have hn13_g0 : g13 ≠ g0 := fresh_g hg13 5 0 (by simp [go_sem])
                  refine awp_ops (by kernel_rfl) rfl (fun g14 hg14 ops14 KR14 hops14 hKR14 => ?_)
                  refine aops_eval 9 hops14 ?_
                  simp only [go_sem, hn13_g0, Ne.symm hn13_g0, List.cons_append, List.nil_append]
                  refine aops_pure hops14 rfl rfl rfl (c2 false X.name 0 X.formals.length (by omega) _ _) (CoL.refl _) ?_
                  refine aops_last 2 hops14 ?_
                  simp only [go_sem, List.nil_append]
                  try simp (disch := omega) only [wrapN]
                  refine hKR14 _ ?_
                  refine hK21 _ ?_
                  refine awp_seq_k (fun K22 hK22 => ?_)
                  refine awp_seq_k (fun K23 hK23 => ?_)
                  refine awp_plain 1 (by kernel_rfl) rfl (fun g15 hg15 => ?_)
                  simp only [go_sem, List.nil_append]
                  refine hK23 _ ?_
                  refine awp_block ?_
                  refine awp_loop (fun m st => ∃ j, j ≤ X.sigs.length ∧ m = X.sigs.length - j ∧ Le { env := [(3, .ptr ⟨g0, 3, 0⟩ 0), (4, .ptr ⟨g0, 4, 0⟩ 0), (5, .ptr ⟨g0, 5, 0⟩ 0), (7, slNd L), (9, dN N2), (10, dN k), (11, .ptr ⟨g13, 11, 0⟩ 0), (12, dN j)], σ := [(⟨g0, 3, 0⟩, .box 30 (prC p)), (⟨g0, 4, 0⟩, .box 51 (ndC a)), (⟨g0, 5, 0⟩, .box 51 (ndC b)), (⟨g13, 11, 0⟩, .box 42 (deC X))] } st) X.sigs.length ?_ ?_
                  · refine ⟨0, Nat.zero_le _, rfl, le_of ?_⟩
                    simp only [go_sem, hf3, hn13_g0, Ne.symm hn13_g0, deC, siC, exC, List.cons_append, List.nil_append]
                    all_goals first | done | exact rfl | exact ⟨rfl, rfl⟩ | trivial | omega
                  · rintro m st ⟨j, hj, rfl, hle⟩
                    refine awp_keep hle ?_
                    clear hle
                    refine awp_seq_k (fun K24 hK24 => ?_)
                    refine awp_seq_k (fun K25 hK25 => ?_)
                    by_cases hlj : j < X.sigs.length
                    · have hgs := getM (f := encSi) hlj
                      have hmj := List.getElem_mem hlj
                      have hYs := hX.2.2.2.1.2 _ hmj
                      have hYm := hm2 _ (List.mem_append_left _ hmj)
                      generalize X.sigs[j] = Y at *
                      have c5 := all18_calls L (by omega) true Y.name 0 Y.formals.length (by have := hYs.2.1.1; omega) hYm
                      refine awp_plain 5 (by kernel_rfl) rfl (fun g16 hg16 => ?_)
                      simp only [go_sem, hlj, decide_true, Ne.symm hn13_g0, deC, siC, exC, List.cons_append, List.nil_append]
                      refine hK25 _ ?_
                      refine awp_t rfl ?_
                      refine awp_skip ?_
                      refine hK24 _ ?_
                      refine awp_seq_k (fun K26 hK26 => ?_)
                      refine awp_block ?_
                      refine awp_seq_k (fun K27 hK27 => ?_)
                      refine awp_anyq (by kernel_rfl) rfl (fun g18 hg18 ops18 KR18 hops18 hKR18 => ?_)
                      refine qrun_eval 15 hops18 ?_
                      simp only [go_sem, hgs, Ne.symm hn13_g0, siC, List.cons_append, List.nil_append]
                      refine qrun_pure hops18 rfl rfl rfl (c5 _ _) (CoL.refl _) rfl ?_
                      refine qrun_last 1 hops18 ?_
                      simp only [go_sem, Bool.not_true, List.nil_append]
                      refine hKR18 _ ?_
                      refine hK27 _ ?_
                      refine awp_f rfl ?_
                      refine awp_skip ?_
                      refine hK26 _ ?_
                      refine awp_plain 3 (by kernel_rfl) rfl (fun g17 hg17 => ?_)
                      simp only [go_sem, deC, siC, exC, List.cons_append, List.nil_append]
                      try simp (disch := omega) only [wrapN]
                      refine ⟨_, ?_, j + 1, hlj, rfl, le_of ?_⟩
                      · omega
                      simp only [go_sem, hn13_g0, Ne.symm hn13_g0]
                      all_goals first | done | exact rfl | exact ⟨rfl, rfl⟩ | trivial | omega
                    · refine awp_plain 5 (by kernel_rfl) rfl (fun g16 hg16 => ?_)
                      simp only [go_sem, hlj, decide_false, Ne.symm hn13_g0, deC, siC, exC, List.cons_append, List.nil_append]
                      refine hK25 _ ?_
                      refine awp_f rfl ?_
                      refine awp_exit ?_
                      refine hK22 _ ?_
                      refine awp_seq_k (fun K28 hK28 => ?_)
                      refine awp_ops (by kernel_rfl) rfl (fun g20 hg20 ops20 KR20 hops20 hKR20 => ?_)
                      refine aops_eval 7 hops20 ?_
                      simp only [go_sem, Ne.symm hn13_g0, List.cons_append, List.nil_append]
                      refine aops_pure hops20 rfl rfl rfl (c3 _ _) (CoL.refl _) ?_
                      refine aops_eval 11 hops20 ?_
                      simp only [go_sem, Bool.not_true, Ne.symm hn13_g0, List.cons_append, List.nil_append]
                      refine aops_pure hops20 rfl rfl rfl (c4 _ _) (CoL.refl _) ?_
                      refine aops_last 2 hops20 ?_
                      simp only [go_sem, Bool.not_true, List.nil_append]
                      refine hKR20 _ ?_
                      refine hK28 _ ?_
                      refine awp_f rfl ?_
                      refine awp_skip ?_
                      refine hK19 _ ?_
                      refine awp_plain 3 (by kernel_rfl) rfl (fun g12 hg12 => ?_)
                      simp only [go_sem, exC, List.cons_append, List.nil_append]
                      try simp (disch := omega) only [wrapN]
                      refine ⟨_, ?_, k + 1, hk2, rfl, le_of ?_⟩
                      · omega
                      simp only [go_sem, hN2, hn13_g0]
                      all_goals first | done | exact rfl | exact ⟨rfl, rfl⟩ | trivial | omega
                · have : k = p.decls.length := by omega
                  subst this
                  have hf1 := hfr _ (Nat.le_refl _)
                  have hnf : ¬ (L.length : Int) < (frN p.decls p.decls.length : Int) := by omega
                  generalize frN p.decls p.decls.length = N1 at *
                  refine awp_plain 5 (by kernel_rfl) rfl (fun g11 hg11 => ?_)
                  simp only [go_sem, hk2, decide_false]
                  refine hK18 _ ?_
                  refine awp_f rfl ?_
                  refine awp_exit ?_
                  refine hK15 _ ?_
                  refine awp_seq_k (fun K29 hK29 => ?_)
                  refine awp_seq_k (fun K30 hK30 => ?_)
                  refine awp_anyq (by kernel_rfl) rfl (fun g22 hg22 ops22 KR22 hops22 hKR22 => ?_)
                  refine qrun_eval 7 hops22 ?_
                  simp only [go_sem, hnf, decide_false]
                  refine qrun_pure hops22 rfl rfl rfl (ndCompare_calls a b _ _) (CoL.refl _) rfl ?_
                  refine qrun_eval 2 hops22 ?_
                  simp only [go_sem]
                  refine qrun_pure hops22 rfl rfl rfl (refNd_calls a b ha.1 _ _) (CoL.refl _) rfl ?_
                  refine qrun_last 2 hops22 ?_
                  simp only [go_sem, decide_true, Bool.not_true]
                  refine hKR22 _ ?_
                  refine hK30 _ ?_
                  refine awp_f rfl ?_
                  refine awp_skip ?_
                  refine hK29 _ ?_
                  refine awp_seq_k (fun K31 hK31 => ?_)
                  obtain ⟨an, q3, q4⟩ := ha
                  by_cases h0 : a.idx < 0
                  · refine awp_any 10 (by kernel_rfl) (by kernel_rfl) rfl (fun g24 hg24 ops24 KR24 hops24 hKR24 => ?_)
                    refine qrun_last 10 hops24 ?_
                    simp only [go_sem, h0, decide_true]
                    refine aops_last 1 hops24 ?_
                    simp only [go_sem]
                    refine hKR24 _ ?_
                    refine hK31 _ ?_
                    refine awp_ret ?_
                    refine ends_ev rfl ?_
                    simp only [go_sem]
                    exact Co.refl _
                  · obtain ⟨u, hu⟩ := Int.eq_ofNat_of_zero_le (show 0 ≤ a.idx by omega)
                    refine awp_any 10 (by kernel_rfl) (by kernel_rfl) rfl (fun g24 hg24 ops24 KR24 hops24 hKR24 => ?_)
                    refine qrun_eval 5 hops24 ?_
                    simp only [go_sem, h0, decide_false]
                    refine qrun_pure hops24 rfl rfl rfl (text_calls a u hu (by omega) (by omega) _ _) (CoL.refl _) rfl ?_
                    refine qrun_eval 1 hops24 ?_
                    simp only [go_sem]
                    refine qrun_pure hops24 rfl rfl rfl (refText_calls a u hu (by omega) (by omega) _ _) (CoL.refl _) rfl ?_
                    refine qrun_last 2 hops24 ?_
                    simp only [go_sem, decide_true]
                    refine aops_last 1 hops24 ?_
                    simp only [go_sem]
                    refine hKR24 _ ?_
                    refine hK31 _ ?_
                    refine awp_ret ?_
                    refine ends_ev rfl ?_
                    simp only [go_sem]
                    exact Co.refl _
  · refine aops_pure hops1 rfl rfl rfl (few06_calls p hp _ _) (CoL.refl _) ?_
    refine aops_last 19 hops1 ?_
    simp only [go_sem, hf, decide_false, Bool.not_false]
    refine hKR1 _ ?_
    refine hK3 _ ?_
    refine awp_t rfl ?_
    refine awp_seq_k (fun K32 hK32 => ?_)
    refine awp_ops (by kernel_rfl) rfl (fun g2 hg2 ops2 KR2 hops2 hKR2 => ?_)
    refine aops_eval 0 hops2 ?_
    simp only [go_sem]
    refine aops_pure hops2 rfl rfl rfl (awake18_calls _ _) (CoL.refl _) ?_
    refine aops_last 1 hops2 ?_
    simp only [go_sem]
    refine hKR2 _ ?_
    refine hK32 _ ?_
    refine awp_ret ?_
    refine ends_ev rfl ?_
    simp only [go_sem]
    exact Co.refl _
end Go.Proofs.T

