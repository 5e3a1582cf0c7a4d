/- A part of the proof, under no conditions of its own: ZAM. -/
import Derived.Test.YtjahdmpghjhgjaaGreatDoorZAL
import Derived.Test.YtjahdmpghjhgjaaGreatDoorZAJ
namespace Go.Proofs.T
open Go Go.Ab Go.RowKit

/-! ## The nodes of a program: the walk -/

theorem flatM_take {α β : Type} (f : α → List β) {l : List α} {k : Nat} (h : k < l.length) : (l.take (k + 1)).flatMap f = (l.take k).flatMap f ++ f l[k] := by
  rw [List.take_add_one, List.getElem?_eq_getElem h, List.flatMap_append]
  simp
theorem flatM_le {α β : Type} (f : α → List β) (l : List α) (k : Nat) : ((l.take k).flatMap f).length ≤ (l.flatMap f).length := by
  have := congrArg (fun l => (l.flatMap f).length) (List.take_append_drop k l)
  simp only [List.flatMap_append, List.length_append] at this
  omega
theorem flatM_mem {α β : Type} (f : α → List β) {l : List α} {k : Nat} (h : k < l.length) : ((l.take k).flatMap f).length + (f l[k]).length ≤ (l.flatMap f).length := by
  have h1 := flatM_take f h
  have h2 := flatM_le f l (k + 1)
  rw [h1, List.length_append] at h2
  exact h2
noncomputable def nodesOf (p : Prg) : List Nd := cpU (srt ltNd (ndP p)) (srt ltNd (ndP p)).length
abbrev bxN (a i : Nat) (q : Nat) (R : List Nd) : Sto := [(⟨q, 3, 0⟩, .box 52 [.own ⟨a, i, 0⟩ R.length]), (⟨a, i, 0⟩, .arr 55 3 (R.map encNd))]
set_option maxRecDepth 100000 in
theorem nodesI_calls (p : Prg) (hp : smPr p) (hN : (ndP p).length ≤ 900000) (g d : Nat) : ACalls E 17 [encPr p] [] g d (slNd (nodesOf p)) [] := by
  obtain ⟨⟨k1, k2⟩, k3⟩ := hp
  refine acalls_of_awp (fn := Tryz.f17) (N := 47) Tryz.call17 Tryz.func17 rfl rfl (by simp) ?_
  simp only [go_sem]
  refine awp_seq_k (fun K1 hK1 => ?_)
  refine awp_plain 2 (by kernel_rfl) rfl (fun g0 hg0 => ?_)
  simp only [go_sem]
  refine hK1 _ ?_
  refine awp_seq_k (fun K2 hK2 => ?_)
  refine awp_plain 1 (by kernel_rfl) rfl (fun g1 hg1 => ?_)
  simp only [go_sem]
  refine hK2 _ ?_
  refine awp_seq_k (fun K3 hK3 => ?_)
  refine awp_nil_box ⟨g1, 3, 0⟩ 0 55 3 ?_
  simp only [go_sem]
  intro gn hgn
  have hn : gn ≠ g1 := fresh_g hgn 3 0 (by simp [go_sem])
  have hn0 : gn ≠ g0 := fresh_g hgn 1 0 (by simp [go_sem])
  refine awp_plain 2 (by kernel_rfl) rfl (fun g2 hg2 => ?_)
  simp only [go_sem]
  refine hK3 _ ?_
  refine awp_seq_k (fun K4 hK4 => ?_)
  refine awp_seq_k (fun K5 hK5 => ?_)
  refine awp_plain 4 (by kernel_rfl) rfl (fun g3 hg3 => ?_)
  simp only [go_sem, hn0]
  refine hK5 _ ?_
  refine awp_block ?_
  refine awp_loop (fun m s => ∃ k a i, k ≤ p.decls.length ∧ m = p.decls.length - k ∧ a ≠ g1 ∧ LeT { env := [(3, .ptr ⟨g1, 3, 0⟩ 0), (4, .func (.func 37) [] [.ptr ⟨g1, 3, 0⟩ 0]), (11, slDe p.decls), (12, dN p.decls.length), (13, dN k)], σ := bxN a i g1 ((p.decls.take k).flatMap ndD) } s) p.decls.length ?_ ?_
  · refine ⟨0, gn, 0, Nat.zero_le _, rfl, hn, ⟨leE_spec ?_, subT_of ?_⟩⟩
    · simp only [go_sem]
      all_goals first | exact rfl | exact ⟨rfl, rfl⟩ | trivial
    · simp only [go_sem, List.flatMap_nil, hn, Ne.symm hn, Ne.symm hn0]
      all_goals first | exact rfl | exact ⟨rfl, rfl⟩ | trivial
  · rintro m s ⟨k, a, i, hk, rfl, ha, hle⟩
    refine awp_keepT hle ?_
    clear hle
    refine awp_seq_k (fun K6 hK6 => ?_)
    by_cases hlt : k < p.decls.length
    · have hgm := getM (f := encDe) hlt
      have hde := k2 _ (List.getElem_mem hlt)
      have hnx := flatM_take ndD hlt
      have hbd := flatM_mem ndD hlt
      refine awp_plain 1 (by kernel_rfl) rfl (fun g4 hg4 => ?_)
      simp only [go_sem, hlt]
      refine hK6 _ ?_
      refine awp_seq_k (fun K7 hK7 => ?_)
      refine awp_t rfl ?_
      refine awp_skip ?_
      refine hK7 _ ?_
      refine awp_seq_k (fun K8 hK8 => ?_)
      refine awp_block ?_
      refine awp_seq_k (fun K9 hK9 => ?_)
      generalize p.decls[k] = D at *
      generalize (p.decls.take k).flatMap ndD = R at *
      have hN' : R.length + (ndD D).length ≤ 900000 := Nat.le_trans hbd hN
      have hD : (ndD D).length = D.formals.length + ((D.sigs ++ [D.sig]).flatMap siN).length := by unfold ndD; rw [List.length_append, ndF_len]
      have hds := hde.2.2.2.1.1
      refine awp_plain 4 (by kernel_rfl) rfl (fun g5 hg5 => ?_)
      simp only [go_sem, hgm]
      refine hK9 _ ?_
      refine awp_seq_k (fun K10 hK10 => ?_)
      have hn5_a : g5 ≠ a := fresh_g hg5 i 0 (by simp [go_sem, Ne.symm ha])
      have hn5_g1 : g5 ≠ g1 := fresh_g hg5 3 0 (by simp [go_sem])
      refine awp_ops (by kernel_rfl) rfl (fun g6 hg6 ops6 KR6 hops6 hKR6 => ?_)
      refine aops_eval 5 hops6 ?_
      simp only [go_sem, bxN, Ne.symm hn5_a, Ne.symm hn5_g1]
      refine aops_icall (own := [(⟨g5, 6, 0⟩, .box 42 (deC D))]) (τ := bxN a i g1 R) hops6 rfl rfl rfl (nodes1_calls false D.name D.formals g1 R (by omega)) (CoL.refl _) rfl (fun p hp => ?_) ⟨a, i, ha, rfl⟩ (fun τ2 hI2 hX => ?_)
      · rw [List.mem_singleton.1 hp]
        simp only [go_sem, Ne.symm hn5_a, Ne.symm hn5_g1]
      obtain ⟨a2, i2, ha2, rfl⟩ := hI2
      have hX5 := hX _ List.mem_cons_self
      clear hX
      have hx1 : ¬ (a2 = g5 ∧ i2 = 6) := fun e => by
        obtain ⟨rfl, rfl⟩ := e
        simp [Ab.get, Ne.symm ha2] at hX5
      have hx2 : ¬ (g5 = a2 ∧ 6 = i2) := fun e => hx1 ⟨e.1.symm, e.2.symm⟩
      clear hX5
      refine aops_last 0 hops6 ?_
      simp only [go_sem]
      refine hKR6 _ ?_
      refine hK10 _ ?_
      refine awp_seq_k (fun K11 hK11 => ?_)
      refine awp_anyT 9 [0, 1, 3, 0, 8, 24, 63, 127, 0] (by kernel_rfl) (by kernel_rfl) (by kernel_rfl) rfl (fun g7 hg7 ops7 KR7 hops7 hKR7 => ?_)
      refine qrunT_eval 2 hops7 rfl ?_
      simp only [go_sem, Ne.symm hn5_g1, hx1]
      refine qrunT_pure hops7 rfl rfl rfl (cloneSg_calls D.sigs hds _ _) (CoL.refl _) (by simp [nwOk]) ?_
      refine qrunT_eval 3 hops7 rfl ?_
      simp only [go_sem, Ne.symm hn5_g1, hx1]
      refine qrunT_app hops7 rfl rfl rfl rfl rfl es37 sz40 by40 ze40 rfl (by decide) rfl rfl ?_
      simp only [go_sem]
      first | refine ⟨⟨by omega, by omega⟩, ?_⟩ | skip
      have hn7_g1 : g7 ≠ g1 := fresh_g hg7 3 0 (by simp [go_sem, hn5_g1])
      have hn7_g5 : g7 ≠ g5 := fresh_g hg7 6 0 (by simp [go_sem])
      have hn7_a2 : g7 ≠ a2 := fresh_g hg7 i2 0 (by simp [go_sem, hx2, Ne.symm ha2])
      refine qrunT_last 2 hops7 rfl ?_
      simp only [go_sem]
      refine aops_nil ?_
      refine hKR7 _ ?_
      refine hK11 _ ?_
      refine awp_block ?_
      refine awp_frz ⟨g7, 29, 0⟩ ?_
      simp only [go_sem, Ne.symm hn7_g1, Ne.symm hn7_g5, Ne.symm hn7_a2]
      have hS : (D.sigs.map encSi ++ [.agg (siC D.sig)]) = (D.sigs ++ [D.sig]).map encSi := by simp [encSi]
      have hSd : ∀ s ∈ D.sigs ++ [D.sig], smSi s := fun s hs => by
        rcases List.mem_append.1 hs with h | h
        · exact hde.2.2.2.1.2 s h
        · rw [List.mem_singleton.1 h]; exact hde.2.2.2.2.2.2.1
      have hSl : (D.sigs ++ [D.sig]).length = D.sigs.length + 1 := by simp
      generalize hSS : D.sigs ++ [D.sig] = S at *
      have hRl := ndF_len false D.name D.formals.length
      have hnd : ndD D = ndF false D.name D.formals.length ++ S.flatMap siN := by unfold ndD; rw [hSS]
      generalize ndF false D.name D.formals.length = F at *
      refine awp_loop (fun m s => ∃ j b i, j ≤ S.length ∧ m = S.length - j ∧ b ≠ g1 ∧ LeT { env := [(3, .ptr ⟨g1, 3, 0⟩ 0), (4, .func (.func 37) [] [.ptr ⟨g1, 3, 0⟩ 0]), (11, slDe p.decls), (12, dN p.decls.length), (13, dN k), (29, slSi S), (30, dN S.length), (31, dN j)], σ := bxN b i g1 (R ++ F ++ (S.take j).flatMap siN) } s) S.length ?_ ?_
      · refine ⟨0, a2, i2, Nat.zero_le _, rfl, ha2, ⟨leE_spec ?_, subT_of ?_⟩⟩
        · simp only [go_sem, ← hS, hSl]
          all_goals first | done | exact rfl | exact ⟨rfl, rfl⟩ | trivial
        · simp only [go_sem, List.take_zero, List.flatMap_nil, List.append_nil, hn5_g1, hx2, ha2, Ne.symm ha2]
          all_goals first | done | exact rfl | exact ⟨rfl, rfl⟩ | trivial
      · rintro m s ⟨j, b, i, hj, rfl, hb, hle⟩
        refine awp_keepT hle ?_
        clear hle
        refine awp_seq_k (fun K12 hK12 => ?_)
        by_cases hlj : j < S.length
        · have hgs := getM (f := encSi) hlj
          have hbj := flatM_mem siN hlj
          have hnj := flatM_take siN hlj
          have hsj := hSd _ (List.getElem_mem hlj)
          refine awp_plain 1 (by kernel_rfl) rfl (fun g8 hg8 => ?_)
          simp only [go_sem, hlj]
          refine hK12 _ ?_
          refine awp_seq_k (fun K13 hK13 => ?_)
          refine awp_t rfl ?_
          refine awp_skip ?_
          refine hK13 _ ?_
          refine awp_seq_k (fun K14 hK14 => ?_)
          refine awp_block ?_
          refine awp_seq_k (fun K15 hK15 => ?_)
          generalize S[j] = X at *
          generalize (S.take j).flatMap siN = T at *
          have hXl : (siN X).length = X.formals.length := ndF_len _ _ _
          rw [hnd, List.length_append] at hN'
          have hQl : (R ++ F ++ T).length = R.length + F.length + T.length := by simp only [List.length_append]
          generalize hQ : R ++ F ++ T = Q at hQl ⊢
          refine awp_plain 4 (by kernel_rfl) rfl (fun g9 hg9 => ?_)
          simp only [go_sem, hgs]
          refine hK15 _ ?_
          have hn9_b : g9 ≠ b := fresh_g hg9 i 0 (by simp [go_sem, Ne.symm hb])
          have hn9_g1 : g9 ≠ g1 := fresh_g hg9 3 0 (by simp [go_sem])
          refine awp_ops (by kernel_rfl) rfl (fun g10 hg10 ops10 KR10 hops10 hKR10 => ?_)
          refine aops_eval 5 hops10 ?_
          simp only [go_sem, bxN, Ne.symm hn9_b, Ne.symm hn9_g1]
          refine aops_icall (own := [(⟨g9, 8, 0⟩, .box 40 (siC X))]) (τ := bxN b i g1 Q) hops10 rfl rfl rfl (nodes1_calls true X.name X.formals g1 Q (by omega)) (CoL.refl _) rfl (fun p hp => ?_) ⟨b, i, hb, rfl⟩ (fun τ3 hI3 hX3 => ?_)
          · rw [List.mem_singleton.1 hp]
            simp only [go_sem, Ne.symm hn9_b, Ne.symm hn9_g1]
          obtain ⟨a3, i3, ha3, rfl⟩ := hI3
          have hX9 := hX3 _ List.mem_cons_self
          clear hX3
          have hy1 : ¬ (a3 = g9 ∧ i3 = 8) := fun e => by
            obtain ⟨rfl, rfl⟩ := e
            simp [Ab.get, Ne.symm ha3] at hX9
          have hy2 : ¬ (g9 = a3 ∧ 8 = i3) := fun e => hy1 ⟨e.1.symm, e.2.symm⟩
          clear hX9
          refine aops_last 0 hops10 ?_
          simp only [go_sem]
          refine hKR10 _ ?_
          refine hK14 _ ?_
          refine awp_plain 2 (by kernel_rfl) rfl (fun g11 hg11 => ?_)
          simp only [go_sem]
          try simp (disch := omega) only [wrapN]
          refine ⟨_, ?_, j + 1, a3, i3, hlj, rfl, ha3, ⟨leE_spec ?_, subT_of ?_⟩⟩
          · omega
          · simp only [go_sem]
            all_goals first | done | exact rfl | exact ⟨rfl, rfl⟩ | trivial | omega
          · simp only [go_sem, hnj, ← List.append_assoc, hQ, show ndF true X.name X.formals.length = siN X from rfl, hn9_g1, hy2, ha3, Ne.symm ha3]
            all_goals first | done | exact rfl | exact ⟨rfl, rfl⟩ | trivial | omega
        · have : j = S.length := by omega
          subst this
          rw [List.take_length]
          refine awp_plain 1 (by kernel_rfl) rfl (fun g8 hg8 => ?_)
          simp only [go_sem, hlj]
          refine hK12 _ ?_
          refine awp_seq_k (fun K16 hK16 => ?_)
          refine awp_f rfl ?_
          refine awp_exit ?_
          refine hK8 _ ?_
          refine awp_plain 2 (by kernel_rfl) rfl (fun g12 hg12 => ?_)
          simp only [go_sem]
          try simp (disch := omega) only [wrapN]
          refine ⟨_, ?_, k + 1, b, i, hlt, rfl, hb, ⟨leE_spec ?_, subT_of ?_⟩⟩
          · omega
          · simp only [go_sem]
            all_goals first | done | exact rfl | exact ⟨rfl, rfl⟩ | trivial | omega
          · simp only [go_sem, hnx, hnd, ← List.append_assoc, hb, Ne.symm hb]
            all_goals first | done | exact rfl | exact ⟨rfl, rfl⟩ | trivial | omega
    · have : k = p.decls.length := by omega
      subst this
      have hfl : (p.decls.take p.decls.length).flatMap ndD = ndP p := by rw [List.take_length]; rfl
      rw [hfl]
      have hsl := srt_len ltNd (ndP p)
      refine awp_plain 1 (by kernel_rfl) rfl (fun g4 hg4 => ?_)
      simp only [go_sem, hlt]
      refine hK6 _ ?_
      refine awp_seq_k (fun K17 hK17 => ?_)
      refine awp_f rfl ?_
      refine awp_exit ?_
      refine hK4 _ ?_
      refine awp_seq_k (fun K18 hK18 => ?_)
      refine awp_ops (by kernel_rfl) rfl (fun g13 hg13 ops13 KR13 hops13 hKR13 => ?_)
      refine aops_eval 1 hops13 ?_
      simp only [go_sem, bxN, ha]
      refine aops_obj hops13 rfl rfl rfl (sortNd_calls (ndP p) (by omega) ⟨a, i, 0⟩ _ _) (CoL.refl _) (by simp [go_sem, Ne.symm ha]) ?_
      refine aops_last 0 hops13 ?_
      simp only [go_sem, Ne.symm ha]
      refine hKR13 _ ?_
      refine hK18 _ ?_
      refine awp_seq_k (fun K19 hK19 => ?_)
      refine awp_ops (by kernel_rfl) rfl (fun g14 hg14 ops14 KR14 hops14 hKR14 => ?_)
      refine aops_eval 1 hops14 ?_
      simp only [go_sem, ha]
      refine aops_call hops14 rfl rfl rfl (hsl ▸ compact_calls (srt ltNd (ndP p)) (by omega) ⟨a, i, 0⟩ _ _) (CoL.refl _) (by simp [go_sem]) ?_
      refine aops_last 1 hops14 ?_
      simp only [go_sem, Ne.symm ha]
      refine hKR14 _ ?_
      refine hK19 _ ?_
      refine awp_ret ?_
      refine ends_ev rfl ?_
      simp only [go_sem]
      exact Co.of_eq (by unfold nodesOf; rw [hsl])
end Go.Proofs.T


namespace Go.Proofs.T
open Go Go.Ab Go.RowKit

/-! ## Edges -/

structure Ed where
  frm : Nd
  to : Nd
  ins : Bool
instance : Inhabited Ed := ⟨⟨default, default, false⟩⟩
theorem Ed.eq_iff {a b : Ed} : a = b ↔ a.frm = b.frm ∧ a.to = b.to ∧ a.ins = b.ins := by
  cases a
  cases b
  simp
def edC (e : Ed) : List D := [dB e.frm.method, encS e.frm.name, dI e.frm.idx, dB e.to.method, encS e.to.name, dI e.to.idx, dB e.ins]
def encEd (e : Ed) : D := .agg (edC e)
theorem encEd_cells (e : Ed) : (encEd e).cells = edC e := rfl
def slEd (l : List Ed) : D := .sl false (l.map encEd)
attribute [go_sem] encEd_cells encEd edC slEd
def cfEd (x y : Ed) : Int := or3 (cfNd x.frm y.frm) (cfNd x.to y.to) (cmpI (ordB x.ins) (ordB y.ins))
theorem goodEd : Good cfEd :=
  (goodNd.pull fun x : Ed => x.frm).lex ((goodNd.pull fun x : Ed => x.to).lex (goodI.pull fun x : Ed => ordB x.ins))
theorem cfEd_zero {x y : Ed} : cfEd x y = 0 ↔ x = y := by
  constructor
  · intro h
    unfold cfEd or3 at h
    split at h
    · rename_i h1
      split at h
      · rename_i h2
        exact Ed.eq_iff.2 ⟨cfNd_zero.1 h1, cfNd_zero.1 h2, ordB_inj (cmpI_zero.1 h)⟩
      · contradiction
    · contradiction
  · rintro rfl
    exact goodEd.zero _
def ltEd : Ed → Ed → Bool := Go.Proofs.ltOf cfEd
theorem ed_uniq {l l2 : List Ed} (hp : l2.Perm l) (ho : l2.Pairwise fun a b => Go.Proofs.ltOf cfEd b a = false) : l2 = srt ltEd l := by
  refine srt_uniq goodEd.swo (fun a _ b _ h1 h2 => ?_) hp ho
  simp only [Go.Proofs.ltOf, decide_eq_false_iff_not] at h1 h2
  have k1 := goodEd.anti a b
  have k2 := goodEd.anti b a
  exact cfEd_zero.1 (by omega)

theorem edCompare_calls (x y : Ed) (g d : Nat) : ACalls E 73 [encEd x, encEd y] [] g d (dI (cfEd x y)) [] := by
  refine acalls_of_awp (fn := Tryz.f73) (N := 24) Tryz.call73 Tryz.func73 rfl rfl (by simp) ?_
  simp only [go_sem]
  refine awp_seq_k (fun K1 hK1 => ?_)
  refine awp_plain 3 (by kernel_rfl) rfl (fun g0 hg0 => ?_)
  simp only [go_sem]
  refine hK1 _ ?_
  refine awp_seq_k (fun K2 hK2 => ?_)
  refine awp_any 19 (by kernel_rfl) (by kernel_rfl) rfl (fun g1 hg1 ops1 KR1 hops1 hKR1 => ?_)
  refine qrun_eval 4 hops1 ?_
  simp only [go_sem]
  refine qrun_pure hops1 rfl rfl rfl (ndCompare_calls x.frm y.frm _ _) (CoL.refl _) rfl ?_
  refine qrun_eval 4 hops1 ?_
  simp only [go_sem]
  refine qrun_pure hops1 rfl rfl rfl (ndCompare_calls x.to y.to _ _) (CoL.refl _) rfl ?_
  refine qrun_eval 2 hops1 ?_
  simp only [go_sem]
  refine qrun_pure hops1 rfl rfl rfl (order_calls _ _ _) (CoL.refl _) rfl ?_
  refine qrun_eval 2 hops1 ?_
  simp only [go_sem]
  refine qrun_pure hops1 rfl rfl rfl (order_calls _ _ _) (CoL.refl _) rfl ?_
  refine qrun_pure hops1 rfl rfl rfl (cmpInt_calls _ _ _ _) (CoL.refl _) rfl ?_
  refine qrun_eval 1 hops1 ?_
  simp only [go_sem]
  refine qrun_pure hops1 rfl rfl rfl (or3_calls _ _ _ _ _ _) (CoL.refl _) rfl ?_
  refine qrun_last 0 hops1 ?_
  simp only [go_sem]
  refine aops_last 1 hops1 ?_
  simp only [go_sem]
  refine hKR1 _ ?_
  refine hK2 _ ?_
  refine awp_ret ?_
  refine ends_ev rfl ?_
  simp only [go_sem]
  exact Co.refl _
theorem edCmp_at : CmpAt Tryz.prog E.A 73 Ed 7 (okV encEd) cfEd := cmpAt_of (E := E) (fun _ => rfl) fun x y g d => edCompare_calls x y g d
theorem sortEd_calls (l : List Ed) (hl : l.length ≤ 1000000) (n : Nm) (g d : Nat) :
    ACalls E 95 [.own n l.length, .func (.func 73) [] []] [(n, .arr 70 7 (l.map encEd))] g d (.tup []) [(n, .arr 70 7 ((srt ltEd l).map encEd))] :=
  acalls_sort (E := E) (k := 7) (ok := okV encEd) (encB := encEd) Tryz.laySortEdge (by kernel_rfl) (by kernel_rfl) Tryz.call95 ag70 sz70 (by decide) (fun _ => ⟨rfl, rfl⟩)
    (fun G w vs b h => by
      have h' : Vs G w vs ([.bool b.frm.method, .string b.frm.name, .int .i64 b.frm.idx, .bool b.to.method, .string b.to.name, .int .i64 b.to.idx, .bool b.ins].map .val) := h
      rw [Vs.toVals h']
      rfl)
    goodEd.swo E_keep edCmp_at Tryz.call73 (by omega) (fun l2 hp ho => ed_uniq hp ho) n g d

/-! ## Edges in order, each once -/

def SE (l : List Ed) : Prop := l.Pairwise fun a b => cfEd a b < 0
/-- One more, at its place, if it is not there. -/
def putE : List Ed → Ed → List Ed
  | [], e => [e]
  | x :: r, e => if cfEd e x = 0 then x :: r else if cfEd e x < 0 then e :: x :: r else x :: putE r e
theorem putE_mem (e x : Ed) : ∀ l, x ∈ putE l e ↔ x = e ∨ x ∈ l
  | [] => by simp [putE]
  | y :: r => by
    have ih := putE_mem e x r
    unfold putE
    split
    · rename_i h
      have := cfEd_zero.1 h
      subst this
      constructor
      · exact .inr
      · rintro (rfl | h)
        · exact List.mem_cons_self
        · exact h
    · split
      · simp
      · simp only [List.mem_cons, ih]
        constructor
        · rintro (h | h | h)
          · exact .inr (.inl h)
          · exact .inl h
          · exact .inr (.inr h)
        · rintro (h | h | h)
          · exact .inr (.inl h)
          · exact .inl h
          · exact .inr (.inr h)
theorem putE_se (e : Ed) : ∀ l, SE l → SE (putE l e)
  | [], _ => by simp [putE, SE]
  | y :: r, h => by
    have ih := putE_se e r (List.Pairwise.of_cons h)
    have hy := (List.pairwise_cons.1 h).1
    unfold putE
    split
    · exact h
    · rename_i h0
      split
      · rename_i h1
        refine List.pairwise_cons.2 ⟨fun z hz => ?_, h⟩
        rcases List.mem_cons.1 hz with rfl | hz
        · exact h1
        · have h2 := goodEd.trans e y z (by omega) (by have := hy z hz; omega)
          have h3 := hy z hz
          rcases Int.lt_or_eq_of_le h2 with h4 | h4
          · exact h4
          · have h5 := cfEd_zero.1 h4
            subst h5
            have := goodEd.anti e y
            omega
      · refine List.pairwise_cons.2 ⟨fun z hz => ?_, ih⟩
        rcases (putE_mem e z r).1 hz with rfl | hz
        · have := goodEd.anti y z
          omega
        · exact hy z hz
theorem putE_len (e : Ed) : ∀ l : List Ed, (putE l e).length ≤ l.length + 1
  | [] => by simp [putE]
  | y :: r => by
    have ih := putE_len e r
    unfold putE
    split
    · simp
    · split
      · simp
      · simp only [List.length_cons]
        omega
theorem se_uniq : ∀ {a b : List Ed}, SE a → SE b → (∀ x, x ∈ a ↔ x ∈ b) → a = b
  | [], [], _, _, _ => rfl
  | [], y :: b, _, _, h => absurd ((h y).2 List.mem_cons_self) (by simp)
  | x :: a, [], _, _, h => absurd ((h x).1 List.mem_cons_self) (by simp)
  | x :: a, y :: b, ha, hb, h => by
    have hx := (List.pairwise_cons.1 ha).1
    have hy := (List.pairwise_cons.1 hb).1
    have e : x = y := by
      rcases List.mem_cons.1 ((h x).1 List.mem_cons_self) with e | h1
      · exact e
      rcases List.mem_cons.1 ((h y).2 List.mem_cons_self) with e | h2
      · exact e.symm
      have := hx y h2
      have := hy x h1
      have := goodEd.anti x y
      omega
    subst e
    have hn : ∀ {l : List Ed}, (∀ z ∈ l, cfEd x z < 0) → x ∉ l := fun hl hm => by
      have := hl x hm
      have := goodEd.zero x
      omega
    rw [se_uniq (List.Pairwise.of_cons ha) (List.Pairwise.of_cons hb) fun z => ?_]
    have hz := h z
    simp only [List.mem_cons] at hz
    constructor
    · intro h1
      rcases hz.1 (.inr h1) with rfl | h2
      · exact absurd h1 (hn hx)
      · exact h2
    · intro h1
      rcases hz.2 (.inr h1) with rfl | h2
      · exact absurd h1 (hn hy)
      · exact h2
theorem putAll_mem (x : Ed) : ∀ (m l : List Ed), x ∈ m.foldl putE l ↔ x ∈ m ∨ x ∈ l
  | [], l => by simp
  | e :: m, l => by
    rw [List.foldl_cons, putAll_mem x m, putE_mem, List.mem_cons]
    constructor
    · rintro (h | h | h)
      · exact .inl (.inr h)
      · exact .inl (.inl h)
      · exact .inr h
    · rintro ((h | h) | h)
      · exact .inr (.inl h)
      · exact .inl h
      · exact .inr (.inr h)
theorem putAll_se : ∀ (m l : List Ed), SE l → SE (m.foldl putE l)
  | [], _, h => h
  | e :: m, l, h => by
    rw [List.foldl_cons]
    exact putAll_se m _ (putE_se e l h)
theorem putAll_len : ∀ (m l : List Ed), (m.foldl putE l).length ≤ l.length + m.length
  | [], l => by simp
  | e :: m, l => by
    have := putAll_len m (putE l e)
    have := putE_len e l
    rw [List.foldl_cons, List.length_cons]
    omega
/-- The set of these, in order. -/
def setE (m : List Ed) : List Ed := m.foldl putE []
theorem setE_mem (m : List Ed) (x : Ed) : x ∈ setE m ↔ x ∈ m := by simp [setE, putAll_mem]
theorem setE_se (m : List Ed) : SE (setE m) := putAll_se m [] List.Pairwise.nil
theorem setE_eq {m m' : List Ed} (h : ∀ x, x ∈ m ↔ x ∈ m') : setE m = setE m' := se_uniq (setE_se _) (setE_se _) fun x => by rw [setE_mem, setE_mem, h]
theorem srt_set {m k : List Ed} (hn : k.Nodup) (h : ∀ x, x ∈ k ↔ x ∈ m) : srt ltEd k = setE m := by
  have hperm := srt_perm ltEd k
  refine se_uniq ?_ (setE_se m) fun x => by rw [hperm.mem_iff, h, setE_mem]
  have ho := srt_ord goodEd.swo k
  have hd : (srt ltEd k).Nodup := hperm.nodup_iff.2 hn
  refine (List.Pairwise.and ho hd).imp ?_
  rintro a b ⟨h1, h2⟩
  have h1' : ¬ cfEd b a < 0 := by simpa [ltEd, Go.Proofs.ltOf] using h1
  have := goodEd.anti a b
  have := goodEd.anti b a
  have : cfEd a b ≠ 0 := fun e => h2 (cfEd_zero.1 e)
  omega

/-! ## Sets of edges: maps -/

def edV (e : Ed) : Value := .agg #[.bool e.frm.method, .string e.frm.name, .int .i64 e.frm.idx, .bool e.to.method, .string e.to.name, .int .i64 e.to.idx, .bool e.ins]
theorem edV_inj {a b : Ed} (h : edV a = edV b) : a = b := by
  obtain ⟨⟨a1, a2, a3⟩, ⟨a4, a5, a6⟩, a7⟩ := a
  obtain ⟨⟨b1, b2, b3⟩, ⟨b4, b5, b6⟩, b7⟩ := b
  simp only [edV, Value.agg.injEq, Array.mk.injEq, List.cons.injEq, Value.bool.injEq, Value.string.injEq, Value.int.injEq, true_and, and_true] at h
  obtain ⟨rfl, rfl, rfl, rfl, rfl, rfl, rfl⟩ := h
  rfl
def edE (l : List Ed) : List (Value × D) := l.map fun e => (edV e, .val (.bool true))
open Classical in
noncomputable def addE (l : List Ed) (e : Ed) : List Ed := if e ∈ l then l else l ++ [e]
open Classical in
theorem mput_ed : ∀ (l : List Ed) (e : Ed), mput (edE l) (edV e) (.val (.bool true)) = edE (addE l e)
  | [], n => by simp [edE, mput, addE]
  | x :: r, n => by
    have ih := mput_ed r n
    unfold addE at ih ⊢
    simp only [edE, List.map_cons, mput, List.cons_append] at ih ⊢
    by_cases h : x = n
    · simp [h]
    · rw [if_neg (fun h' => h (edV_inj h')), ih]
      by_cases hm : n ∈ r <;> simp [hm, Ne.symm h]
theorem edE_len (l : List Ed) : (edE l).length = l.length := by simp [edE]
open Classical in
theorem addE_mem (l : List Ed) (s x : Ed) : x ∈ addE l s ↔ x = s ∨ x ∈ l := by
  unfold addE
  split
  · rename_i h
    constructor
    · exact .inr
    · rintro (rfl | h')
      · exact h
      · exact h'
  · rw [List.mem_append, List.mem_singleton, or_comm]
open Classical in
theorem addE_nodup (l : List Ed) (s : Ed) (h : l.Nodup) : (addE l s).Nodup := by
  unfold addE
  split
  · exact h
  · rename_i hs
    rw [List.nodup_append]
    refine ⟨h, by simp, fun a ha b hb => ?_⟩
    rw [List.mem_singleton.1 hb]
    intro e
    exact hs (e ▸ ha)
theorem addAll_mem (x : Ed) : ∀ (m l : List Ed), x ∈ m.foldl addE l ↔ x ∈ m ∨ x ∈ l
  | [], l => by simp
  | e :: m, l => by
    rw [List.foldl_cons, addAll_mem x m, addE_mem, List.mem_cons]
    constructor
    · rintro (h | h | h)
      · exact .inl (.inr h)
      · exact .inl (.inl h)
      · exact .inr h
    · rintro ((h | h) | h)
      · exact .inr (.inl h)
      · exact .inl h
      · exact .inr (.inr h)
theorem addAll_nodup : ∀ (m l : List Ed), l.Nodup → (m.foldl addE l).Nodup
  | [], _, h => h
  | e :: m, l, h => by
    rw [List.foldl_cons]
    exact addAll_nodup m _ (addE_nodup l e h)
theorem addE_len (l : List Ed) (e : Ed) : (addE l e).length ≤ l.length + 1 := by
  unfold addE
  split <;> simp
theorem addAll_len : ∀ (m l : List Ed), (m.foldl addE l).length ≤ l.length + m.length
  | [], l => by simp
  | e :: m, l => by
    have := addAll_len m (addE l e)
    have := addE_len l e
    rw [List.foldl_cons, List.length_cons]
    omega
theorem srt_addAll (m : List Ed) : srt ltEd (m.foldl addE []) = setE m := srt_set (addAll_nodup m [] List.nodup_nil) fun x => by simp [addAll_mem]
end Go.Proofs.T


namespace Go.Proofs.T
open Go Go.Ab Go.RowKit

/-! ## Names of formals; scopes -/

theorem foldTake {α β : Type} (f : β → α → β) (b : β) {l : List α} {k : Nat} (h : k < l.length) : (l.take (k + 1)).foldl f b = f ((l.take k).foldl f b) l[k] := by
  rw [List.take_add_one, List.getElem?_eq_getElem h, Option.toList_some, List.foldl_append]
  rfl
theorem flowNames_calls (l : List Formal) (hl : l.length ≤ 1000000) (g d : Nat) : ACalls E 64 [slFm l] [] g d (slS (l.map (·.name))) [] := by
  refine acalls_of_awp (fn := Tryz.f64) (N := 19) Tryz.call64 Tryz.func64 rfl rfl (by simp) ?_
  simp only [go_sem]
  refine awp_seq_k (fun K1 hK1 => ?_)
  refine awp_plain 1 (by kernel_rfl) rfl (fun g0 hg0 => ?_)
  simp only [go_sem]
  refine hK1 _ ?_
  refine awp_seq_k (fun K2 hK2 => ?_)
  refine awp_plain 1 (by kernel_rfl) rfl (fun g1 hg1 => ?_)
  simp only [go_sem]
  refine hK2 _ ?_
  refine awp_seq_k (fun K3 hK3 => ?_)
  refine awp_seq_k (fun K4 hK4 => ?_)
  refine awp_plain 3 (by kernel_rfl) rfl (fun g2 hg2 => ?_)
  simp only [go_sem]
  refine hK4 _ ?_
  refine awp_block ?_
  refine awp_nil 3 9 1 rfl fun gn hgn => ?_
  refine awp_loop (fun m s => ∃ k a i, k ≤ l.length ∧ m = l.length - k ∧
      Le { env := [(6, slFm l), (7, dN l.length), (8, dN k), (3, .own ⟨a, i, 0⟩ k)], σ := [(⟨a, i, 0⟩, .arr 9 1 ((l.take k).map fun f => encS f.name))] } s) l.length ?_ ?_
  · refine ⟨0, gn, 0, Nat.zero_le _, rfl, le_of ?_⟩
    simp only [go_sem]
    trivial
  · rintro m s ⟨k, a, i, hk, rfl, hle⟩
    refine awp_keep hle ?_
    clear hle
    by_cases h : k < l.length
    · refine awp_seq_k (fun K5 hK5 => ?_)
      refine awp_plain 1 (by kernel_rfl) rfl (fun g3 hg3 => ?_)
      simp only [go_sem, h]
      refine hK5 _ ?_
      refine awp_seq_k (fun K6 hK6 => ?_)
      refine awp_t rfl ?_
      refine awp_skip ?_
      refine hK6 _ ?_
      refine awp_seq_k (fun K7 hK7 => ?_)
      refine awp_block ?_
      refine awp_seq_k (fun K8 hK8 => ?_)
      refine awp_plain 4 (by kernel_rfl) rfl (fun g4 hg4 => ?_)
      simp only [go_sem, getM h]
      refine hK8 _ ?_
      have hn4_a : g4 ≠ a := fresh_g hg4 i 0 (by simp [go_sem])
      refine awp_ops (by kernel_rfl) rfl (fun g5 hg5 ops5 KR5 hops5 hKR5 => ?_)
      refine aops_eval 4 hops5 ?_
      simp only [go_sem, Ne.symm hn4_a]
      refine aops_app hops5 rfl rfl rfl rfl rfl es38 sz9 by9 ze9 rfl (by decide) ?_
      simp only [go_sem, List.length_take_of_le (Nat.le_of_lt h), hn4_a]
      first | refine ⟨⟨by omega, by omega⟩, ?_⟩ | skip
      refine aops_last 1 hops5 ?_
      simp only [go_sem]
      refine hKR5 _ ?_
      refine hK7 _ ?_
      refine awp_plain 2 (by kernel_rfl) rfl (fun g6 hg6 => ?_)
      simp only [go_sem]
      try simp (disch := omega) only [wrapN]
      refine ⟨_, ?_, k + 1, g5, 16, h, rfl, le_of ?_⟩
      · omega
      simp only [go_sem, ← takeM _ h]
      omega
    · refine awp_seq_k (fun K9 hK9 => ?_)
      refine awp_plain 1 (by kernel_rfl) rfl (fun g3 hg3 => ?_)
      simp only [go_sem, h]
      refine hK9 _ ?_
      refine awp_seq_k (fun K10 hK10 => ?_)
      refine awp_f rfl ?_
      refine awp_exit ?_
      refine hK3 _ ?_
      refine awp_seq_k (fun K11 hK11 => ?_)
      refine awp_plain 2 (by kernel_rfl) rfl (fun g7 hg7 => ?_)
      simp only [go_sem]
      refine hK11 _ ?_
      refine awp_ret ?_
      have : k = l.length := by omega
      subst this
      refine ret_frz ⟨a, i, 0⟩ ?_
      simp only [go_sem]
      refine ends_ev rfl ?_
      simp only [go_sem]
      exact Co.of_eq (by simp [Function.comp_def, encS])

def ksN : KS := .one .str
attribute [go_sem] ksN
/-- Names with their nodes. -/
abbrev Sc := List (Str × Nd)
def scE (s : Sc) : List (Value × D) := s.map fun p => (.string p.1, encNd p.2)
open Classical in
noncomputable def lookS : Sc → Str → Option Nd
  | [], _ => none
  | p :: r, v => if p.1 = v then some p.2 else lookS r v
open Classical in
theorem mget_sc : ∀ (s : Sc) (v : Str), mget (scE s) (.string v) = (lookS s v).map encNd
  | [], _ => rfl
  | p :: r, v => by
    have ih := mget_sc r v
    unfold scE at ih ⊢
    simp only [List.map_cons, mget, lookS]
    by_cases h : p.1 = v
    · simp [h]
    · rw [if_neg (by simpa using h), if_neg h, ih]
theorem mput_sc : ∀ (s : Sc) (v : Str) (n : Nd), lookS s v = none → mput (scE s) (.string v) (encNd n) = scE (s ++ [(v, n)])
  | [], _, _, _ => rfl
  | p :: r, v, n, h => by
    unfold lookS at h
    split at h
    · cases h
    · rename_i hne
      have ih := mput_sc r v n h
      unfold scE at ih ⊢
      simp only [List.map_cons, mput, List.cons_append]
      rw [if_neg (by simpa using hne), ih]
theorem lookS_app : ∀ (s t : Sc) (v : Str), lookS (s ++ t) v = match lookS s v with | some n => some n | none => lookS t v
  | [], _, _ => rfl
  | p :: r, t, v => by
    have ih := lookS_app r t v
    simp only [List.cons_append, lookS]
    split
    · rfl
    · exact ih
/-- One more, if the name is not there. -/
noncomputable def addS (s : Sc) (p : Str × Nd) : Sc := match lookS s p.1 with | some _ => s | none => s ++ [p]
theorem lookS_add (s : Sc) (p : Str × Nd) (v : Str) : lookS (addS s p) v = lookS (s ++ [p]) v := by
  unfold addS
  split
  · rename_i n h
    rw [lookS_app]
    cases hv : lookS s v with
    | some n' => rfl
    | none =>
      have hne : p.1 ≠ v := fun e => by rw [e, hv] at h; cases h
      simp [lookS, hne]
  · rfl
theorem lookS_adds : ∀ (m s : Sc) (v : Str), lookS (m.foldl addS s) v = lookS (s ++ m) v
  | [], s, v => by simp
  | p :: m, s, v => by
    rw [List.foldl_cons, lookS_adds m (addS s p) v, lookS_app, lookS_add, ← lookS_app, List.append_assoc]
    rfl
/-- The nodes of names. -/
def scN (b : Bool) (o : Str) (ns : List Str) : Sc := ns.mapIdx fun i v => (v, ⟨b, o, (i : Int)⟩)
theorem scN_len (b : Bool) (o : Str) (ns : List Str) : (scN b o ns).length = ns.length := by simp [scN]
theorem scN_get (b : Bool) (o : Str) (ns : List Str) (k : Nat) (h : k < (scN b o ns).length) : (scN b o ns)[k] = (ns[k]'(by rwa [scN_len] at h), ⟨b, o, (k : Int)⟩) := by simp [scN]
noncomputable def putS2 (s : Sc) (b : Bool) (o : Str) (ns : List Str) : Sc := (scN b o ns).foldl addS s

theorem mclone_f : Tryz.layMClone_ren.f 5 = 90 := by kernel_rfl
theorem mclone_c (b : Nat) (es : Array MapEntry) (clock : Nat) (w : World) (h : w.heap[b]? = some (.map es clock)) : Calls E.P 90 #[.map (some b)] w fun e w' => e = .returned (.map (some w.heap.size)) ∧ w' = w.alloc (.map es clock) := by
  have := AnyW.maps_Clone Tryz.layMClone b es clock w h
  rw [mclone_f] at this
  exact this
theorem cloneSc_calls (s : Sc) (g d : Nat) : ACalls E 90 [.fmap ksN (scE s)] [] g d (.mref ⟨g, d, 1⟩) [(⟨g, d, 1⟩, .map ksN (scE s))] := by
  refine acalls_mclone (E := E) ?_ ?_ ksN (scE s) g d
  · exact Tryz.call90
  · exact mclone_c
theorem cloneNil_calls (g d : Nat) : ACalls E 90 [.val (.map none)] [] g d (.val (.map none)) [] :=
  acalls_same (l := [.map none]) Tryz.call90 (fun w => by
    have := AnyW.maps_Clone_nil Tryz.layMClone w
    rw [mclone_f] at this
    exact this)
theorem im_sc : isMapT Tryz.prog 112 = true := by kernel_rfl
attribute [go_sem] im_sc

set_option maxRecDepth 100000 in
theorem put_calls (s : Sc) (b : Bool) (o : Str) (ns : List Str) (hl : ns.length ≤ 1000000) (g d : Nat) : ACalls E 63 [.fmap ksN (scE s), dB b, encS o, slS ns] [] g d (.fmap ksN (scE (putS2 s b o ns))) [] := by
  refine acalls_of_awp (fn := Tryz.f63) (N := 42) Tryz.call63 Tryz.func63 rfl rfl (by simp) ?_
  simp only [go_sem]
  refine awp_seq_k (fun K1 hK1 => ?_)
  refine awp_plain 1 (by kernel_rfl) rfl (fun g0 hg0 => ?_)
  simp only [go_sem]
  refine hK1 _ ?_
  refine awp_seq_k (fun K2 hK2 => ?_)
  refine awp_ops (by kernel_rfl) rfl (fun g1 hg1 ops1 KR1 hops1 hKR1 => ?_)
  refine aops_eval 1 hops1 ?_
  simp only [go_sem]
  refine aops_pure hops1 rfl rfl rfl (cloneSc_calls s _ _) (CoL.refl _) ?_
  refine aops_last 1 hops1 ?_
  simp only [go_sem]
  refine hKR1 _ ?_
  refine hK2 _ ?_
  refine awp_seq_k (fun K3 hK3 => ?_)
  refine awp_seq_k (fun K4 hK4 => ?_)
  refine awp_plain 2 (by kernel_rfl) rfl (fun g2 hg2 => ?_)
  simp only [go_sem]
  refine hK4 _ ?_
  refine awp_f rfl ?_
  refine awp_skip ?_
  refine hK3 _ ?_
  refine awp_seq_k (fun K5 hK5 => ?_)
  refine awp_seq_k (fun K6 hK6 => ?_)
  refine awp_plain 3 (by kernel_rfl) rfl (fun g4 hg4 => ?_)
  simp only [go_sem]
  refine hK6 _ ?_
  refine awp_block ?_
  refine awp_loop (fun m st => ∃ k, k ≤ ns.length ∧ m = ns.length - k ∧ Le { env := [(1, dB b), (2, encS o), (9, .mref ⟨g1, 15, 1⟩), (19, slS ns), (20, dN ns.length), (21, dN k)], σ := [(⟨g1, 15, 1⟩, .map ksN (scE (((scN b o ns).take k).foldl addS s)))] } st) ns.length ?_ ?_
  · refine ⟨0, Nat.zero_le _, rfl, le_of ?_⟩
    simp only [go_sem, List.take_zero, List.foldl_nil]
    all_goals first | done | exact rfl | exact ⟨rfl, rfl⟩ | trivial
  · rintro m st ⟨k, hk, rfl, hle⟩
    refine awp_keep hle ?_
    clear hle
    by_cases h : k < ns.length
    · have hk2 : k < (scN b o ns).length := by rwa [scN_len]
      have hst := foldTake addS s hk2
      rw [scN_get] at hst
      generalize ((scN b o ns).take k).foldl addS s = S at *
      refine awp_seq_k (fun K7 hK7 => ?_)
      refine awp_plain 1 (by kernel_rfl) rfl (fun g5 hg5 => ?_)
      simp only [go_sem, h]
      refine hK7 _ ?_
      refine awp_seq_k (fun K8 hK8 => ?_)
      refine awp_t rfl ?_
      refine awp_skip ?_
      refine hK8 _ ?_
      refine awp_seq_k (fun K9 hK9 => ?_)
      refine awp_block ?_
      refine awp_seq_k (fun K10 hK10 => ?_)
      refine awp_plain 5 (by kernel_rfl) rfl (fun g6 hg6 => ?_)
      simp only [go_sem, getM h]
      refine hK10 _ ?_
      refine awp_seq_k (fun K11 hK11 => ?_)
      cases hl : lookS S ns[k] with
      | some n =>
        rw [show addS S (ns[k], ⟨b, o, (k : Int)⟩) = S by simp [addS, hl]] at hst
        refine awp_plain 9 (by kernel_rfl) rfl (fun g7 hg7 => ?_)
        simp only [go_sem, mget_sc, hl, Option.map_some]
        refine hK11 _ ?_
        refine awp_seq_k (fun K12 hK12 => ?_)
        refine awp_plain 2 (by kernel_rfl) rfl (fun g8 hg8 => ?_)
        simp only [go_sem]
        refine hK12 _ ?_
        refine awp_f rfl ?_
        refine awp_skip ?_
        refine hK9 _ ?_
        refine awp_plain 2 (by kernel_rfl) rfl (fun g10 hg10 => ?_)
        simp only [go_sem]
        try simp (disch := omega) only [wrapN]
        refine ⟨_, ?_, k + 1, h, rfl, le_of ?_⟩
        · omega
        simp only [go_sem, hst]
        all_goals first | done | exact rfl | exact ⟨rfl, rfl⟩ | trivial | omega
      | none =>
        rw [show addS S (ns[k], ⟨b, o, (k : Int)⟩) = S ++ [(ns[k], ⟨b, o, (k : Int)⟩)] by simp [addS, hl]] at hst
        have hp := mput_sc S ns[k] ⟨b, o, (k : Int)⟩ hl
        simp only [encNd, ndC, encS] at hp
        refine awp_plain 9 (by kernel_rfl) rfl (fun g7 hg7 => ?_)
        simp only [go_sem, mget_sc, hl, Option.map_none]
        refine hK11 _ ?_
        refine awp_seq_k (fun K13 hK13 => ?_)
        refine awp_plain 2 (by kernel_rfl) rfl (fun g8 hg8 => ?_)
        simp only [go_sem]
        refine hK13 _ ?_
        refine awp_t rfl ?_
        refine awp_plain 7 (by kernel_rfl) rfl (fun g9 hg9 => ?_)
        simp only [go_sem, hp]
        refine hK9 _ ?_
        refine awp_plain 2 (by kernel_rfl) rfl (fun g10 hg10 => ?_)
        simp only [go_sem]
        try simp (disch := omega) only [wrapN]
        refine ⟨_, ?_, k + 1, h, rfl, le_of ?_⟩
        · omega
        simp only [go_sem, hst]
        all_goals first | done | exact rfl | exact ⟨rfl, rfl⟩ | trivial | omega
    · have : k = ns.length := by omega
      subst this
      refine awp_seq_k (fun K14 hK14 => ?_)
      refine awp_plain 1 (by kernel_rfl) rfl (fun g5 hg5 => ?_)
      simp only [go_sem, h]
      refine hK14 _ ?_
      refine awp_seq_k (fun K15 hK15 => ?_)
      refine awp_f rfl ?_
      refine awp_exit ?_
      refine hK5 _ ?_
      refine awp_seq_k (fun K16 hK16 => ?_)
      refine awp_plain 2 (by kernel_rfl) rfl (fun g11 hg11 => ?_)
      simp only [go_sem]
      refine hK16 _ ?_
      refine awp_ret ?_
      rw [show (scN b o ns).take ns.length = scN b o ns from List.take_of_length_le (by rw [scN_len]; exact Nat.le_refl _)]
      refine ret_fmap ⟨g1, 15, 1⟩ ?_
      simp only [go_sem]
      refine ends_ev rfl ?_
      simp only [go_sem]
      exact Co.refl _
set_option maxRecDepth 100000 in
theorem putNil_calls (b : Bool) (o : Str) (ns : List Str) (hl : ns.length ≤ 1000000) (g d : Nat) : ACalls E 63 [.val (.map none), dB b, encS o, slS ns] [] g d (.fmap ksN (scE (putS2 [] b o ns))) [] := by
  refine acalls_of_awp (fn := Tryz.f63) (N := 42) Tryz.call63 Tryz.func63 rfl rfl (by simp) ?_
  simp only [go_sem]
  refine awp_seq_k (fun K1 hK1 => ?_)
  refine awp_plain 1 (by kernel_rfl) rfl (fun g0 hg0 => ?_)
  simp only [go_sem]
  refine hK1 _ ?_
  refine awp_seq_k (fun K2 hK2 => ?_)
  refine awp_ops (by kernel_rfl) rfl (fun g1 hg1 ops1 KR1 hops1 hKR1 => ?_)
  refine aops_eval 1 hops1 ?_
  simp only [go_sem]
  refine aops_pure hops1 rfl rfl rfl (cloneNil_calls _ _) (CoL.refl _) ?_
  refine aops_last 1 hops1 ?_
  simp only [go_sem]
  refine hKR1 _ ?_
  refine hK2 _ ?_
  refine awp_seq_k (fun K3 hK3 => ?_)
  refine awp_seq_k (fun K4 hK4 => ?_)
  refine awp_plain 2 (by kernel_rfl) rfl (fun g2 hg2 => ?_)
  simp only [go_sem]
  refine hK4 _ ?_
  refine awp_t rfl ?_
  refine awp_plain 2 (by kernel_rfl) rfl (fun g3 hg3 => ?_)
  simp only [go_sem]
  refine hK3 _ ?_
  refine awp_seq_k (fun K5 hK5 => ?_)
  refine awp_seq_k (fun K6 hK6 => ?_)
  refine awp_plain 3 (by kernel_rfl) rfl (fun g4 hg4 => ?_)
  simp only [go_sem]
  refine hK6 _ ?_
  refine awp_block ?_
  refine awp_loop (fun m st => ∃ k, k ≤ ns.length ∧ m = ns.length - k ∧ Le { env := [(1, dB b), (2, encS o), (9, .mref ⟨g3, 18, 0⟩), (19, slS ns), (20, dN ns.length), (21, dN k)], σ := [(⟨g3, 18, 0⟩, .map ksN (scE (((scN b o ns).take k).foldl addS ([] : Sc))))] } st) ns.length ?_ ?_
  · refine ⟨0, Nat.zero_le _, rfl, le_of ?_⟩
    simp only [go_sem, List.take_zero, List.foldl_nil]
    all_goals first | done | exact rfl | exact ⟨rfl, rfl⟩ | trivial
  · rintro m st ⟨k, hk, rfl, hle⟩
    refine awp_keep hle ?_
    clear hle
    by_cases h : k < ns.length
    · have hk2 : k < (scN b o ns).length := by rwa [scN_len]
      have hst := foldTake addS ([] : Sc) hk2
      rw [scN_get] at hst
      generalize ((scN b o ns).take k).foldl addS ([] : Sc) = S at *
      refine awp_seq_k (fun K7 hK7 => ?_)
      refine awp_plain 1 (by kernel_rfl) rfl (fun g5 hg5 => ?_)
      simp only [go_sem, h]
      refine hK7 _ ?_
      refine awp_seq_k (fun K8 hK8 => ?_)
      refine awp_t rfl ?_
      refine awp_skip ?_
      refine hK8 _ ?_
      refine awp_seq_k (fun K9 hK9 => ?_)
      refine awp_block ?_
      refine awp_seq_k (fun K10 hK10 => ?_)
      refine awp_plain 5 (by kernel_rfl) rfl (fun g6 hg6 => ?_)
      simp only [go_sem, getM h]
      refine hK10 _ ?_
      refine awp_seq_k (fun K11 hK11 => ?_)
      cases hl : lookS S ns[k] with
      | some n =>
        rw [show addS S (ns[k], ⟨b, o, (k : Int)⟩) = S by simp [addS, hl]] at hst
        refine awp_plain 9 (by kernel_rfl) rfl (fun g7 hg7 => ?_)
        simp only [go_sem, mget_sc, hl, Option.map_some]
        refine hK11 _ ?_
        refine awp_seq_k (fun K12 hK12 => ?_)
        refine awp_plain 2 (by kernel_rfl) rfl (fun g8 hg8 => ?_)
        simp only [go_sem]
        refine hK12 _ ?_
        refine awp_f rfl ?_
        refine awp_skip ?_
        refine hK9 _ ?_
        refine awp_plain 2 (by kernel_rfl) rfl (fun g10 hg10 => ?_)
        simp only [go_sem]
        try simp (disch := omega) only [wrapN]
        refine ⟨_, ?_, k + 1, h, rfl, le_of ?_⟩
        · omega
        simp only [go_sem, hst]
        all_goals first | done | exact rfl | exact ⟨rfl, rfl⟩ | trivial | omega
      | none =>
        rw [show addS S (ns[k], ⟨b, o, (k : Int)⟩) = S ++ [(ns[k], ⟨b, o, (k : Int)⟩)] by simp [addS, hl]] at hst
        have hp := mput_sc S ns[k] ⟨b, o, (k : Int)⟩ hl
        simp only [encNd, ndC, encS] at hp
        refine awp_plain 9 (by kernel_rfl) rfl (fun g7 hg7 => ?_)
        simp only [go_sem, mget_sc, hl, Option.map_none]
        refine hK11 _ ?_
        refine awp_seq_k (fun K13 hK13 => ?_)
        refine awp_plain 2 (by kernel_rfl) rfl (fun g8 hg8 => ?_)
        simp only [go_sem]
        refine hK13 _ ?_
        refine awp_t rfl ?_
        refine awp_plain 7 (by kernel_rfl) rfl (fun g9 hg9 => ?_)
        simp only [go_sem, hp]
        refine hK9 _ ?_
        refine awp_plain 2 (by kernel_rfl) rfl (fun g10 hg10 => ?_)
        simp only [go_sem]
        try simp (disch := omega) only [wrapN]
        refine ⟨_, ?_, k + 1, h, rfl, le_of ?_⟩
        · omega
        simp only [go_sem, hst]
        all_goals first | done | exact rfl | exact ⟨rfl, rfl⟩ | trivial | omega
    · have : k = ns.length := by omega
      subst this
      refine awp_seq_k (fun K14 hK14 => ?_)
      refine awp_plain 1 (by kernel_rfl) rfl (fun g5 hg5 => ?_)
      simp only [go_sem, h]
      refine hK14 _ ?_
      refine awp_seq_k (fun K15 hK15 => ?_)
      refine awp_f rfl ?_
      refine awp_exit ?_
      refine hK5 _ ?_
      refine awp_seq_k (fun K16 hK16 => ?_)
      refine awp_plain 2 (by kernel_rfl) rfl (fun g11 hg11 => ?_)
      simp only [go_sem]
      refine hK16 _ ?_
      refine awp_ret ?_
      rw [show (scN b o ns).take ns.length = scN b o ns from List.take_of_length_le (by rw [scN_len]; exact Nat.le_refl _)]
      refine ret_fmap ⟨g3, 18, 0⟩ ?_
      simp only [go_sem]
      refine ends_ev rfl ?_
      simp only [go_sem]
      exact Co.refl _
end Go.Proofs.T


namespace Go.Proofs.T
open Go Go.Ab Go.RowKit

/-! ## The edges of types -/

def ksE : KS := .agg [.boo, .str, .num .i64, .boo, .str, .num .i64, .boo]
attribute [go_sem] ksE

theorem Nd.eta (x : Nd) : (⟨x.method, x.name, x.idx⟩ : Nd) = x := rfl
theorem mput_ed7 (l : List Ed) (a : Bool) (b : Str) (c : Int) (a' : Bool) (b' : Str) (c' : Int) (i : Bool) : mput (edE l) (.agg #[.bool a, .string b, .int .i64 c, .bool a', .string b', .int .i64 c', .bool i]) (.val (.bool true)) = edE (addE l ⟨⟨a, b, c⟩, ⟨a', b', c'⟩, i⟩) := mput_ed l ⟨⟨a, b, c⟩, ⟨a', b', c'⟩, i⟩
mutual
/-- The edges that an argument brings. -/
noncomputable def inE (sc : Sc) (to : Nd) : Ty → Bool → List Ed
  | .mk n l _, ins => (match lookS sc n with | some x => if l.length = 0 then [⟨x, to, ins⟩] else [] | none => []) ++ inEs sc to l
noncomputable def inEs (sc : Sc) (to : Nd) : List Ty → List Ed
  | [] => []
  | t :: r => inE sc to t true ++ inEs sc to r
end
mutual
/-- The edges in a type. -/
noncomputable def visE (sc : Sc) : Ty → List Ed
  | .mk n l _ => argsE sc l false n 0
noncomputable def argsE (sc : Sc) : List Ty → Bool → Str → Nat → List Ed
  | [], _, _, _ => []
  | t :: r, b, o, i => inE sc ⟨b, o, (i : Int)⟩ t false ++ visE sc t ++ argsE sc r b o (i + 1)
end
noncomputable def hdE (sc : Sc) (to : Nd) (t : Ty) (ins : Bool) : List Ed := match lookS sc t.name with | some x => if t.args.length = 0 then [⟨x, to, ins⟩] else [] | none => []
theorem inEs_flat (sc : Sc) (to : Nd) : ∀ l, inEs sc to l = l.flatMap fun t => inE sc to t true
  | [] => by simp [inEs]
  | t :: r => by simp [inEs, inEs_flat sc to r]
theorem inE_eq (sc : Sc) (to : Nd) (t : Ty) (ins : Bool) : inE sc to t ins = hdE sc to t ins ++ t.args.flatMap fun t => inE sc to t true := by
  cases t
  simp only [inE, hdE, inEs_flat, Ty.name_mk, Ty.args_mk]
  rfl
theorem visE_eq (sc : Sc) (t : Ty) : visE sc t = argsE sc t.args false t.name 0 := by
  cases t
  simp only [visE, Ty.name_mk, Ty.args_mk]
theorem argsE_app (sc : Sc) (b : Bool) (o : Str) (t : Ty) : ∀ (l : List Ty) (i : Nat), argsE sc (l ++ [t]) b o i = argsE sc l b o i ++ (inE sc ⟨b, o, ((i + l.length : Nat) : Int)⟩ t false ++ visE sc t)
  | [], i => by simp [argsE]
  | x :: r, i => by
    simp only [List.cons_append, argsE, argsE_app sc b o t r (i + 1), List.append_assoc, List.length_cons]
    rw [show i + 1 + r.length = i + (r.length + 1) by omega]
theorem argsE_take (sc : Sc) (b : Bool) (o : Str) (l : List Ty) (k : Nat) (h : k < l.length) : argsE sc (l.take (k + 1)) b o 0 = argsE sc (l.take k) b o 0 ++ (inE sc ⟨b, o, (k : Int)⟩ l[k] false ++ visE sc l[k]) := by
  rw [List.take_add_one, List.getElem?_eq_getElem h, Option.toList_some, argsE_app, List.length_take_of_le (Nat.le_of_lt h), Nat.zero_add]
theorem flatTake {α β : Type} (f : α → List β) {l : List α} {k : Nat} (h : k < l.length) : (l.take (k + 1)).flatMap f = (l.take k).flatMap f ++ f l[k] := by
  rw [List.take_add_one, List.getElem?_eq_getElem h, Option.toList_some, List.flatMap_append]
  simp

/-! ## The walks -/

set_option maxRecDepth 100000 in
theorem arg_calls (sc : Sc) (to : Nd) (q c : Nat) : ∀ (t : Ty), okTy t → ∀ (ins : Bool) (R : List Ed) (g d : Nat),
    ACalls E 93 [.mref ⟨q, c, 0⟩, .fmap ksN (scE sc), encNd to, encTy t, dB ins] [(⟨q, c, 0⟩, .map ksE (edE R))] g d (.tup []) [(⟨q, c, 0⟩, .map ksE (edE ((inE sc to t ins).foldl addE R)))] := by
  refine Ty.ind fun t ih hok ins R g d => ?_
  have h := (okTy_iff t).1 hok
  refine acalls_of_awp (fn := Tryz.f93) (N := 46) Tryz.call93 Tryz.func93 rfl rfl (by simp) ?_
  simp only [go_sem]
  refine awp_seq_k (fun K1 hK1 => ?_)
  refine awp_plain 2 (by kernel_rfl) rfl (fun g0 hg0 => ?_)
  simp only [go_sem]
  refine hK1 _ ?_
  refine awp_seq_k (fun K2 hK2 => ?_)
  refine awp_seq_k (fun K3 hK3 => ?_)
  have hn0_q : g0 ≠ q := fresh_g hg0 c 0 (by simp [go_sem])
  cases hl : lookS sc t.name with
  | none =>
    refine awp_plain 10 (by kernel_rfl) rfl (fun g1 hg1 => ?_)
    simp only [go_sem, mget_sc, hl, Option.map_none, Ne.symm hn0_q]
    refine hK3 _ ?_
    refine awp_seq_k (fun K4 hK4 => ?_)
    have hn1_q : g1 ≠ q := fresh_g hg1 c 0 (by simp [go_sem, hn0_q])
    refine awp_plain 7 (by kernel_rfl) rfl (fun g2 hg2 => ?_)
    simp only [go_sem]
    refine hK4 _ ?_
    refine awp_f rfl ?_
    refine awp_skip ?_
    refine hK2 _ ?_
    refine awp_seq_k (fun K5 hK5 => ?_)
    refine awp_plain 4 (by kernel_rfl) rfl (fun g4 hg4 => ?_)
    simp only [go_sem, Ne.symm hn0_q]
    refine hK5 _ ?_
    refine awp_block ?_
    have R1h : R = (hdE sc to t ins).foldl addE R := by simp only [hdE, hl, List.foldl_nil]
    rw [inE_eq, List.foldl_append, ← R1h]
    generalize R = R1
    clear R1h
    refine awp_loop (fun m st => ∃ k, k ≤ t.args.length ∧ m = t.args.length - k ∧ Le { env := [(0, .mref ⟨q, c, 0⟩), (1, .fmap ksN (scE sc)), (7, .ptr ⟨g0, 7, 0⟩ 0), (34, slTy t.args), (35, dN t.args.length), (36, dN k)], σ := [(⟨g0, 7, 0⟩, .box 55 (ndC to)), (⟨q, c, 0⟩, .map ksE (edE (((t.args.take k).flatMap fun t => inE sc to t true).foldl addE R1)))] } st) t.args.length ?_ ?_
    · refine ⟨0, Nat.zero_le _, rfl, le_of ?_⟩
      simp only [go_sem, List.take_zero, List.flatMap_nil, List.foldl_nil, hn0_q, Ne.symm hn0_q, hn1_q]
      all_goals first | done | exact rfl | exact ⟨rfl, rfl⟩ | trivial | omega
    · rintro m st ⟨k, hk, rfl, hle⟩
      refine awp_keep hle ?_
      clear hle
      refine awp_seq_k (fun K6 hK6 => ?_)
      by_cases hlt : k < t.args.length
      · have hfl : ((t.args.take (k + 1)).flatMap fun t => inE sc to t true).foldl addE R1 = (inE sc to t.args[k] true).foldl addE (((t.args.take k).flatMap fun t => inE sc to t true).foldl addE R1) := by
          rw [flatTake _ hlt, List.foldl_append]
        have hgm := getM (f := encTy) hlt
        have hmem := List.getElem_mem hlt
        generalize t.args[k] = X at *
        generalize ((t.args.take k).flatMap fun t => inE sc to t true).foldl addE R1 = R2 at *
        refine awp_plain 1 (by kernel_rfl) rfl (fun g5 hg5 => ?_)
        simp only [go_sem, hlt]
        refine hK6 _ ?_
        refine awp_seq_k (fun K7 hK7 => ?_)
        refine awp_t rfl ?_
        refine awp_skip ?_
        refine hK7 _ ?_
        refine awp_seq_k (fun K8 hK8 => ?_)
        refine awp_block ?_
        refine awp_seq_k (fun K9 hK9 => ?_)
        refine awp_plain 4 (by kernel_rfl) rfl (fun g6 hg6 => ?_)
        simp only [go_sem, hgm]
        refine hK9 _ ?_
        have hn6_q : g6 ≠ q := fresh_g hg6 c 0 (by simp [go_sem, hn0_q])
        refine awp_ops (by kernel_rfl) rfl (fun g7 hg7 ops7 KR7 hops7 hKR7 => ?_)
        refine aops_eval 4 hops7 ?_
        simp only [go_sem, Ne.symm hn0_q, Ne.symm hn6_q]
        refine aops_call hops7 rfl rfl rfl (ih X hmem (h.2.2 X hmem) true R2 _ _) (CoL.refl _) (by simp [go_sem, hn0_q, hn6_q]) ?_
        refine aops_last 0 hops7 ?_
        simp only [go_sem, hn0_q, hn6_q]
        refine hKR7 _ ?_
        refine hK8 _ ?_
        refine awp_plain 2 (by kernel_rfl) rfl (fun g8 hg8 => ?_)
        simp only [go_sem]
        try simp (disch := omega) only [wrapN]
        refine ⟨_, ?_, k + 1, hlt, rfl, le_of ?_⟩
        · omega
        simp only [go_sem, hfl, hn0_q, Ne.symm hn0_q, hn6_q]
        all_goals first | done | exact rfl | exact ⟨rfl, rfl⟩ | trivial | omega
      · have : k = t.args.length := by omega
        subst this
        refine awp_plain 1 (by kernel_rfl) rfl (fun g5 hg5 => ?_)
        simp only [go_sem, hlt]
        refine hK6 _ ?_
        refine awp_seq_k (fun K10 hK10 => ?_)
        refine awp_f rfl ?_
        refine awp_exit ?_
        show Go.Ab.Ends E _ _ _ _ _ _
        refine ends_keep rfl (by simp [go_sem, hn0_q]) ?_
        simp only [go_sem]
        exact Co.refl _
  | some x =>
    refine awp_plain 10 (by kernel_rfl) rfl (fun g1 hg1 => ?_)
    simp only [go_sem, mget_sc, hl, Option.map_some, Ne.symm hn0_q]
    refine hK3 _ ?_
    refine awp_seq_k (fun K11 hK11 => ?_)
    have hn1_q : g1 ≠ q := fresh_g hg1 c 0 (by simp [go_sem, hn0_q])
    by_cases h0 : t.args.length = 0
    · have h0i : ((t.args.length : Nat) : Int) = 0 := by omega
      refine awp_plain 7 (by kernel_rfl) rfl (fun g2 hg2 => ?_)
      simp only [go_sem, h0i, decide_true, Ne.symm hn0_q]
      refine hK11 _ ?_
      refine awp_t rfl ?_
      refine awp_plain 6 (by kernel_rfl) rfl (fun g3 hg3 => ?_)
      simp only [go_sem, mput_ed7, Nd.eta, hn0_q, Ne.symm hn0_q, hn1_q, Ne.symm hn1_q]
      refine hK2 _ ?_
      refine awp_seq_k (fun K12 hK12 => ?_)
      refine awp_plain 4 (by kernel_rfl) rfl (fun g4 hg4 => ?_)
      simp only [go_sem, Ne.symm hn0_q]
      refine hK12 _ ?_
      refine awp_block ?_
      have R1h : addE R ⟨x, to, ins⟩ = (hdE sc to t ins).foldl addE R := by simp only [hdE, hl, h0, if_true, List.foldl_nil, List.foldl_cons]
      rw [inE_eq, List.foldl_append, ← R1h]
      generalize addE R ⟨x, to, ins⟩ = R1
      clear R1h
      refine awp_loop (fun m st => ∃ k, k ≤ t.args.length ∧ m = t.args.length - k ∧ Le { env := [(0, .mref ⟨q, c, 0⟩), (1, .fmap ksN (scE sc)), (7, .ptr ⟨g0, 7, 0⟩ 0), (34, slTy t.args), (35, dN t.args.length), (36, dN k)], σ := [(⟨g0, 7, 0⟩, .box 55 (ndC to)), (⟨q, c, 0⟩, .map ksE (edE (((t.args.take k).flatMap fun t => inE sc to t true).foldl addE R1)))] } st) t.args.length ?_ ?_
      · refine ⟨0, Nat.zero_le _, rfl, le_of ?_⟩
        simp only [go_sem, List.take_zero, List.flatMap_nil, List.foldl_nil, hn0_q, Ne.symm hn0_q, hn1_q]
        all_goals first | done | exact rfl | exact ⟨rfl, rfl⟩ | trivial | omega
      · rintro m st ⟨k, hk, rfl, hle⟩
        refine awp_keep hle ?_
        clear hle
        refine awp_seq_k (fun K13 hK13 => ?_)
        by_cases hlt : k < t.args.length
        · have hfl : ((t.args.take (k + 1)).flatMap fun t => inE sc to t true).foldl addE R1 = (inE sc to t.args[k] true).foldl addE (((t.args.take k).flatMap fun t => inE sc to t true).foldl addE R1) := by
            rw [flatTake _ hlt, List.foldl_append]
          have hgm := getM (f := encTy) hlt
          have hmem := List.getElem_mem hlt
          generalize t.args[k] = X at *
          generalize ((t.args.take k).flatMap fun t => inE sc to t true).foldl addE R1 = R2 at *
          refine awp_plain 1 (by kernel_rfl) rfl (fun g5 hg5 => ?_)
          simp only [go_sem, hlt]
          refine hK13 _ ?_
          refine awp_seq_k (fun K14 hK14 => ?_)
          refine awp_t rfl ?_
          refine awp_skip ?_
          refine hK14 _ ?_
          refine awp_seq_k (fun K15 hK15 => ?_)
          refine awp_block ?_
          refine awp_seq_k (fun K16 hK16 => ?_)
          refine awp_plain 4 (by kernel_rfl) rfl (fun g6 hg6 => ?_)
          simp only [go_sem, hgm]
          refine hK16 _ ?_
          have hn6_q : g6 ≠ q := fresh_g hg6 c 0 (by simp [go_sem, hn0_q])
          refine awp_ops (by kernel_rfl) rfl (fun g7 hg7 ops7 KR7 hops7 hKR7 => ?_)
          refine aops_eval 4 hops7 ?_
          simp only [go_sem, Ne.symm hn0_q, Ne.symm hn6_q]
          refine aops_call hops7 rfl rfl rfl (ih X hmem (h.2.2 X hmem) true R2 _ _) (CoL.refl _) (by simp [go_sem, hn0_q, hn6_q]) ?_
          refine aops_last 0 hops7 ?_
          simp only [go_sem, hn0_q, hn6_q]
          refine hKR7 _ ?_
          refine hK15 _ ?_
          refine awp_plain 2 (by kernel_rfl) rfl (fun g8 hg8 => ?_)
          simp only [go_sem]
          try simp (disch := omega) only [wrapN]
          refine ⟨_, ?_, k + 1, hlt, rfl, le_of ?_⟩
          · omega
          simp only [go_sem, hfl, hn0_q, Ne.symm hn0_q, hn6_q]
          all_goals first | done | exact rfl | exact ⟨rfl, rfl⟩ | trivial | omega
        · have : k = t.args.length := by omega
          subst this
          refine awp_plain 1 (by kernel_rfl) rfl (fun g5 hg5 => ?_)
          simp only [go_sem, hlt]
          refine hK13 _ ?_
          refine awp_seq_k (fun K17 hK17 => ?_)
          refine awp_f rfl ?_
          refine awp_exit ?_
          show Go.Ab.Ends E _ _ _ _ _ _
          refine ends_keep rfl (by simp [go_sem, hn0_q]) ?_
          simp only [go_sem]
          exact Co.refl _
    · have h0i : ¬ ((t.args.length : Nat) : Int) = 0 := by omega
      refine awp_plain 7 (by kernel_rfl) rfl (fun g2 hg2 => ?_)
      simp only [go_sem, h0i, decide_false, Ne.symm hn0_q]
      refine hK11 _ ?_
      refine awp_f rfl ?_
      refine awp_skip ?_
      refine hK2 _ ?_
      refine awp_seq_k (fun K18 hK18 => ?_)
      refine awp_plain 4 (by kernel_rfl) rfl (fun g4 hg4 => ?_)
      simp only [go_sem, Ne.symm hn0_q]
      refine hK18 _ ?_
      refine awp_block ?_
      have R1h : R = (hdE sc to t ins).foldl addE R := by simp only [hdE, hl, h0, if_false, List.foldl_nil]
      rw [inE_eq, List.foldl_append, ← R1h]
      generalize R = R1
      clear R1h
      refine awp_loop (fun m st => ∃ k, k ≤ t.args.length ∧ m = t.args.length - k ∧ Le { env := [(0, .mref ⟨q, c, 0⟩), (1, .fmap ksN (scE sc)), (7, .ptr ⟨g0, 7, 0⟩ 0), (34, slTy t.args), (35, dN t.args.length), (36, dN k)], σ := [(⟨g0, 7, 0⟩, .box 55 (ndC to)), (⟨q, c, 0⟩, .map ksE (edE (((t.args.take k).flatMap fun t => inE sc to t true).foldl addE R1)))] } st) t.args.length ?_ ?_
      · refine ⟨0, Nat.zero_le _, rfl, le_of ?_⟩
        simp only [go_sem, List.take_zero, List.flatMap_nil, List.foldl_nil, hn0_q, Ne.symm hn0_q, hn1_q]
        all_goals first | done | exact rfl | exact ⟨rfl, rfl⟩ | trivial | omega
      · rintro m st ⟨k, hk, rfl, hle⟩
        refine awp_keep hle ?_
        clear hle
        refine awp_seq_k (fun K19 hK19 => ?_)
        by_cases hlt : k < t.args.length
        · have hfl : ((t.args.take (k + 1)).flatMap fun t => inE sc to t true).foldl addE R1 = (inE sc to t.args[k] true).foldl addE (((t.args.take k).flatMap fun t => inE sc to t true).foldl addE R1) := by
            rw [flatTake _ hlt, List.foldl_append]
          have hgm := getM (f := encTy) hlt
          have hmem := List.getElem_mem hlt
          generalize t.args[k] = X at *
          generalize ((t.args.take k).flatMap fun t => inE sc to t true).foldl addE R1 = R2 at *
          refine awp_plain 1 (by kernel_rfl) rfl (fun g5 hg5 => ?_)
          simp only [go_sem, hlt]
          refine hK19 _ ?_
          refine awp_seq_k (fun K20 hK20 => ?_)
          refine awp_t rfl ?_
          refine awp_skip ?_
          refine hK20 _ ?_
          refine awp_seq_k (fun K21 hK21 => ?_)
          refine awp_block ?_
          refine awp_seq_k (fun K22 hK22 => ?_)
          refine awp_plain 4 (by kernel_rfl) rfl (fun g6 hg6 => ?_)
          simp only [go_sem, hgm]
          refine hK22 _ ?_
          have hn6_q : g6 ≠ q := fresh_g hg6 c 0 (by simp [go_sem, hn0_q])
          refine awp_ops (by kernel_rfl) rfl (fun g7 hg7 ops7 KR7 hops7 hKR7 => ?_)
          refine aops_eval 4 hops7 ?_
          simp only [go_sem, Ne.symm hn0_q, Ne.symm hn6_q]
          refine aops_call hops7 rfl rfl rfl (ih X hmem (h.2.2 X hmem) true R2 _ _) (CoL.refl _) (by simp [go_sem, hn0_q, hn6_q]) ?_
          refine aops_last 0 hops7 ?_
          simp only [go_sem, hn0_q, hn6_q]
          refine hKR7 _ ?_
          refine hK21 _ ?_
          refine awp_plain 2 (by kernel_rfl) rfl (fun g8 hg8 => ?_)
          simp only [go_sem]
          try simp (disch := omega) only [wrapN]
          refine ⟨_, ?_, k + 1, hlt, rfl, le_of ?_⟩
          · omega
          simp only [go_sem, hfl, hn0_q, Ne.symm hn0_q, hn6_q]
          all_goals first | done | exact rfl | exact ⟨rfl, rfl⟩ | trivial | omega
        · have : k = t.args.length := by omega
          subst this
          refine awp_plain 1 (by kernel_rfl) rfl (fun g5 hg5 => ?_)
          simp only [go_sem, hlt]
          refine hK19 _ ?_
          refine awp_seq_k (fun K23 hK23 => ?_)
          refine awp_f rfl ?_
          refine awp_exit ?_
          show Go.Ab.Ends E _ _ _ _ _ _
          refine ends_keep rfl (by simp [go_sem, hn0_q]) ?_
          simp only [go_sem]
          exact Co.refl _

abbrev VisC (sc : Sc) (q c : Nat) (x : Ty) : Prop := ∀ (R : List Ed) (g d : Nat), ACalls E 69 [.mref ⟨q, c, 0⟩, .fmap ksN (scE sc), encTy x] [(⟨q, c, 0⟩, .map ksE (edE R))] g d (.tup []) [(⟨q, c, 0⟩, .map ksE (edE ((visE sc x).foldl addE R)))]
set_option maxRecDepth 100000 in
theorem argsV_calls (sc : Sc) (q c : Nat) (l : List Ty) (hl : l.length ≤ 9223372036854775807) (hok : ∀ x ∈ l, okTy x) (hv : ∀ x ∈ l, VisC sc q c x) (b : Bool) (o : Str) (R : List Ed) (g d : Nat) :
    ACalls E 70 [.mref ⟨q, c, 0⟩, .fmap ksN (scE sc), dB b, encS o, slTy l] [(⟨q, c, 0⟩, .map ksE (edE R))] g d (.tup []) [(⟨q, c, 0⟩, .map ksE (edE ((argsE sc l b o 0).foldl addE R)))] := by
  refine acalls_of_awp (fn := Tryz.f70) (N := 32) Tryz.call70 Tryz.func70 rfl rfl (by simp) ?_
  simp only [go_sem]
  refine awp_seq_k (fun K1 hK1 => ?_)
  refine awp_plain 3 (by kernel_rfl) rfl (fun g0 hg0 => ?_)
  simp only [go_sem]
  refine hK1 _ ?_
  refine awp_block ?_
  refine awp_loop (fun m st => ∃ k, k ≤ l.length ∧ m = l.length - k ∧ Le { env := [(0, .mref ⟨q, c, 0⟩), (1, .fmap ksN (scE sc)), (2, dB b), (3, encS o), (12, slTy l), (13, dN l.length), (14, dN k)], σ := [(⟨q, c, 0⟩, .map ksE (edE ((argsE sc (l.take k) b o 0).foldl addE R)))] } st) l.length ?_ ?_
  · refine ⟨0, Nat.zero_le _, rfl, le_of ?_⟩
    simp only [go_sem, List.take_zero, argsE, List.foldl_nil]
    all_goals first | done | exact rfl | exact ⟨rfl, rfl⟩ | trivial | omega
  · rintro m st ⟨k, hk, rfl, hle⟩
    refine awp_keep hle ?_
    clear hle
    refine awp_seq_k (fun K2 hK2 => ?_)
    by_cases hlt : k < l.length
    · have hfl : (argsE sc (l.take (k + 1)) b o 0).foldl addE R = (visE sc l[k]).foldl addE ((inE sc ⟨b, o, (k : Int)⟩ l[k] false).foldl addE ((argsE sc (l.take k) b o 0).foldl addE R)) := by
        rw [argsE_take _ _ _ _ _ hlt, List.foldl_append, List.foldl_append]
      have hgm := getM (f := encTy) hlt
      have hmem := List.getElem_mem hlt
      generalize l[k] = X at *
      generalize (argsE sc (l.take k) b o 0).foldl addE R = R2 at *
      refine awp_plain 1 (by kernel_rfl) rfl (fun g1 hg1 => ?_)
      simp only [go_sem, hlt]
      refine hK2 _ ?_
      refine awp_seq_k (fun K3 hK3 => ?_)
      refine awp_t rfl ?_
      refine awp_skip ?_
      refine hK3 _ ?_
      refine awp_seq_k (fun K4 hK4 => ?_)
      refine awp_block ?_
      refine awp_seq_k (fun K5 hK5 => ?_)
      refine awp_plain 6 (by kernel_rfl) rfl (fun g2 hg2 => ?_)
      simp only [go_sem, hgm]
      refine hK5 _ ?_
      refine awp_seq_k (fun K6 hK6 => ?_)
      have hn2_q : g2 ≠ q := fresh_g hg2 c 0 (by simp [go_sem])
      refine awp_ops (by kernel_rfl) rfl (fun g3 hg3 ops3 KR3 hops3 hKR3 => ?_)
      refine aops_eval 7 hops3 ?_
      simp only [go_sem, Ne.symm hn2_q]
      refine aops_call hops3 rfl rfl rfl (arg_calls sc ⟨b, o, (k : Int)⟩ q c X (hok X hmem) false R2 _ _) (CoL.refl _) (by simp [go_sem, hn2_q]) ?_
      refine aops_last 0 hops3 ?_
      simp only [go_sem, hn2_q]
      refine hKR3 _ ?_
      refine hK6 _ ?_
      refine awp_ops (by kernel_rfl) rfl (fun g4 hg4 ops4 KR4 hops4 hKR4 => ?_)
      refine aops_eval 3 hops4 ?_
      simp only [go_sem, Ne.symm hn2_q]
      refine aops_call hops4 rfl rfl rfl (hv X hmem ((inE sc ⟨b, o, (k : Int)⟩ X false).foldl addE R2) _ _) (CoL.refl _) (by simp [go_sem]) ?_
      refine aops_last 0 hops4 ?_
      simp only [go_sem, hn2_q]
      refine hKR4 _ ?_
      refine hK4 _ ?_
      refine awp_plain 2 (by kernel_rfl) rfl (fun g5 hg5 => ?_)
      simp only [go_sem]
      try simp (disch := omega) only [wrapN]
      refine ⟨_, ?_, k + 1, hlt, rfl, le_of ?_⟩
      · omega
      simp only [go_sem, hfl, hn2_q]
      all_goals first | done | exact rfl | exact ⟨rfl, rfl⟩ | trivial | omega
    · have : k = l.length := by omega
      subst this
      refine awp_plain 1 (by kernel_rfl) rfl (fun g1 hg1 => ?_)
      simp only [go_sem, hlt]
      refine hK2 _ ?_
      refine awp_seq_k (fun K7 hK7 => ?_)
      refine awp_f rfl ?_
      refine awp_exit ?_
      show Go.Ab.Ends E _ _ _ _ _ _
      refine ends_keep rfl (by simp [go_sem]) ?_
      simp only [go_sem]
      exact Co.refl _
theorem visT_calls (sc : Sc) (q c : Nat) : ∀ (t : Ty), okTy t → VisC sc q c t := by
  refine Ty.ind fun t ih hok R g d => ?_
  have h := (okTy_iff t).1 hok
  refine acalls_of_awp (fn := Tryz.f69) (N := 13) Tryz.call69 Tryz.func69 rfl rfl (by simp) ?_
  simp only [go_sem]
  refine awp_seq_k (fun K1 hK1 => ?_)
  refine awp_plain 1 (by kernel_rfl) rfl (fun g0 hg0 => ?_)
  simp only [go_sem]
  refine hK1 _ ?_
  have hn0_q : g0 ≠ q := fresh_g hg0 c 0 (by simp [go_sem])
  rw [visE_eq]
  refine awp_ops (by kernel_rfl) rfl (fun g1 hg1 ops1 KR1 hops1 hKR1 => ?_)
  refine aops_eval 6 hops1 ?_
  simp only [go_sem, Ne.symm hn0_q]
  refine aops_call hops1 rfl rfl rfl (argsV_calls sc q c t.args h.2.1 h.2.2 (fun x hx => ih x hx (h.2.2 x hx)) false t.name R _ _) (CoL.refl _) (by simp [go_sem, hn0_q]) ?_
  refine aops_last 0 hops1 ?_
  simp only [go_sem, hn0_q]
  refine hKR1 _ ?_
  show Go.Ab.Ends E _ _ _ _ _ _
  refine ends_keep rfl (by simp [go_sem]) ?_
  simp only [go_sem]
  exact Co.refl _
theorem args_calls (sc : Sc) (q c : Nat) (l : List Ty) (hl : l.length ≤ 9223372036854775807) (hok : ∀ x ∈ l, okTy x) (b : Bool) (o : Str) (R : List Ed) (g d : Nat) :
    ACalls E 70 [.mref ⟨q, c, 0⟩, .fmap ksN (scE sc), dB b, encS o, slTy l] [(⟨q, c, 0⟩, .map ksE (edE R))] g d (.tup []) [(⟨q, c, 0⟩, .map ksE (edE ((argsE sc l b o 0).foldl addE R)))] :=
  argsV_calls sc q c l hl hok (fun x hx => visT_calls sc q c x (hok x hx)) b o R g d
end Go.Proofs.T


namespace Go.Proofs.T
open Go Go.Ab Go.RowKit

end Go.Proofs.T


namespace Go.Proofs.T
open Go Go.Ab Go.RowKit

/-! ## What is counted as small is small -/

theorem cntEx_sm : ∀ (e : Ex) (n : Nat), countEx e n ≤ 2000 → smEx e := by
  refine Ex.ind fun e ih n h => ?_
  have h1 := count_ge e.type (n + e.name.size / 50)
  have h2 := cnt_ge (f := count) (fun t m => by have := count_ge t m; omega) e.targs (count e.type (n + e.name.size / 50))
  rw [countEx_eq] at h
  obtain ⟨k1, k2⟩ := cnt_small countEx_ge e.kids _ h
  obtain ⟨k3, k4⟩ := cntTys_sm e.targs (count e.type (n + e.name.size / 50)) (by omega)
  have k5 := count_sm e.type (n + e.name.size / 50) (by omega)
  refine (smEx_iff e).2 ⟨by omega, k5, ⟨by omega, k4⟩, by omega, fun x hx => ?_⟩
  obtain ⟨m, hm⟩ := k2 x hx
  exact ih x hx m (by omega)

theorem cntS_ge (v : Str) (n : Nat) : n + 1 ≤ cntS v n := by unfold cntS; omega

theorem cntDe_sm (d : Dec) (n : Nat) (h : cntDe d n ≤ 2000) : smDe d := by
  have g1 := cnt_ge (fun a n => Nat.le_trans (Nat.le_succ n) (cntFm_ge a n)) d.formals (n + 1 + d.name.size / 50 + d.recv.size / 50)
  have g2 := cnt_ge (fun a n => Nat.le_trans (Nat.le_succ n) (cntPa_ge a n)) d.fields (cnt cntFm d.formals (n + 1 + d.name.size / 50 + d.recv.size / 50))
  have g3 := cnt_ge (fun a n => Nat.le_trans (Nat.le_succ n) (cntSi_ge a n)) d.sigs (cntHead d n)
  have g4 := cnt_ge (fun a n => Nat.le_trans (Nat.le_succ n) (cntS_ge a n)) d.vars (cnt cntSi d.sigs (cntHead d n))
  have g5 := cntSi_ge d.sig (cnt cntS d.vars (cnt cntSi d.sigs (cntHead d n)))
  have g6 := countEx_ge d.body (cntSi d.sig (cnt cntS d.vars (cnt cntSi d.sigs (cntHead d n))))
  have e0 : cntHead d n = cnt cntPa d.fields (cnt cntFm d.formals (n + 1 + d.name.size / 50 + d.recv.size / 50)) := rfl
  unfold cntDe cntTail at h
  split at h
  · have a1 := cntFms_sm d.formals (n + 1 + d.name.size / 50 + d.recv.size / 50) (by omega)
    have a2 := cntPas_sm d.fields (cnt cntFm d.formals (n + 1 + d.name.size / 50 + d.recv.size / 50)) (by omega)
    obtain ⟨a3, a4⟩ := cnt_small cntSi_ge d.sigs (cntHead d n) (by omega)
    obtain ⟨a5, a6⟩ := cnt_small cntS_ge d.vars (cnt cntSi d.sigs (cntHead d n)) (by omega)
    have a7 := cntSi_sm d.sig (cnt cntS d.vars (cnt cntSi d.sigs (cntHead d n))) (by omega)
    have a8 := cntEx_sm d.body (cntSi d.sig (cnt cntS d.vars (cnt cntSi d.sigs (cntHead d n)))) (by omega)
    refine ⟨by omega, ⟨by omega, a1.2⟩, ⟨by omega, a2.2⟩, ⟨by omega, fun s hs => ?_⟩, by omega, ⟨by omega, fun v hv => ?_⟩, a7.1, a8⟩
    · obtain ⟨m, hm⟩ := a4 s hs
      exact (cntSi_sm s m (by omega)).1
    · obtain ⟨m, hm⟩ := a6 v hv
      have e1 : cntS v m = m + 1 + v.size / 50 := rfl
      omega
  · omega

theorem cntDe_ge (d : Dec) (n : Nat) : n + 1 ≤ cntDe d n := by
  have g1 := cnt_ge (fun a n => Nat.le_trans (Nat.le_succ n) (cntFm_ge a n)) d.formals (n + 1 + d.name.size / 50 + d.recv.size / 50)
  have g2 := cnt_ge (fun a n => Nat.le_trans (Nat.le_succ n) (cntPa_ge a n)) d.fields (cnt cntFm d.formals (n + 1 + d.name.size / 50 + d.recv.size / 50))
  have g3 := cnt_ge (fun a n => Nat.le_trans (Nat.le_succ n) (cntSi_ge a n)) d.sigs (cntHead d n)
  have g4 := cnt_ge (fun a n => Nat.le_trans (Nat.le_succ n) (cntS_ge a n)) d.vars (cnt cntSi d.sigs (cntHead d n))
  have g5 := cntSi_ge d.sig (cnt cntS d.vars (cnt cntSi d.sigs (cntHead d n)))
  have g6 := countEx_ge d.body (cntSi d.sig (cnt cntS d.vars (cnt cntSi d.sigs (cntHead d n))))
  have e0 : cntHead d n = cnt cntPa d.fields (cnt cntFm d.formals (n + 1 + d.name.size / 50 + d.recv.size / 50)) := rfl
  unfold cntDe cntTail
  split <;> omega

theorem cntPr_sm (p : Prg) (h : cntPr p ≤ 600) : smPr p ∧ p.decls.length ≤ 600 := by
  unfold cntPr at h
  have g1 := countEx_ge p.main 0
  have g2 := cnt_ge (fun a n => Nat.le_trans (Nat.le_succ n) (cntDe_ge a n)) p.decls (countEx p.main 0)
  obtain ⟨a1, a2⟩ := cnt_small cntDe_ge p.decls (countEx p.main 0) (by omega)
  refine ⟨⟨⟨by omega, fun d hd => ?_⟩, cntEx_sm p.main 0 (by omega)⟩, by omega⟩
  obtain ⟨m, hm⟩ := a2 d hd
  exact cntDe_sm d m (by omega)
end Go.Proofs.T

