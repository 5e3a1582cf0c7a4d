/- A part of the proof, under no conditions of its own: ZAT. -/
import Derived.Test.YtjahdmpghjhgjaaGreatDoorZAS
import Derived.Test.YtjahdmpghjhgjaaGreatDoorZAL
namespace Go.Proofs.T
open Go Go.Ab Go.RowKit

/-! ## The laws -/

theorem body_le {p : Prg} (hw : wN (prTys p) ≤ 600) : ∀ d ∈ p.decls, (nodesEx d.body).length ≤ 1000000 := fun d hd => by
  have h1 := nodesEx_le d.body
  have h2 := deTys_body d
  have h3 := wN_dec hd
  omega
theorem right_dec {p : Prg} (h : rightPr p = true) : ∀ d ∈ p.decls, rightDe d = true := by
  unfold rightPr at h
  rw [Bool.and_eq_true] at h
  exact List.all_eq_true.1 h.1
theorem setE_len (m : List Ed) : (setE m).length ≤ m.length := by
  have := putAll_len m []
  simpa [setE] using this
theorem deE_le {p : Prg} {d : Dec} (hd : d ∈ p.decls) : (deE d).length ≤ (prE p).length := by
  unfold prE
  generalize p.decls = l at *
  induction l with
  | nil => cases hd
  | cons x r ih =>
    rw [List.flatMap_cons, List.length_append]
    rcases List.mem_cons.1 hd with rfl | hd
    · omega
    · have := ih hd
      omega
set_option maxRecDepth 100000 in
theorem flowRef_calls (p : Prg) (hp : okPr p) (i : Int) (g d : Nat) : ACalls E 3 [encPr p, dI i] [] g d (dB true) [] := by
  refine acalls_of_awp (fn := Tryz.f3) (N := 48) Tryz.call3 Tryz.func3 rfl rfl (by simp) ?_
  simp only [go_sem]
  refine awp_seq_k (fun K1 hK1 => ?_)
  refine awp_plain 2 (by kernel_rfl) rfl (fun g0 hg0 => ?_)
  simp only [go_sem]
  refine hK1 _ ?_
  refine awp_seq_k (fun K2 hK2 => ?_)
  refine awp_seq_k (fun K3 hK3 => ?_)
  refine awp_ops (by kernel_rfl) rfl (fun g1 hg1 ops1 KR1 hops1 hKR1 => ?_)
  refine aops_eval 0 hops1 ?_
  simp only [go_sem]
  refine aops_pure hops1 rfl rfl rfl (awake18_calls _ _) (CoL.refl _) ?_
  refine aops_eval 3 hops1 ?_
  simp only [go_sem, Bool.not_true]
  by_cases hf : cntPr p ≤ 600
  · obtain ⟨hs, _⟩ := cntPr_sm p hf
    have hw := cntPr_w p hf
    refine aops_pure hops1 rfl rfl rfl (few06_calls p hp _ _) (CoL.refl _) ?_
    refine aops_eval 4 hops1 ?_
    simp only [go_sem, hf, decide_true, Bool.not_true]
    cases hr : rightPr p with
    | false =>
      refine aops_pure hops1 rfl rfl rfl (rightPr_calls p hs (by omega) _ _) (CoL.refl _) ?_
      refine aops_last 2 hops1 ?_
      simp only [go_sem, hr, Bool.not_false]
      refine hKR1 _ ?_
      refine hK3 _ ?_
      refine awp_t rfl ?_
      refine awp_seq_k (fun K4 hK4 => ?_)
      refine awp_ops (by kernel_rfl) rfl (fun g2 hg2 ops2 KR2 hops2 hKR2 => ?_)
      refine aops_eval 0 hops2 ?_
      simp only [go_sem]
      refine aops_pure hops2 rfl rfl rfl (awake18_calls _ _) (CoL.refl _) ?_
      refine aops_last 1 hops2 ?_
      simp only [go_sem]
      refine hKR2 _ ?_
      refine hK4 _ ?_
      refine awp_ret ?_
      refine ends_ev rfl ?_
      simp only [go_sem]
      exact Co.refl _
    | true =>
      have hE := prE_cnt hw
      have c1 := edges_calls p hs hE
      have c2 := refEdges_calls p hs (by rw [rpE_eq hr]; exact hE) (body_le hw)
      rw [rpE_eq hr] at c2
      have hSl := setE_len (prE p)
      have c3 := plainEd_calls (setE (prE p)) (by omega)
      have c4 := sameEd_calls (setE (prE p)) (by omega)
      have c5 := flowDecl_calls p hs i hE
      refine aops_pure hops1 rfl rfl rfl (rightPr_calls p hs (by omega) _ _) (CoL.refl _) ?_
      refine aops_last 2 hops1 ?_
      simp only [go_sem, hr, Bool.not_true]
      refine hKR1 _ ?_
      refine hK3 _ ?_
      refine awp_f rfl ?_
      refine awp_skip ?_
      refine hK2 _ ?_
      refine awp_seq_k (fun K5 hK5 => ?_)
      refine awp_plain 1 (by kernel_rfl) rfl (fun g3 hg3 => ?_)
      simp only [go_sem]
      refine hK5 _ ?_
      refine awp_seq_k (fun K6 hK6 => ?_)
      refine awp_seq_k (fun K7 hK7 => ?_)
      by_cases h0 : 0 ≤ i
      · by_cases hi : i < p.decls.length
        · obtain ⟨n, rfl⟩ := Int.eq_ofNat_of_zero_le h0
          have hn : n < p.decls.length := by omega
          have hgm := getM (f := encDe) hn
          have hmem := List.getElem_mem hn
          have hX := hs.1.2 _ hmem
          have hXn := body_le hw _ hmem
          have hXr := right_dec hr _ hmem
          have hXl := deE_le hmem
          rw [dif_pos ⟨h0, hi⟩] at c5
          simp only [Int.toNat_natCast] at c5
          generalize p.decls[n] = X at *
          have hXe := rdE_eq hXr
          have c6 := refDec_calls X hX [] List.Pairwise.nil (by rw [hXe]; simp; omega) hXn
          rw [hXe] at c6
          have hSx := setE_len (deE X)
          have c7 := plainEd_calls (setE (deE X)) (by omega)
          have c8 := sameEd_calls (setE (deE X)) (by omega)
          refine awp_plain 9 (by kernel_rfl) rfl (fun g4 hg4 => ?_)
          simp only [go_sem, h0, hi, decide_true]
          refine hK7 _ ?_
          refine awp_t rfl ?_
          refine awp_ops (by kernel_rfl) rfl (fun g5 hg5 ops5 KR5 hops5 hKR5 => ?_)
          refine aops_eval 5 hops5 ?_
          simp only [go_sem, hgm]
          refine aops_pure hops5 rfl rfl rfl (c6 _ _) (.cons (.nil _) (CoL.refl _)) ?_
          refine aops_last 1 hops5 ?_
          simp only [go_sem]
          refine hKR5 _ ?_
          refine hK6 _ ?_
          refine awp_seq_k (fun K8 hK8 => ?_)
          refine awp_any 14 (by kernel_rfl) (by kernel_rfl) rfl (fun g6 hg6 ops6 KR6 hops6 hKR6 => ?_)
          refine qrun_eval 1 hops6 ?_
          simp only [go_sem]
          refine qrun_pure hops6 rfl rfl rfl (c1 _ _) (CoL.refl _) (by simp [nwOk]) ?_
          refine qrun_pure hops6 rfl rfl rfl (c3 _ _) (CoL.refl _) (by simp [nwOk]) ?_
          refine qrun_eval 1 hops6 ?_
          simp only [go_sem]
          refine qrun_pure hops6 rfl rfl rfl (c2 _ _) (CoL.refl _) (by simp [nwOk]) ?_
          refine qrun_pure hops6 rfl rfl rfl (c4 _ _) (CoL.refl _) (by simp [nwOk]) ?_
          refine qrun_eval 3 hops6 ?_
          simp only [go_sem]
          refine qrun_pure hops6 rfl rfl rfl (c5 _ _) (CoL.refl _) (by simp [nwOk]) ?_
          refine qrun_pure hops6 rfl rfl rfl (c7 _ _) (CoL.refl _) (by simp [nwOk]) ?_
          refine qrun_eval 1 hops6 ?_
          simp only [go_sem]
          refine qrun_pure hops6 rfl rfl rfl (c8 _ _) (CoL.refl _) (by simp [nwOk]) ?_
          refine qrun_last 1 hops6 ?_
          simp only [go_sem]
          refine aops_last 1 hops6 ?_
          simp only [go_sem]
          refine hKR6 _ ?_
          refine hK8 _ ?_
          refine awp_ret ?_
          refine ends_ev rfl ?_
          simp only [go_sem]
          exact Co.refl _
        · rw [dif_neg (fun h => hi h.2)] at c5
          have c7 := plainEd_calls (setE []) (by decide)
          have c8 := sameEd_calls (setE []) (by decide)
          refine awp_plain 9 (by kernel_rfl) rfl (fun g4 hg4 => ?_)
          simp only [go_sem, h0, hi, decide_true, decide_false]
          refine hK7 _ ?_
          refine awp_f rfl ?_
          refine awp_skip ?_
          refine hK6 _ ?_
          refine awp_seq_k (fun K9 hK9 => ?_)
          refine awp_any 14 (by kernel_rfl) (by kernel_rfl) rfl (fun g6 hg6 ops6 KR6 hops6 hKR6 => ?_)
          refine qrun_eval 1 hops6 ?_
          simp only [go_sem]
          refine qrun_pure hops6 rfl rfl rfl (c1 _ _) (CoL.refl _) (by simp [nwOk]) ?_
          refine qrun_pure hops6 rfl rfl rfl (c3 _ _) (CoL.refl _) (by simp [nwOk]) ?_
          refine qrun_eval 1 hops6 ?_
          simp only [go_sem]
          refine qrun_pure hops6 rfl rfl rfl (c2 _ _) (CoL.refl _) (by simp [nwOk]) ?_
          refine qrun_pure hops6 rfl rfl rfl (c4 _ _) (CoL.refl _) (by simp [nwOk]) ?_
          refine qrun_eval 3 hops6 ?_
          simp only [go_sem]
          refine qrun_pure hops6 rfl rfl rfl (c5 _ _) (CoL.refl _) (by simp [nwOk]) ?_
          refine qrun_pure hops6 rfl rfl rfl (c7 _ _) (CoL.refl _) (by simp [nwOk]) ?_
          refine qrun_eval 1 hops6 ?_
          simp only [go_sem]
          refine qrun_pure hops6 rfl rfl rfl (c8 _ _) (.cons (.refl _) (.cons (.nil _) .nil)) (by simp [nwOk]) ?_
          refine qrun_last 1 hops6 ?_
          simp only [go_sem]
          refine aops_last 1 hops6 ?_
          simp only [go_sem]
          refine hKR6 _ ?_
          refine hK9 _ ?_
          refine awp_ret ?_
          refine ends_ev rfl ?_
          simp only [go_sem]
          exact Co.refl _
      · rw [dif_neg (fun h => h0 h.1)] at c5
        have c7 := plainEd_calls (setE []) (by decide)
        have c8 := sameEd_calls (setE []) (by decide)
        refine awp_plain 9 (by kernel_rfl) rfl (fun g4 hg4 => ?_)
        simp only [go_sem, h0, decide_false]
        refine hK7 _ ?_
        refine awp_f rfl ?_
        refine awp_skip ?_
        refine hK6 _ ?_
        refine awp_seq_k (fun K10 hK10 => ?_)
        refine awp_any 14 (by kernel_rfl) (by kernel_rfl) rfl (fun g6 hg6 ops6 KR6 hops6 hKR6 => ?_)
        refine qrun_eval 1 hops6 ?_
        simp only [go_sem]
        refine qrun_pure hops6 rfl rfl rfl (c1 _ _) (CoL.refl _) (by simp [nwOk]) ?_
        refine qrun_pure hops6 rfl rfl rfl (c3 _ _) (CoL.refl _) (by simp [nwOk]) ?_
        refine qrun_eval 1 hops6 ?_
        simp only [go_sem]
        refine qrun_pure hops6 rfl rfl rfl (c2 _ _) (CoL.refl _) (by simp [nwOk]) ?_
        refine qrun_pure hops6 rfl rfl rfl (c4 _ _) (CoL.refl _) (by simp [nwOk]) ?_
        refine qrun_eval 3 hops6 ?_
        simp only [go_sem]
        refine qrun_pure hops6 rfl rfl rfl (c5 _ _) (CoL.refl _) (by simp [nwOk]) ?_
        refine qrun_pure hops6 rfl rfl rfl (c7 _ _) (CoL.refl _) (by simp [nwOk]) ?_
        refine qrun_eval 1 hops6 ?_
        simp only [go_sem]
        refine qrun_pure hops6 rfl rfl rfl (c8 _ _) (.cons (.refl _) (.cons (.nil _) .nil)) (by simp [nwOk]) ?_
        refine qrun_last 1 hops6 ?_
        simp only [go_sem]
        refine aops_last 1 hops6 ?_
        simp only [go_sem]
        refine hKR6 _ ?_
        refine hK10 _ ?_
        refine awp_ret ?_
        refine ends_ev rfl ?_
        simp only [go_sem]
        exact Co.refl _
  · refine aops_pure hops1 rfl rfl rfl (few06_calls p hp _ _) (CoL.refl _) ?_
    refine aops_last 7 hops1 ?_
    simp only [go_sem, hf, decide_false, Bool.not_false]
    refine hKR1 _ ?_
    refine hK3 _ ?_
    refine awp_t rfl ?_
    refine awp_seq_k (fun K11 hK11 => ?_)
    refine awp_ops (by kernel_rfl) rfl (fun g2 hg2 ops2 KR2 hops2 hKR2 => ?_)
    refine aops_eval 0 hops2 ?_
    simp only [go_sem]
    refine aops_pure hops2 rfl rfl rfl (awake18_calls _ _) (CoL.refl _) ?_
    refine aops_last 1 hops2 ?_
    simp only [go_sem]
    refine hKR2 _ ?_
    refine hK11 _ ?_
    refine awp_ret ?_
    refine ends_ev rfl ?_
    simp only [go_sem]
    exact Co.refl _
end Go.Proofs.T


namespace Go.Proofs.T
open Go Go.Ab Go.RowKit

/-! ## The law FlowAdds -/

noncomputable def stE (d : Dec) : List Ed := setE (deE d)
theorem stE_all (p : Prg) : (p.decls.flatMap stE).foldl putE [] = setE (prE p) := by
  change setE (p.decls.flatMap stE) = setE (prE p)
  refine setE_eq fun x => ?_
  unfold prE
  simp only [List.mem_flatMap, stE, setE_mem]
theorem stE_len (l : List Dec) : (l.flatMap stE).length ≤ (l.flatMap deE).length := by
  induction l with
  | nil => simp
  | cons x r ih =>
    have := setE_len (deE x)
    simp only [List.flatMap_cons, List.length_append, stE] at *
    omega
theorem inE_ok {s : Sc} (hs : ∀ p ∈ s, okNd p.2) {to : Nd} (hto : okNd to) : ∀ (t : Ty) (ins : Bool), ∀ e ∈ inE s to t ins, okEd e := by
  refine Ty.ind fun t ih ins e he => ?_
  rw [inE_eq, List.mem_append] at he
  rcases he with he | he
  · unfold hdE at he
    split at he
    · rename_i x hx
      split at he
      · rw [List.mem_singleton.1 he]
        exact ⟨lookS_ok hs hx, hto⟩
      · cases he
    · cases he
  · obtain ⟨x, hx, he⟩ := List.mem_flatMap.1 he
    exact ih x hx true e he
theorem argsE_okV {s : Sc} (hs : ∀ p ∈ s, okNd p.2) : ∀ (l : List Ty), (∀ x ∈ l, ∀ e ∈ visE s x, okEd e) → ∀ (b : Bool) (o : Str) (i : Nat), o.size ≤ 9223372036854775807 → ∀ e ∈ argsE s l b o i, okEd e
  | [], _, _, _, _, _, e, he => by simp [argsE] at he
  | x :: r, hl, b, o, i, ho, e, he => by
    simp only [argsE, List.mem_append] at he
    rcases he with (he | he) | he
    · exact inE_ok (to := ⟨b, o, (i : Int)⟩) hs ho x false e he
    · exact hl x List.mem_cons_self e he
    · exact argsE_okV hs r (fun y hy => hl y (List.mem_cons_of_mem _ hy)) b o (i + 1) ho e he
theorem visE_ok {s : Sc} (hs : ∀ p ∈ s, okNd p.2) : ∀ (t : Ty), okTy t → ∀ e ∈ visE s t, okEd e := by
  refine Ty.ind fun t ih hok e he => ?_
  have h := (okTy_iff t).1 hok
  rw [visE_eq] at he
  exact argsE_okV hs t.args (fun x hx => ih x hx (h.2.2 x hx)) false t.name 0 h.1 e he
theorem siE_ok {s : Sc} (hs : ∀ p ∈ s, okNd p.2) {x : Sig} (hx : smSi x) : ∀ e ∈ siE s x, okEd e := by
  intro e he
  unfold siE at he
  simp only [List.mem_append, List.mem_flatMap] at he
  rcases he with (⟨f, hf, he⟩ | ⟨f, hf, he⟩) | he
  · exact visE_ok hs _ (smTy.ok _ (hx.2.1.2 f hf).2) e he
  · exact visE_ok hs _ (smTy.ok _ (hx.2.2.1.2 f hf).2) e he
  · exact visE_ok hs _ (smTy.ok _ hx.2.2.2) e he
theorem rdE_ok {d : Dec} (hd : smDe d) : ∀ e ∈ rdE d, okEd e := by
  obtain ⟨k1, ⟨k2, k3⟩, ⟨k4, k5⟩, ⟨k6, k7⟩, k8, ⟨k9, k10⟩, k11, k12⟩ := hd
  intro e he
  unfold rdE at he
  split at he
  · have hokS : ∀ p ∈ rmS d, okNd p.2 := okSc_app (okScN _ _ _ (Nat.le_trans k1 (by decide))) (okScN _ _ _ (Nat.le_trans k11.1 (by decide)))
    unfold rmE at he
    rcases List.mem_append.1 he with he | he
    · exact siE_ok hokS k11 e he
    · obtain ⟨x, hx, he⟩ := List.mem_flatMap.1 he
      have h := (smEx_iff _).1 (smNodes d.body k12 x hx)
      unfold rxE at he
      rcases List.mem_append.1 he with he | he
      · exact visE_ok hokS _ (smTy.ok _ h.2.1) e he
      · exact argsE_okV hokS _ (fun y hy => visE_ok hokS y (smTy.ok _ (h.2.2.1.2 y hy))) true x.name 0 (Nat.le_trans h.1 (by decide)) e he
  · have hokS : ∀ p ∈ fmN false d.name d.formals, okNd p.2 := okScN _ _ _ (Nat.le_trans k1 (by decide))
    unfold rsE at he
    rcases List.mem_append.1 he with he | he
    · have hsm : smSi ⟨ByteArray.empty, d.formals, d.fields, zeroTy, 0⟩ := ⟨show (0 : Nat) ≤ 1000000 by decide, ⟨show d.formals.length ≤ 1000000 by omega, k3⟩, ⟨k4, k5⟩, smZeroTy⟩
      exact siE_ok hokS hsm e he
    · obtain ⟨x, hx, he⟩ := List.mem_flatMap.1 he
      exact siE_ok (okSc_app hokS (okScN _ _ _ (Nat.le_trans (k7 x hx).1 (by decide)))) (k7 x hx) e he
theorem stE_ok {d : Dec} (hd : smDe d) (hr : rightDe d = true) : ∀ e ∈ stE d, okEd e := fun e he => by
  unfold stE at he
  rw [setE_mem, ← rdE_eq hr] at he
  exact rdE_ok hd e he
set_option maxRecDepth 100000 in
theorem flowAdds_calls (p : Prg) (hp : okPr p) (g d : Nat) : ACalls E 5 [encPr p] [] g d (dB true) [] := by
  refine acalls_of_awp (fn := Tryz.f5) (N := 48) Tryz.call5 Tryz.func5 rfl rfl (by simp) ?_
  simp only [go_sem]
  refine awp_seq_k (fun K1 hK1 => ?_)
  refine awp_plain 2 (by kernel_rfl) rfl (fun g0 hg0 => ?_)
  simp only [go_sem]
  refine hK1 _ ?_
  refine awp_seq_k (fun K2 hK2 => ?_)
  refine awp_seq_k (fun K3 hK3 => ?_)
  refine awp_ops (by kernel_rfl) rfl (fun g1 hg1 ops1 KR1 hops1 hKR1 => ?_)
  refine aops_eval 0 hops1 ?_
  simp only [go_sem]
  refine aops_pure hops1 rfl rfl rfl (awake18_calls _ _) (CoL.refl _) ?_
  refine aops_eval 3 hops1 ?_
  simp only [go_sem, Bool.not_true]
  by_cases hf : cntPr p ≤ 600
  · obtain ⟨hs, _⟩ := cntPr_sm p hf
    have hw := cntPr_w p hf
    refine aops_pure hops1 rfl rfl rfl (few06_calls p hp _ _) (CoL.refl _) ?_
    refine aops_eval 4 hops1 ?_
    simp only [go_sem, hf, decide_true, Bool.not_true]
    cases hr : rightPr p with
    | false =>
      refine aops_pure hops1 rfl rfl rfl (rightPr_calls p hs (by omega) _ _) (CoL.refl _) ?_
      refine aops_last 2 hops1 ?_
      simp only [go_sem, hr, Bool.not_false]
      refine hKR1 _ ?_
      refine hK3 _ ?_
      refine awp_t rfl ?_
      refine awp_seq_k (fun K4 hK4 => ?_)
      refine awp_ops (by kernel_rfl) rfl (fun g2 hg2 ops2 KR2 hops2 hKR2 => ?_)
      refine aops_eval 0 hops2 ?_
      simp only [go_sem]
      refine aops_pure hops2 rfl rfl rfl (awake18_calls _ _) (CoL.refl _) ?_
      refine aops_last 1 hops2 ?_
      simp only [go_sem]
      refine hKR2 _ ?_
      refine hK4 _ ?_
      refine awp_ret ?_
      refine ends_ev rfl ?_
      simp only [go_sem]
      exact Co.refl _
    | true =>
      have hE := prE_cnt hw
      have c1 := edges_calls p hs hE
      have hSl := setE_len (prE p)
      have c3 := plainEd_calls (setE (prE p)) (by omega)
      have c4 := sameEd_calls (setE (prE p)) (by omega)
      have hfin := stE_all p
      refine aops_pure hops1 rfl rfl rfl (rightPr_calls p hs (by omega) _ _) (CoL.refl _) ?_
      refine aops_last 2 hops1 ?_
      simp only [go_sem, hr, Bool.not_true]
      refine hKR1 _ ?_
      refine hK3 _ ?_
      refine awp_f rfl ?_
      refine awp_skip ?_
      refine hK2 _ ?_
      refine awp_seq_k (fun K5 hK5 => ?_)
      refine awp_plain 1 (by kernel_rfl) rfl (fun g3 hg3 => ?_)
      simp only [go_sem]
      refine hK5 _ ?_
      refine awp_seq_k (fun K6 hK6 => ?_)
      refine awp_seq_k (fun K7 hK7 => ?_)
      refine awp_plain 1 (by kernel_rfl) rfl (fun g4 hg4 => ?_)
      simp only [go_sem]
      refine hK7 _ ?_
      refine awp_block ?_
      refine awp_co 3 (slEd []) ?_
      simp only [go_sem]
      refine ⟨.nil _, ?_⟩
      refine awp_loop (fun m st => ∃ k, k ≤ p.decls.length ∧ m = p.decls.length - k ∧ Le { env := [(1, .ptr ⟨g0, 1, 0⟩ 0), (3, slEd (((p.decls.take k).flatMap stE).foldl putE [])), (4, dN k)], σ := [(⟨g0, 1, 0⟩, .box 30 (prC p))] } st) p.decls.length ?_ ?_
      · refine ⟨0, Nat.zero_le _, rfl, le_of ?_⟩
        simp only [go_sem, List.take_zero, List.flatMap_nil, List.foldl_nil]
        all_goals first | done | exact rfl | exact ⟨rfl, rfl⟩ | trivial | omega
      · rintro m st ⟨k, hk, rfl, hle⟩
        refine awp_keep hle ?_
        clear hle
        refine awp_seq_k (fun K8 hK8 => ?_)
        refine awp_seq_k (fun K9 hK9 => ?_)
        by_cases hlt : k < p.decls.length
        · have hfl : ((p.decls.take (k + 1)).flatMap stE).foldl putE [] = (stE p.decls[k]).foldl putE (((p.decls.take k).flatMap stE).foldl putE []) := by
            rw [flatTake _ hlt, List.foldl_append]
          have hmem := List.getElem_mem hlt
          have hMok := stE_ok (hs.1.2 _ hmem) (right_dec hr _ hmem)
          have c5 := flowDecl_calls p hs (k : Int) hE
          rw [dif_pos ⟨by omega, by omega⟩] at c5
          simp only [Int.toNat_natCast] at c5
          change ∀ g r, ACalls E _ _ _ g r (slEd (stE p.decls[k])) _ at c5
          have hfm := flatMem stE hlt
          have hsl := stE_len p.decls
          change _ ≤ (prE p).length at hsl
          have c7 := plainEd_calls (stE p.decls[k]) (by omega)
          have hq := putAll_len ((p.decls.take k).flatMap stE) []
          have hse := putAll_se ((p.decls.take k).flatMap stE) [] List.Pairwise.nil
          rw [List.length_nil] at hq
          generalize stE p.decls[k] = M at *
          generalize ((p.decls.take k).flatMap stE).foldl putE [] = R at *
          refine awp_plain 5 (by kernel_rfl) rfl (fun g5 hg5 => ?_)
          simp only [go_sem, hlt, decide_true]
          refine hK9 _ ?_
          refine awp_t rfl ?_
          refine awp_skip ?_
          refine hK8 _ ?_
          refine awp_seq_k (fun K10 hK10 => ?_)
          refine awp_block ?_
          refine awp_seq_k (fun K11 hK11 => ?_)
          refine awp_ops (by kernel_rfl) rfl (fun g7 hg7 ops7 KR7 hops7 hKR7 => ?_)
          refine aops_eval 2 hops7 ?_
          simp only [go_sem]
          refine aops_pure hops7 rfl rfl rfl (c5 _ _) (CoL.refl _) ?_
          refine aops_pure hops7 rfl rfl rfl (c7 _ _) (CoL.refl _) ?_
          refine aops_last 1 hops7 ?_
          simp only [go_sem]
          refine hKR7 _ ?_
          refine hK11 _ ?_
          refine awp_seq_k (fun K12 hK12 => ?_)
          refine awp_plain 1 (by kernel_rfl) rfl (fun g8 hg8 => ?_)
          simp only [go_sem]
          refine hK12 _ ?_
          refine awp_block ?_
          refine awp_loop (fun m st => ∃ j, j ≤ M.length ∧ m = M.length - j ∧ Le { env := [(1, .ptr ⟨g0, 1, 0⟩ 0), (3, slEd ((M.take j).foldl putE R)), (4, dN k), (5, slEd M), (6, dN j)], σ := [(⟨g0, 1, 0⟩, .box 30 (prC p))] } st) M.length ?_ ?_
          · refine ⟨0, Nat.zero_le _, rfl, le_of ?_⟩
            simp only [go_sem, List.take_zero, List.foldl_nil]
            all_goals first | done | exact rfl | exact ⟨rfl, rfl⟩ | trivial | omega
          · rintro m st ⟨j, hj, rfl, hle⟩
            refine awp_keep hle ?_
            clear hle
            refine awp_seq_k (fun K13 hK13 => ?_)
            refine awp_seq_k (fun K14 hK14 => ?_)
            by_cases hlj : j < M.length
            · have hgm2 := getM (f := encEd) hlj
              have hfl2 := foldTake putE R hlj
              have hok := hMok _ (List.getElem_mem hlj)
              have hq2 := putAll_len (M.take j) R
              rw [List.length_take_of_le hj] at hq2
              have hse3 := putAll_se (M.take j) R hse
              generalize M[j] = Y at *
              generalize (M.take j).foldl putE R = R2 at *
              refine awp_plain 4 (by kernel_rfl) rfl (fun g9 hg9 => ?_)
              simp only [go_sem, hlj, decide_true]
              refine hK14 _ ?_
              refine awp_t rfl ?_
              refine awp_skip ?_
              refine hK13 _ ?_
              refine awp_seq_k (fun K15 hK15 => ?_)
              refine awp_block ?_
              refine awp_ops (by kernel_rfl) rfl (fun g11 hg11 ops11 KR11 hops11 hKR11 => ?_)
              refine aops_eval 5 hops11 ?_
              simp only [go_sem, hgm2]
              refine aops_pure hops11 rfl rfl rfl (refPut_calls R2 Y hse3 hok (by omega) _ _) (CoL.refl _) ?_
              refine aops_last 1 hops11 ?_
              simp only [go_sem]
              refine hKR11 _ ?_
              refine hK15 _ ?_
              refine awp_plain 3 (by kernel_rfl) rfl (fun g10 hg10 => ?_)
              simp only [go_sem]
              try simp (disch := omega) only [wrapN]
              refine ⟨_, ?_, j + 1, hlj, rfl, le_of ?_⟩
              · omega
              simp only [go_sem, hfl2]
              all_goals first | done | exact rfl | exact ⟨rfl, rfl⟩ | trivial | omega
            · have : j = M.length := by omega
              subst this
              refine awp_plain 4 (by kernel_rfl) rfl (fun g9 hg9 => ?_)
              simp only [go_sem, hlj, decide_false]
              refine hK14 _ ?_
              refine awp_f rfl ?_
              refine awp_exit ?_
              refine hK10 _ ?_
              refine awp_plain 3 (by kernel_rfl) rfl (fun g6 hg6 => ?_)
              simp only [go_sem]
              try simp (disch := omega) only [wrapN]
              refine ⟨_, ?_, k + 1, hlt, rfl, le_of ?_⟩
              · omega
              simp only [go_sem, hfl]
              all_goals first | done | exact rfl | exact ⟨rfl, rfl⟩ | trivial | omega
        · have : k = p.decls.length := by omega
          subst this
          rw [List.take_length, hfin]
          refine awp_plain 5 (by kernel_rfl) rfl (fun g5 hg5 => ?_)
          simp only [go_sem, hlt, decide_false]
          refine hK9 _ ?_
          refine awp_f rfl ?_
          refine awp_exit ?_
          refine hK6 _ ?_
          refine awp_seq_k (fun K16 hK16 => ?_)
          refine awp_ops (by kernel_rfl) rfl (fun g12 hg12 ops12 KR12 hops12 hKR12 => ?_)
          refine aops_eval 2 hops12 ?_
          simp only [go_sem]
          refine aops_pure hops12 rfl rfl rfl (c1 _ _) (CoL.refl _) ?_
          refine aops_pure hops12 rfl rfl rfl (c3 _ _) (CoL.refl _) ?_
          refine aops_pure hops12 rfl rfl rfl (c4 _ _) (CoL.refl _) ?_
          refine aops_last 1 hops12 ?_
          simp only [go_sem]
          refine hKR12 _ ?_
          refine hK16 _ ?_
          refine awp_ret ?_
          refine ends_ev rfl ?_
          simp only [go_sem]
          exact Co.refl _
  · refine aops_pure hops1 rfl rfl rfl (few06_calls p hp _ _) (CoL.refl _) ?_
    refine aops_last 7 hops1 ?_
    simp only [go_sem, hf, decide_false, Bool.not_false]
    refine hKR1 _ ?_
    refine hK3 _ ?_
    refine awp_t rfl ?_
    refine awp_seq_k (fun K17 hK17 => ?_)
    refine awp_ops (by kernel_rfl) rfl (fun g2 hg2 ops2 KR2 hops2 hKR2 => ?_)
    refine aops_eval 0 hops2 ?_
    simp only [go_sem]
    refine aops_pure hops2 rfl rfl rfl (awake18_calls _ _) (CoL.refl _) ?_
    refine aops_last 1 hops2 ?_
    simp only [go_sem]
    refine hKR2 _ ?_
    refine hK17 _ ?_
    refine awp_ret ?_
    refine ends_ev rfl ?_
    simp only [go_sem]
    exact Co.refl _
end Go.Proofs.T


namespace Go.Proofs.T
open Go Go.Ab Go.RowKit

/-! ## Programs without type parameters: the walk -/

def bareEx (e : Ex) : Bool := (nodesEx e).all fun x => decide (x.targs.length = 0)
def plainDe (d : Dec) : Bool := decide (d.formals.length + d.vars.length + d.sig.formals.length = 0) && (bareEx d.body && d.sigs.all fun s => decide (s.formals.length = 0))
def plainPr (p : Prg) : Bool := (tyPr p).all (fun t => decide (t.args.length = 0)) && (p.decls.all plainDe && bareEx p.main)
theorem all_no {α : Type} {f : α → Bool} {l : List α} {k : Nat} (h : k < l.length) (hf : f l[k] = false) : l.all f = false := by
  rw [List.all_eq_false]
  exact ⟨_, List.getElem_mem h, by simp [hf]⟩
theorem all_more {α : Type} {f : α → Bool} {l : List α} {k : Nat} (h : k < l.length) (ha : (l.take k).all f = true) (hf : f l[k] = true) : (l.take (k + 1)).all f = true := by
  rw [List.take_add_one, List.getElem?_eq_getElem h, List.all_append, ha]
  simp [hf]
set_option maxRecDepth 100000 in
theorem bare06_calls (e : Ex) (he : okEx e) (hN : (nodesEx e).length ≤ 1000000) (g d : Nat) : ACalls E 50 [encEx e] [] g d (dB (bareEx e)) [] := by
  have hb := fun g r => list05_calls e he hN g r
  unfold bareEx
  generalize nodesEx e = L at *
  refine acalls_of_awp (fn := Tryz.f50) (N := 20) Tryz.call50 Tryz.func50 rfl rfl (by simp) ?_
  simp only [go_sem]
  refine awp_seq_k (fun K1 hK1 => ?_)
  refine awp_plain 2 (by kernel_rfl) rfl (fun g0 hg0 => ?_)
  simp only [go_sem]
  refine hK1 _ ?_
  refine awp_seq_k (fun K2 hK2 => ?_)
  refine awp_ops (by kernel_rfl) rfl (fun g1 hg1 ops1 KR1 hops1 hKR1 => ?_)
  refine aops_eval 1 hops1 ?_
  simp only [go_sem]
  refine aops_pure hops1 rfl rfl rfl (hb _ _) (CoL.refl _) ?_
  refine aops_last 1 hops1 ?_
  simp only [go_sem]
  refine hKR1 _ ?_
  refine hK2 _ ?_
  refine awp_seq_k (fun K3 hK3 => ?_)
  refine awp_seq_k (fun K4 hK4 => ?_)
  refine awp_plain 1 (by kernel_rfl) rfl (fun g2 hg2 => ?_)
  simp only [go_sem]
  refine hK4 _ ?_
  refine awp_block ?_
  refine awp_loop (fun m st => ∃ k, k ≤ L.length ∧ m = L.length - k ∧ (L.take k).all (fun x => decide (x.targs.length = 0)) = true ∧ Le { env := [(3, slEx L), (4, dN k)], σ := [] } st) L.length ?_ ?_
  · refine ⟨0, Nat.zero_le _, rfl, rfl, le_of ?_⟩
    simp only [go_sem]
    all_goals first | done | exact rfl | exact ⟨rfl, rfl⟩ | trivial | omega
  · rintro m st ⟨k, hk, rfl, hall, hle⟩
    refine awp_keep hle ?_
    clear hle
    refine awp_seq_k (fun K5 hK5 => ?_)
    refine awp_seq_k (fun K6 hK6 => ?_)
    by_cases hlt : k < L.length
    · have hgm := getM (f := encEx) hlt
      have h1 := @all_no _ (fun x : Ex => decide (x.targs.length = 0)) L k hlt
      have h2 := @all_more _ (fun x : Ex => decide (x.targs.length = 0)) L k hlt hall
      generalize L[k] = X at *
      refine awp_plain 4 (by kernel_rfl) rfl (fun g3 hg3 => ?_)
      simp only [go_sem, hlt, decide_true]
      refine hK6 _ ?_
      refine awp_t rfl ?_
      refine awp_skip ?_
      refine hK5 _ ?_
      refine awp_seq_k (fun K7 hK7 => ?_)
      refine awp_block ?_
      refine awp_seq_k (fun K8 hK8 => ?_)
      by_cases h0 : 0 < (X.targs.length : Int)
      · refine awp_plain 7 (by kernel_rfl) rfl (fun g5 hg5 => ?_)
        simp only [go_sem, hgm, h0, decide_true]
        refine hK8 _ ?_
        refine awp_t rfl ?_
        refine awp_seq_k (fun K9 hK9 => ?_)
        refine awp_plain 1 (by kernel_rfl) rfl (fun g6 hg6 => ?_)
        simp only [go_sem]
        refine hK9 _ ?_
        refine awp_ret ?_
        refine ends_ev rfl ?_
        simp only [go_sem]
        exact Co.of_eq (by rw [h1 (decide_eq_false (by omega))])
      · refine awp_plain 7 (by kernel_rfl) rfl (fun g5 hg5 => ?_)
        simp only [go_sem, hgm, h0, decide_false]
        refine hK8 _ ?_
        refine awp_f rfl ?_
        refine awp_skip ?_
        refine hK7 _ ?_
        refine awp_plain 3 (by kernel_rfl) rfl (fun g4 hg4 => ?_)
        simp only [go_sem]
        try simp (disch := omega) only [wrapN]
        refine ⟨_, ?_, k + 1, hlt, rfl, h2 (decide_eq_true (by omega)), le_of ?_⟩
        · omega
        simp only [go_sem]
        all_goals first | done | exact rfl | exact ⟨rfl, rfl⟩ | trivial | omega
    · have : k = L.length := by omega
      subst this
      rw [List.take_length] at hall
      refine awp_plain 4 (by kernel_rfl) rfl (fun g3 hg3 => ?_)
      simp only [go_sem, hlt, decide_false]
      refine hK6 _ ?_
      refine awp_f rfl ?_
      refine awp_exit ?_
      refine hK3 _ ?_
      refine awp_seq_k (fun K10 hK10 => ?_)
      refine awp_plain 1 (by kernel_rfl) rfl (fun g7 hg7 => ?_)
      simp only [go_sem]
      refine hK10 _ ?_
      refine awp_ret ?_
      refine ends_ev rfl ?_
      simp only [go_sem]
      exact Co.of_eq (by rw [hall])
set_option maxRecDepth 100000 in
theorem plain06_calls (p : Prg) (hp : smPr p) (hw : wN (prTys p) ≤ 1000000) (hN : ∀ d ∈ p.decls, (nodesEx d.body).length ≤ 1000000) (hM : (nodesEx p.main).length ≤ 1000000) (g d : Nat) : ACalls E 26 [encPr p] [] g d (dB (plainPr p)) [] := by
  have ht := fun g r => types06_calls p hp hw g r
  have hm := fun g r => bare06_calls p.main (smEx.ok _ hp.2) hM g r
  have hL := tyPr_le p
  obtain ⟨⟨k1, k2⟩, k3⟩ := hp
  unfold plainPr
  generalize tyPr p = L at *
  refine acalls_of_awp (fn := Tryz.f26) (N := 72) Tryz.call26 Tryz.func26 rfl rfl (by simp) ?_
  simp only [go_sem]
  refine awp_seq_k (fun K1 hK1 => ?_)
  refine awp_plain 2 (by kernel_rfl) rfl (fun g0 hg0 => ?_)
  simp only [go_sem]
  refine hK1 _ ?_
  refine awp_seq_k (fun K2 hK2 => ?_)
  refine awp_ops (by kernel_rfl) rfl (fun g1 hg1 ops1 KR1 hops1 hKR1 => ?_)
  refine aops_eval 1 hops1 ?_
  simp only [go_sem]
  refine aops_pure hops1 rfl rfl rfl (ht _ _) (CoL.refl _) ?_
  refine aops_last 1 hops1 ?_
  simp only [go_sem]
  refine hKR1 _ ?_
  refine hK2 _ ?_
  refine awp_seq_k (fun K3 hK3 => ?_)
  refine awp_seq_k (fun K4 hK4 => ?_)
  refine awp_plain 1 (by kernel_rfl) rfl (fun g2 hg2 => ?_)
  simp only [go_sem]
  refine hK4 _ ?_
  refine awp_block ?_
  refine awp_loop (fun m st => ∃ k, k ≤ L.length ∧ m = L.length - k ∧ (L.take k).all (fun x => decide (x.args.length = 0)) = true ∧ Le { env := [(1, .ptr ⟨g0, 1, 0⟩ 0), (3, slTy L), (4, dN k)], σ := [(⟨g0, 1, 0⟩, .box 30 (prC p))] } st) L.length ?_ ?_
  · refine ⟨0, Nat.zero_le _, rfl, rfl, le_of ?_⟩
    simp only [go_sem]
    all_goals first | done | exact rfl | exact ⟨rfl, rfl⟩ | trivial | omega
  · rintro m st ⟨k, hk, rfl, hall, hle⟩
    refine awp_keep hle ?_
    clear hle
    refine awp_seq_k (fun K5 hK5 => ?_)
    refine awp_seq_k (fun K6 hK6 => ?_)
    by_cases hlt : k < L.length
    · have hgm := getM (f := encTy) hlt
      have h1 := @all_no _ (fun x : Ty => decide (x.args.length = 0)) L k hlt
      have h2 := @all_more _ (fun x : Ty => decide (x.args.length = 0)) L k hlt hall
      generalize L[k] = X at *
      refine awp_plain 4 (by kernel_rfl) rfl (fun g3 hg3 => ?_)
      simp only [go_sem, hlt, decide_true]
      refine hK6 _ ?_
      refine awp_t rfl ?_
      refine awp_skip ?_
      refine hK5 _ ?_
      refine awp_seq_k (fun K7 hK7 => ?_)
      refine awp_block ?_
      refine awp_seq_k (fun K8 hK8 => ?_)
      by_cases h0 : 0 < (X.args.length : Int)
      · refine awp_plain 7 (by kernel_rfl) rfl (fun g5 hg5 => ?_)
        simp only [go_sem, hgm, h0, decide_true]
        refine hK8 _ ?_
        refine awp_t rfl ?_
        refine awp_seq_k (fun K9 hK9 => ?_)
        refine awp_plain 1 (by kernel_rfl) rfl (fun g6 hg6 => ?_)
        simp only [go_sem]
        refine hK9 _ ?_
        refine awp_ret ?_
        refine ends_ev rfl ?_
        simp only [go_sem]
        exact Co.of_eq (by rw [h1 (decide_eq_false (by omega)), Bool.false_and])
      · refine awp_plain 7 (by kernel_rfl) rfl (fun g5 hg5 => ?_)
        simp only [go_sem, hgm, h0, decide_false]
        refine hK8 _ ?_
        refine awp_f rfl ?_
        refine awp_skip ?_
        refine hK7 _ ?_
        refine awp_plain 3 (by kernel_rfl) rfl (fun g4 hg4 => ?_)
        simp only [go_sem]
        try simp (disch := omega) only [wrapN]
        refine ⟨_, ?_, k + 1, hlt, rfl, h2 (decide_eq_true (by omega)), le_of ?_⟩
        · omega
        simp only [go_sem]
        all_goals first | done | exact rfl | exact ⟨rfl, rfl⟩ | trivial | omega
    · have : k = L.length := by omega
      subst this
      rw [List.take_length] at hall
      have hallL := hall
      refine awp_plain 4 (by kernel_rfl) rfl (fun g3 hg3 => ?_)
      simp only [go_sem, hlt, decide_false]
      refine hK6 _ ?_
      refine awp_f rfl ?_
      refine awp_exit ?_
      refine hK3 _ ?_
      refine awp_seq_k (fun K10 hK10 => ?_)
      refine awp_seq_k (fun K11 hK11 => ?_)
      refine awp_plain 1 (by kernel_rfl) rfl (fun g7 hg7 => ?_)
      simp only [go_sem]
      refine hK11 _ ?_
      refine awp_block ?_
      refine awp_loop (fun m st => ∃ k, k ≤ p.decls.length ∧ m = p.decls.length - k ∧ (p.decls.take k).all plainDe = true ∧ Le { env := [(1, .ptr ⟨g0, 1, 0⟩ 0), (5, dN k)], σ := [(⟨g0, 1, 0⟩, .box 30 (prC p))] } st) p.decls.length ?_ ?_
      · refine ⟨0, Nat.zero_le _, rfl, rfl, le_of ?_⟩
        simp only [go_sem]
        all_goals first | done | exact rfl | exact ⟨rfl, rfl⟩ | trivial | omega
      · rintro m st ⟨k, hk, rfl, hall, hle⟩
        refine awp_keep hle ?_
        clear hle
        refine awp_seq_k (fun K12 hK12 => ?_)
        refine awp_seq_k (fun K13 hK13 => ?_)
        by_cases hlt : k < p.decls.length
        · have hgm := getM (f := encDe) hlt
          have hmem := List.getElem_mem hlt
          have hX := k2 _ hmem
          have hXb := hN _ hmem
          have h1 := @all_no _ plainDe p.decls k hlt
          have h2 := @all_more _ plainDe p.decls k hlt hall
          refine awp_plain 5 (by kernel_rfl) rfl (fun g8 hg8 => ?_)
          simp only [go_sem, hlt, decide_true]
          refine hK13 _ ?_
          refine awp_t rfl ?_
          refine awp_skip ?_
          refine hK12 _ ?_
          refine awp_seq_k (fun K14 hK14 => ?_)
          refine awp_block ?_
          refine awp_seq_k (fun K15 hK15 => ?_)
          generalize p.decls[k] = X at *
          have hb := fun g r => bare06_calls X.body (smEx.ok _ hX.2.2.2.2.2.2.2) hXb g r
          refine awp_plain 7 (by kernel_rfl) rfl (fun g10 hg10 => ?_)
          simp only [go_sem, hgm]
          refine hK15 _ ?_
          refine awp_seq_k (fun K16 hK16 => ?_)
          refine awp_seq_k (fun K17 hK17 => ?_)
          have hn10_g0 : g10 ≠ g0 := fresh_g hg10 1 0 (by simp [go_sem])
          have hf := hX.2.1.1
          have hsl := hX.2.2.2.1.1
          have hv := hX.2.2.2.2.2.1.1
          have hg := hX.2.2.2.2.2.2.1.2.1.1
          by_cases h0 : 0 < (X.formals.length : Int) + X.vars.length + X.sig.formals.length
          · refine awp_plain 19 (by kernel_rfl) rfl (fun g11 hg11 => ?_)
            simp only [go_sem, Ne.symm hn10_g0, List.nil_append]
            try simp (disch := omega) only [wrapN]
            try simp only [go_sem, h0, decide_true, List.nil_append]
            try simp (disch := omega) only [wrapN, wrapB, Int.tdiv_eq_ediv_of_nonneg, Int.tmod_eq_emod_of_nonneg]
            refine hK17 _ ?_
            refine awp_t rfl ?_
            refine awp_seq_k (fun K18 hK18 => ?_)
            refine awp_plain 1 (by kernel_rfl) rfl (fun g12 hg12 => ?_)
            simp only [go_sem, List.nil_append]
            refine hK18 _ ?_
            refine awp_ret ?_
            refine ends_ev rfl ?_
            simp only [go_sem]
            exact Co.of_eq (by rw [h1 (by unfold plainDe; rw [decide_eq_false (by omega)]; rfl), Bool.false_and, Bool.and_false])
          · cases hbb : bareEx X.body with
            | false =>
              refine awp_ops (by kernel_rfl) rfl (fun g11 hg11 ops11 KR11 hops11 hKR11 => ?_)
              refine aops_eval 16 hops11 ?_
              simp only [go_sem, Ne.symm hn10_g0, List.nil_append]
              try simp (disch := omega) only [wrapN]
              try simp only [go_sem, h0, decide_false, Ne.symm hn10_g0, List.nil_append]
              try simp (disch := omega) only [wrapN, wrapB, Int.tdiv_eq_ediv_of_nonneg, Int.tmod_eq_emod_of_nonneg]
              refine aops_pure hops11 rfl rfl rfl (hb _ _) (CoL.refl _) ?_
              refine aops_last 2 hops11 ?_
              simp only [go_sem, hbb, Bool.not_false, List.nil_append]
              refine hKR11 _ ?_
              refine hK17 _ ?_
              refine awp_t rfl ?_
              refine awp_seq_k (fun K19 hK19 => ?_)
              refine awp_plain 1 (by kernel_rfl) rfl (fun g12 hg12 => ?_)
              simp only [go_sem, List.nil_append]
              refine hK19 _ ?_
              refine awp_ret ?_
              refine ends_ev rfl ?_
              simp only [go_sem]
              exact Co.of_eq (by rw [h1 (by unfold plainDe; rw [hbb, Bool.false_and, Bool.and_false]), Bool.false_and, Bool.and_false])
            | true =>
              refine awp_ops (by kernel_rfl) rfl (fun g11 hg11 ops11 KR11 hops11 hKR11 => ?_)
              refine aops_eval 16 hops11 ?_
              simp only [go_sem, Ne.symm hn10_g0, List.nil_append]
              try simp (disch := omega) only [wrapN]
              try simp only [go_sem, h0, decide_false, Ne.symm hn10_g0, List.nil_append]
              try simp (disch := omega) only [wrapN, wrapB, Int.tdiv_eq_ediv_of_nonneg, Int.tmod_eq_emod_of_nonneg]
              refine aops_pure hops11 rfl rfl rfl (hb _ _) (CoL.refl _) ?_
              refine aops_last 2 hops11 ?_
              simp only [go_sem, hbb, Bool.not_true, List.nil_append]
              refine hKR11 _ ?_
              refine hK17 _ ?_
              refine awp_f rfl ?_
              refine awp_skip ?_
              refine hK16 _ ?_
              refine awp_seq_k (fun K20 hK20 => ?_)
              refine awp_plain 1 (by kernel_rfl) rfl (fun g13 hg13 => ?_)
              simp only [go_sem, List.nil_append]
              refine hK20 _ ?_
              refine awp_block ?_
              refine awp_loop (fun m st => ∃ j, j ≤ X.sigs.length ∧ m = X.sigs.length - j ∧ (X.sigs.take j).all (fun s => decide (s.formals.length = 0)) = true ∧ Le { env := [(1, .ptr ⟨g0, 1, 0⟩ 0), (5, dN k), (6, .ptr ⟨g10, 6, 0⟩ 0), (7, dN j)], σ := [(⟨g0, 1, 0⟩, .box 30 (prC p)), (⟨g10, 6, 0⟩, .box 42 (deC X))] } st) X.sigs.length ?_ ?_
              · refine ⟨0, Nat.zero_le _, rfl, rfl, le_of ?_⟩
                simp only [go_sem, hn10_g0, Ne.symm hn10_g0, deC, siC, exC, List.cons_append, List.nil_append]
                all_goals first | done | exact rfl | exact ⟨rfl, rfl⟩ | trivial | omega
              · rintro m st ⟨j, hj, rfl, hallj, hle⟩
                refine awp_keep hle ?_
                clear hle
                refine awp_seq_k (fun K21 hK21 => ?_)
                refine awp_seq_k (fun K22 hK22 => ?_)
                by_cases hlj : j < X.sigs.length
                · have hgj := getM (f := encSi) hlj
                  have hmj := List.getElem_mem hlj
                  have j1 := @all_no _ (fun x : Sig => decide (x.formals.length = 0)) X.sigs j hlj
                  have j2 := @all_more _ (fun x : Sig => decide (x.formals.length = 0)) X.sigs j hlj hallj
                  generalize X.sigs[j] = Y at *
                  refine awp_plain 5 (by kernel_rfl) rfl (fun g14 hg14 => ?_)
                  simp only [go_sem, hlj, decide_true, Ne.symm hn10_g0, deC, siC, exC, List.cons_append, List.nil_append]
                  refine hK22 _ ?_
                  refine awp_t rfl ?_
                  refine awp_skip ?_
                  refine hK21 _ ?_
                  refine awp_seq_k (fun K23 hK23 => ?_)
                  refine awp_block ?_
                  refine awp_seq_k (fun K24 hK24 => ?_)
                  by_cases h5 : 0 < (Y.formals.length : Int)
                  · refine awp_plain 8 (by kernel_rfl) rfl (fun g16 hg16 => ?_)
                    simp only [go_sem, hgj, h5, decide_true, Ne.symm hn10_g0, siC, List.nil_append]
                    refine hK24 _ ?_
                    refine awp_t rfl ?_
                    refine awp_seq_k (fun K25 hK25 => ?_)
                    refine awp_plain 1 (by kernel_rfl) rfl (fun g17 hg17 => ?_)
                    simp only [go_sem, List.nil_append]
                    refine hK25 _ ?_
                    refine awp_ret ?_
                    refine ends_ev rfl ?_
                    simp only [go_sem]
                    exact Co.of_eq (by rw [h1 (by unfold plainDe; rw [j1 (decide_eq_false (by omega)), Bool.and_false, Bool.and_false]), Bool.false_and, Bool.and_false])
                  · refine awp_plain 8 (by kernel_rfl) rfl (fun g16 hg16 => ?_)
                    simp only [go_sem, hgj, h5, decide_false, Ne.symm hn10_g0, siC, List.nil_append]
                    refine hK24 _ ?_
                    refine awp_f rfl ?_
                    refine awp_skip ?_
                    refine hK23 _ ?_
                    refine awp_plain 3 (by kernel_rfl) rfl (fun g15 hg15 => ?_)
                    simp only [go_sem, deC, siC, exC, List.cons_append, List.nil_append]
                    try simp (disch := omega) only [wrapN]
                    refine ⟨_, ?_, j + 1, hlj, rfl, j2 (decide_eq_true (by omega)), le_of ?_⟩
                    · omega
                    simp only [go_sem, hn10_g0, Ne.symm hn10_g0]
                    all_goals first | done | exact rfl | exact ⟨rfl, rfl⟩ | trivial | omega
                · have : j = X.sigs.length := by omega
                  subst this
                  rw [List.take_length] at hallj
                  refine awp_plain 5 (by kernel_rfl) rfl (fun g14 hg14 => ?_)
                  simp only [go_sem, hlj, decide_false, Ne.symm hn10_g0, deC, siC, exC, List.cons_append, List.nil_append]
                  refine hK22 _ ?_
                  refine awp_f rfl ?_
                  refine awp_exit ?_
                  refine hK14 _ ?_
                  refine awp_plain 3 (by kernel_rfl) rfl (fun g9 hg9 => ?_)
                  simp only [go_sem, exC, List.cons_append, List.nil_append]
                  try simp (disch := omega) only [wrapN]
                  refine ⟨_, ?_, k + 1, hlt, rfl, h2 (by unfold plainDe; rw [hallj, hbb, decide_eq_true (by omega)]; rfl), le_of ?_⟩
                  · omega
                  simp only [go_sem, hn10_g0]
                  all_goals first | done | exact rfl | exact ⟨rfl, rfl⟩ | trivial | omega
        · have : k = p.decls.length := by omega
          subst this
          rw [List.take_length] at hall
          refine awp_plain 5 (by kernel_rfl) rfl (fun g8 hg8 => ?_)
          simp only [go_sem, hlt, decide_false]
          refine hK13 _ ?_
          refine awp_f rfl ?_
          refine awp_exit ?_
          refine hK10 _ ?_
          refine awp_seq_k (fun K26 hK26 => ?_)
          refine awp_ops (by kernel_rfl) rfl (fun g18 hg18 ops18 KR18 hops18 hKR18 => ?_)
          refine aops_eval 2 hops18 ?_
          simp only [go_sem]
          refine aops_pure hops18 rfl rfl rfl (hm _ _) (CoL.refl _) ?_
          refine aops_last 1 hops18 ?_
          simp only [go_sem]
          refine hKR18 _ ?_
          refine hK26 _ ?_
          refine awp_ret ?_
          refine ends_ev rfl ?_
          simp only [go_sem]
          exact Co.of_eq (by rw [hallL, hall, Bool.true_and, Bool.true_and])
end Go.Proofs.T


namespace Go.Proofs.T
open Go Go.Ab Go.RowKit

/-! ## The law FlowPlain -/

theorem visE_bare (s : Sc) {t : Ty} (h : t.args.length = 0) : visE s t = [] := by
  rw [visE_eq, List.eq_nil_of_length_eq_zero h]
  rfl
theorem flatNil {α β : Type} (f : α → List β) : ∀ l : List α, (∀ x ∈ l, f x = []) → l.flatMap f = []
  | [], _ => rfl
  | x :: r, h => by rw [List.flatMap_cons, h x List.mem_cons_self, flatNil f r fun y hy => h y (List.mem_cons_of_mem _ hy)]; rfl
theorem right_type {x : Ex} (h : rightEx x = true) (hk : ¬ (x.kind = 3 ∨ x.kind = 5)) : x.type.args.length = 0 := by
  rw [rightEx_eq, Bool.and_eq_true] at h
  have h2 := h.2
  unfold headOk at h2
  rw [Bool.and_eq_true, Bool.and_eq_true] at h2
  have h3 := h2.2.1
  unfold typOk typed at h3
  rw [if_neg (by simpa using hk)] at h3
  simp only [Bool.and_eq_true, decide_eq_true_eq] at h3
  exact h3.2.2.1
theorem siE_bare (s : Sc) {x : Sig} (h : ∀ t ∈ siTys x, t.args.length = 0) : siE s x = [] := by
  unfold siTys at h
  unfold siE
  rw [flatNil _ _ fun f hf => visE_bare s (h _ (List.mem_append_left _ (List.mem_append_left _ (List.mem_map.2 ⟨f, hf, rfl⟩)))),
    flatNil _ _ fun f hf => visE_bare s (h _ (List.mem_append_left _ (List.mem_append_right _ (List.mem_map.2 ⟨f, hf, rfl⟩)))),
    visE_bare s (h _ (List.mem_append_right _ (List.mem_singleton.2 rfl)))]
  rfl
section
variable {p : Prg} (hr : rightPr p = true) (hp : plainPr p = true)
include hp
theorem plain_ty {t : Ty} (h : t ∈ tyPr p) : t.args.length = 0 := by
  unfold plainPr at hp
  rw [Bool.and_eq_true] at hp
  simpa using List.all_eq_true.1 hp.1 t h
theorem plain_de {d : Dec} (h : d ∈ p.decls) : d.formals = [] ∧ d.vars = [] ∧ d.sig.formals = [] ∧ (∀ x ∈ nodesEx d.body, x.targs = []) ∧ ∀ s ∈ d.sigs, s.formals = [] := by
  unfold plainPr at hp
  rw [Bool.and_eq_true, Bool.and_eq_true] at hp
  have h1 := List.all_eq_true.1 hp.2.1 d h
  unfold plainDe bareEx at h1
  rw [Bool.and_eq_true, Bool.and_eq_true] at h1
  obtain ⟨h2, h3, h4⟩ := h1
  have h2 := of_decide_eq_true h2
  exact ⟨List.eq_nil_of_length_eq_zero (by omega), List.eq_nil_of_length_eq_zero (by omega), List.eq_nil_of_length_eq_zero (by omega),
    fun x hx => List.eq_nil_of_length_eq_zero (of_decide_eq_true (List.all_eq_true.1 h3 x hx)), fun s hs => List.eq_nil_of_length_eq_zero (of_decide_eq_true (List.all_eq_true.1 h4 s hs))⟩
theorem plain_tyDe {d : Dec} (h : d ∈ p.decls) {t : Ty} (ht : t ∈ tyDe d) : t.args.length = 0 := plain_ty hp (by
  unfold tyPr
  exact List.mem_append_left _ (List.mem_flatMap.2 ⟨d, h, ht⟩))
theorem plain_nodes : ndP p = [] := by
  unfold ndP
  refine flatNil _ _ fun d hd => ?_
  obtain ⟨h1, h2, h3, h4, h5⟩ := plain_de hp hd
  unfold ndD
  rw [h1, flatNil siN _ fun s hs => ?_]
  · rfl
  · rcases List.mem_append.1 hs with hs | hs
    · unfold siN
      rw [h5 s hs]
      rfl
    · rw [List.mem_singleton.1 hs]
      unfold siN
      rw [h3]
      rfl
include hr
theorem plain_edges : prE p = [] := by
  unfold prE
  refine flatNil _ _ fun d hd => ?_
  have ht := fun t => @plain_tyDe _ hp d hd t
  obtain ⟨h1, h2, h3, h4, h5⟩ := plain_de hp hd
  have hrd := right_dec hr d hd
  unfold tyDe at ht
  unfold deE
  by_cases h : d.kind = 3
  · rw [if_pos h] at ht ⊢
    have hb := rightNodes d.body (right_body hrd h)
    unfold dmE
    rw [siE_bare _ fun t hx => ht t (List.mem_append_right _ (List.mem_append_left _ hx)), flatNil _ _ fun x hx => ?_]
    · rfl
    · unfold exE
      have hty : x.type.args.length = 0 := by
        by_cases hk : x.kind = 3 ∨ x.kind = 5
        · refine ht _ (List.mem_append_right _ (List.mem_append_right _ ?_))
          unfold bodyTys
          refine List.mem_flatMap.2 ⟨x, hx, ?_⟩
          unfold bodyT
          rw [if_pos hk]
          exact List.mem_append_right _ (List.mem_singleton.2 rfl)
        · exact right_type (hb x hx) hk
      rw [visE_bare _ hty, h4 x hx]
      split <;> simp [argsE]
  · rw [if_neg h] at ht ⊢
    unfold dsE
    rw [flatNil _ _ fun f hf => visE_bare _ (ht _ (List.mem_append_left _ (List.mem_append_left _ (List.mem_append_left _ (List.mem_map.2 ⟨f, hf, rfl⟩))))),
      flatNil _ _ fun f hf => visE_bare _ (ht _ (List.mem_append_left _ (List.mem_append_left _ (List.mem_append_right _ (List.mem_map.2 ⟨f, hf, rfl⟩))))),
      flatNil _ _ fun x hx => siE_bare _ fun t hy => ht t (List.mem_append_left _ (List.mem_append_right _ (List.mem_flatMap.2 ⟨x, hx, hy⟩)))]
    rfl
end
theorem ndP_len {p : Prg} (_ : smPr p) (hw : wN (prTys p) ≤ 600) : (ndP p).length ≤ 900000 := by
  have hn : ∀ d ∈ p.decls, (ndD d).length ≤ wN (deTys d) := fun d _ => by
    unfold ndD deTys
    rw [List.length_append, ndF_len, wN_app, wN_app, wN_app, wN_app]
    have h1 := wN_len (d.formals.map (·.bound))
    rw [List.length_map] at h1
    have h2 : ∀ x : Sig, (siN x).length ≤ wN (siTys x) := fun x => by
      have := wN_len (siTys x)
      have h3 : (siTys x).length = x.formals.length + x.params.length + 1 := by simp [siTys]; omega
      unfold siN
      rw [ndF_len]
      omega
    have h3 : ∀ l : List Sig, (l.flatMap siN).length ≤ wN (l.flatMap siTys) := by
      intro l
      induction l with
      | nil => simp
      | cons x r ih =>
        have := h2 x
        rw [List.flatMap_cons, List.flatMap_cons, List.length_append, wN_app]
        omega
    have h4 := h3 d.sigs
    have h5 := h2 d.sig
    rw [List.flatMap_append, List.length_append]
    simp only [List.flatMap_cons, List.flatMap_nil, List.append_nil]
    omega
  have : (ndP p).length ≤ wN (p.decls.flatMap deTys) := by
    unfold ndP
    clear hw
    generalize p.decls = l at *
    induction l with
    | nil => simp
    | cons x r ih =>
      have := hn x List.mem_cons_self
      have := ih fun d hd => hn d (List.mem_cons_of_mem _ hd)
      rw [List.flatMap_cons, List.flatMap_cons, List.length_append, wN_app]
      omega
  unfold prTys at hw
  rw [wN_app] at hw
  omega
set_option maxRecDepth 100000 in
theorem flowPlain_calls (p : Prg) (hp : okPr p) (g d : Nat) : ACalls E 6 [encPr p] [] g d (dB true) [] := by
  refine acalls_of_awp (fn := Tryz.f6) (N := 31) Tryz.call6 Tryz.func6 rfl rfl (by simp) ?_
  simp only [go_sem]
  refine awp_seq_k (fun K1 hK1 => ?_)
  refine awp_plain 2 (by kernel_rfl) rfl (fun g0 hg0 => ?_)
  simp only [go_sem]
  refine hK1 _ ?_
  refine awp_seq_k (fun K2 hK2 => ?_)
  refine awp_seq_k (fun K3 hK3 => ?_)
  refine awp_ops (by kernel_rfl) rfl (fun g1 hg1 ops1 KR1 hops1 hKR1 => ?_)
  refine aops_eval 0 hops1 ?_
  simp only [go_sem]
  refine aops_pure hops1 rfl rfl rfl (awake18_calls _ _) (CoL.refl _) ?_
  refine aops_eval 3 hops1 ?_
  simp only [go_sem, Bool.not_true]
  by_cases hf : cntPr p ≤ 600
  · obtain ⟨hs, _⟩ := cntPr_sm p hf
    have hw := cntPr_w p hf
    have hwm := prTys_main p
    have hnm := nodesEx_le p.main
    refine aops_pure hops1 rfl rfl rfl (few06_calls p hp _ _) (CoL.refl _) ?_
    refine aops_eval 4 hops1 ?_
    simp only [go_sem, hf, decide_true, Bool.not_true]
    cases hr : rightPr p with
    | false =>
      refine aops_pure hops1 rfl rfl rfl (rightPr_calls p hs (by omega) _ _) (CoL.refl _) ?_
      refine aops_last 7 hops1 ?_
      simp only [go_sem, hr, Bool.not_false]
      refine hKR1 _ ?_
      refine hK3 _ ?_
      refine awp_t rfl ?_
      refine awp_seq_k (fun K4 hK4 => ?_)
      refine awp_ops (by kernel_rfl) rfl (fun g2 hg2 ops2 KR2 hops2 hKR2 => ?_)
      refine aops_eval 0 hops2 ?_
      simp only [go_sem]
      refine aops_pure hops2 rfl rfl rfl (awake18_calls _ _) (CoL.refl _) ?_
      refine aops_last 1 hops2 ?_
      simp only [go_sem]
      refine hKR2 _ ?_
      refine hK4 _ ?_
      refine awp_ret ?_
      refine ends_ev rfl ?_
      simp only [go_sem]
      exact Co.refl _
    | true =>
      have hE := prE_cnt hw
      have c1 := edges_calls p hs hE
      have c2 := nodesI_calls p hs (ndP_len hs hw)
      refine aops_pure hops1 rfl rfl rfl (rightPr_calls p hs (by omega) _ _) (CoL.refl _) ?_
      refine aops_eval 4 hops1 ?_
      simp only [go_sem, hr, Bool.not_true]
      cases hpl : plainPr p with
      | false =>
        refine aops_pure hops1 rfl rfl rfl (plain06_calls p hs (by omega) (body_le hw) (by omega) _ _) (CoL.refl _) ?_
        refine aops_last 2 hops1 ?_
        simp only [go_sem, hpl, Bool.not_false]
        refine hKR1 _ ?_
        refine hK3 _ ?_
        refine awp_t rfl ?_
        refine awp_seq_k (fun K5 hK5 => ?_)
        refine awp_ops (by kernel_rfl) rfl (fun g2 hg2 ops2 KR2 hops2 hKR2 => ?_)
        refine aops_eval 0 hops2 ?_
        simp only [go_sem]
        refine aops_pure hops2 rfl rfl rfl (awake18_calls _ _) (CoL.refl _) ?_
        refine aops_last 1 hops2 ?_
        simp only [go_sem]
        refine hKR2 _ ?_
        refine hK5 _ ?_
        refine awp_ret ?_
        refine ends_ev rfl ?_
        simp only [go_sem]
        exact Co.refl _
      | true =>
        rw [plain_edges hr hpl] at c1
        have hnn : nodesOf p = [] := by
          unfold nodesOf
          rw [plain_nodes hpl]
          exact List.eq_nil_of_length_eq_zero (Nat.le_zero.1 (Nat.le_trans (cpU_len _ _) (by rw [srt_len]; exact Nat.le_refl _)))
        rw [hnn] at c2
        refine aops_pure hops1 rfl rfl rfl (plain06_calls p hs (by omega) (body_le hw) (by omega) _ _) (CoL.refl _) ?_
        refine aops_last 2 hops1 ?_
        simp only [go_sem, hpl, Bool.not_true]
        refine hKR1 _ ?_
        refine hK3 _ ?_
        refine awp_f rfl ?_
        refine awp_skip ?_
        refine hK2 _ ?_
        refine awp_seq_k (fun K6 hK6 => ?_)
        refine awp_ops (by kernel_rfl) rfl (fun g3 hg3 ops3 KR3 hops3 hKR3 => ?_)
        refine aops_eval 1 hops3 ?_
        simp only [go_sem]
        refine aops_pure hops3 rfl rfl rfl (c1 _ _) (CoL.refl _) ?_
        refine aops_eval 4 hops3 ?_
        simp only [go_sem, show setE [] = [] from rfl, List.map_nil, List.length_nil, show ((0 : Nat) : Int) = 0 from rfl, decide_true]
        refine aops_pure hops3 rfl rfl rfl (c2 _ _) (CoL.refl _) ?_
        refine aops_last 4 hops3 ?_
        simp only [go_sem, List.map_nil, List.length_nil, show ((0 : Nat) : Int) = 0 from rfl, decide_true]
        refine hKR3 _ ?_
        refine hK6 _ ?_
        refine awp_ret ?_
        refine ends_ev rfl ?_
        simp only [go_sem]
        exact Co.refl _
  · refine aops_pure hops1 rfl rfl rfl (few06_calls p hp _ _) (CoL.refl _) ?_
    refine aops_last 12 hops1 ?_
    simp only [go_sem, hf, decide_false, Bool.not_false]
    refine hKR1 _ ?_
    refine hK3 _ ?_
    refine awp_t rfl ?_
    refine awp_seq_k (fun K7 hK7 => ?_)
    refine awp_ops (by kernel_rfl) rfl (fun g2 hg2 ops2 KR2 hops2 hKR2 => ?_)
    refine aops_eval 0 hops2 ?_
    simp only [go_sem]
    refine aops_pure hops2 rfl rfl rfl (awake18_calls _ _) (CoL.refl _) ?_
    refine aops_last 1 hops2 ?_
    simp only [go_sem]
    refine hKR2 _ ?_
    refine hK7 _ ?_
    refine awp_ret ?_
    refine ends_ev rfl ?_
    simp only [go_sem]
    exact Co.refl _
end Go.Proofs.T

