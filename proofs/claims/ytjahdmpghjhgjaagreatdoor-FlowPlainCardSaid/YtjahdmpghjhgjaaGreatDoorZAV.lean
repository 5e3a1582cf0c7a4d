/- A part of the proof, under no conditions of its own: ZAV. -/
import Derived.Test.YtjahdmpghjhgjaaGreatDoorZAT
import Derived.Test.YtjahdmpghjhgjaaGreatDoorZAI
import Derived.Test.YtjahdmpghjhgjaaGreatDoorZAF
import Derived.Test.YtjahdmpghjhgjaaGreatDoorZAU
import Derived.Test.YtjahdmpghjhgjaaGreatDoorRows
import Derived.JoinedOf
import Derived.MakeChecks
import Derived.LaidSub
import Derived.Deep.DeepLaidRun
namespace Go.Proofs.T
open Go Go.Ab Go.RowKit

/-! ## The law FlowMore -/

def moreP (p : Prg) (d : Dec) : Prg := ⟨p.decls ++ [d], p.main⟩
theorem okRowsDec : ∀ l : List Dec, okRows 23 (l.map encDe) := fun l => okRows_map 23 encDe l fun _ => ⟨rfl, rfl⟩
theorem prE_more (p : Prg) (d : Dec) : prE (moreP p d) = prE p ++ deE d := by
  unfold prE moreP
  rw [List.flatMap_append]
  simp
theorem okPr_more {p : Prg} {d : Dec} (hp : okPr p) (hd : okDe d) (hl : p.decls.length + 1 ≤ 9223372036854775807) : okPr (moreP p d) := by
  refine ⟨⟨by simpa [moreP] using hl, fun f hf => ?_⟩, hp.2⟩
  rcases List.mem_append.1 hf with hf | hf
  · exact hp.1.2 f hf
  · rw [List.mem_singleton.1 hf]
    exact hd
theorem more_set (p : Prg) (d : Dec) : (setE (deE d)).foldl putE (setE (prE p)) = setE (prE (moreP p d)) := by
  refine se_uniq (putAll_se _ _ (setE_se _)) (setE_se _) fun x => ?_
  rw [putAll_mem, setE_mem, setE_mem, setE_mem, prE_more, List.mem_append, or_comm]
theorem smPr_less {p : Prg} {d : Dec} (h : smPr (moreP p d)) : smPr p ∧ smDe d := by
  obtain ⟨⟨k1, k2⟩, k3⟩ := h
  simp only [moreP, List.length_append, List.length_singleton] at k1
  exact ⟨⟨⟨by omega, fun f hf => k2 f (List.mem_append_left _ hf)⟩, k3⟩, k2 d (List.mem_append_right _ (List.mem_singleton.2 rfl))⟩
theorem wN_less (p : Prg) (d : Dec) : wN (prTys p) ≤ wN (prTys (moreP p d)) := by
  unfold prTys moreP
  simp only [wN_app, List.flatMap_append]
  omega
theorem right_less {p : Prg} {d : Dec} (h : rightPr (moreP p d) = true) : rightPr p = true ∧ rightDe d = true := by
  unfold rightPr moreP at h
  unfold rightPr
  simp only [List.all_append, Bool.and_eq_true] at h ⊢
  exact ⟨⟨h.1.1, h.2⟩, by simpa using h.1.2⟩

set_option maxHeartbeats 1000000 in
set_option maxRecDepth 100000 in
theorem flowMore_calls (p : Prg) (d : Dec) (hp : okPr p) (hd : okDe d) (hl : p.decls.length + 1 ≤ 359024204978) (g r : Nat) : ACalls E 7 [encPr p, encDe d] [] g r (dB true) [] := by
  have hq : okPr (moreP p d) := okPr_more hp hd (by omega)
  have hb : (p.decls.length + 1) * 392 ≤ 140737488355328 := by omega
  refine acalls_of_awp (fn := Tryz.f7) (N := 64) Tryz.call7 Tryz.func7 rfl rfl (by simp) ?_
  simp only [go_sem]
  refine awp_seq_k (fun K1 hK1 => ?_)
  refine awp_plain 3 (by kernel_rfl) rfl (fun g0 hg0 => ?_)
  simp only [go_sem]
  refine hK1 _ ?_
  refine awp_seq_k (fun K2 hK2 => ?_)
  refine awp_anyT 11 [0, 0, 2, 7, 0, 16, 63, 0, 128, 511, 0, 2047] (by kernel_rfl) (by kernel_rfl) (by kernel_rfl) rfl (fun g1 hg1 ops1 KR1 hops1 hKR1 => ?_)
  refine qrunT_eval 3 hops1 rfl ?_
  simp only [go_sem, List.cons_append, List.nil_append]
  refine qrunT_app hops1 rfl rfl rfl rfl rfl es22 sz42 by42 ze42 rfl (by decide) rfl rfl ?_
  simp only [go_sem, List.nil_append, okRowsDec]
  first | refine ⟨⟨by omega, by omega⟩, ?_⟩ | skip
  refine qrunT_eval 2 hops1 rfl ?_
  simp only [go_sem, List.nil_append, List.nil_append]
  refine qrunT_app hops1 rfl rfl rfl rfl rfl es22 sz42 by42 ze42 rfl (by decide) rfl rfl ?_
  simp only [go_sem]
  first | refine ⟨⟨by omega, by omega⟩, ?_⟩ | skip
  refine qrunT_last 4 hops1 rfl ?_
  simp only [go_sem, List.cons_append, List.nil_append]
  refine aops_last 1 hops1 ?_
  simp only [go_sem, List.cons_append, List.nil_append]
  refine hKR1 _ ?_
  refine hK2 _ ?_
  refine awp_seq_k (fun K3 hK3 => ?_)
  refine awp_seq_k (fun K4 hK4 => ?_)
  refine awp_frz ⟨g1, 15, 0⟩ ?_
  simp only [go_sem]
  refine awp_ops (by kernel_rfl) rfl (fun g2 hg2 ops2 KR2 hops2 hKR2 => ?_)
  refine aops_eval 0 hops2 ?_
  simp only [go_sem]
  refine aops_pure hops2 rfl rfl rfl (awake18_calls _ _) (CoL.refl _) ?_
  refine aops_eval 3 hops2 ?_
  simp only [go_sem, Bool.not_true, List.nil_append]
  by_cases hf : cntPr (moreP p d) ≤ 600
  · obtain ⟨hs, _⟩ := cntPr_sm (moreP p d) hf
    have hw := cntPr_w (moreP p d) hf
    have hs2 := smPr_less hs
    have hw2 := wN_less p d
    refine aops_pure hops2 rfl rfl rfl (few06_calls (moreP p d) hq _ _) (.cons (.of_eq (by simp [go_sem, encPr, prC, exC, moreP])) .nil) ?_
    refine aops_eval 4 hops2 ?_
    simp only [go_sem, hf, decide_true, Bool.not_true, List.nil_append]
    cases hr : rightPr (moreP p d) with
    | false =>
      refine aops_pure hops2 rfl rfl rfl (rightPr_calls (moreP p d) hs (by omega) _ _) (.cons (.of_eq (by simp [go_sem, encPr, prC, exC, moreP])) .nil) ?_
      refine aops_last 2 hops2 ?_
      simp only [go_sem, hr, Bool.not_false, List.nil_append]
      refine hKR2 _ ?_
      refine hK4 _ ?_
      refine awp_t rfl ?_
      refine awp_seq_k (fun K5 hK5 => ?_)
      refine awp_ops (by kernel_rfl) rfl (fun g3 hg3 ops3 KR3 hops3 hKR3 => ?_)
      refine aops_eval 0 hops3 ?_
      simp only [go_sem]
      refine aops_pure hops3 rfl rfl rfl (awake18_calls _ _) (CoL.refl _) ?_
      refine aops_last 1 hops3 ?_
      simp only [go_sem, List.nil_append]
      refine hKR3 _ ?_
      refine hK5 _ ?_
      refine awp_ret ?_
      refine ends_ev rfl ?_
      simp only [go_sem]
      exact Co.refl _
    | true =>
      obtain ⟨hr2, hr3⟩ := right_less hr
      have hE := prE_cnt hw
      have hE2 := prE_cnt (p := p) (by omega)
      have e1 := edges_calls p hs2.1 hE2
      have hS2 := setE_len (prE p)
      have e3 := plainEd_calls (setE (prE p)) (by omega)
      have c1 := edges_calls (moreP p d) hs hE
      have c2 := refEdges_calls (moreP p d) hs (by rw [rpE_eq hr]; exact hE) (body_le hw)
      rw [rpE_eq hr] at c2
      have hSl := setE_len (prE (moreP p d))
      have c3 := plainEd_calls (setE (prE (moreP p d))) (by omega)
      have c4 := sameEd_calls (setE (prE (moreP p d))) (by omega)
      have c5 := flowDecl_calls (moreP p d) hs (p.decls.length : Int) hE
      have hlt : p.decls.length < (moreP p d).decls.length := by simp [moreP]
      rw [dif_pos ⟨by omega, by omega⟩] at c5
      simp only [Int.toNat_natCast] at c5
      have hgd : (moreP p d).decls[p.decls.length] = d := by simp [moreP]
      rw [hgd] at c5
      change ∀ g r, ACalls E _ _ _ g r (slEd (stE d)) _ at c5
      have hMok := stE_ok hs2.2 hr3
      have hfin := more_set p d
      change (stE d).foldl putE _ = _ at hfin
      have hdl : (stE d).length ≤ 1000000 := by
        have := setE_len (deE d)
        have h3 : (deE d).length ≤ (prE (moreP p d)).length := by rw [prE_more]; simp
        change (setE (deE d)).length ≤ _
        omega
      have c7 := plainEd_calls (stE d) hdl
      have hse := setE_se (prE p)
      have hsum : (setE (prE p)).length + (stE d).length ≤ 1000000 := by
        have := setE_len (deE d)
        have h3 : (prE p).length + (deE d).length = (prE (moreP p d)).length := by rw [prE_more]; simp
        change _ + (setE (deE d)).length ≤ _
        omega
      refine aops_pure hops2 rfl rfl rfl (rightPr_calls (moreP p d) hs (by omega) _ _) (.cons (.of_eq (by simp [go_sem, encPr, prC, exC, moreP])) .nil) ?_
      refine aops_last 2 hops2 ?_
      simp only [go_sem, hr, Bool.not_true, List.nil_append]
      refine hKR2 _ ?_
      refine hK4 _ ?_
      refine awp_f rfl ?_
      refine awp_skip ?_
      refine hK3 _ ?_
      refine awp_seq_k (fun K6 hK6 => ?_)
      refine awp_ops (by kernel_rfl) rfl (fun g4 hg4 ops4 KR4 hops4 hKR4 => ?_)
      refine aops_eval 1 hops4 ?_
      simp only [go_sem, List.nil_append]
      generalize stE d = M at *
      refine aops_pure hops4 rfl rfl rfl (e1 _ _) (CoL.refl _) ?_
      refine aops_pure hops4 rfl rfl rfl (e3 _ _) (CoL.refl _) ?_
      refine aops_last 1 hops4 ?_
      simp only [go_sem, List.nil_append]
      refine hKR4 _ ?_
      refine hK6 _ ?_
      refine awp_seq_k (fun K7 hK7 => ?_)
      generalize setE (prE p) = R at *
      refine awp_ops (by kernel_rfl) rfl (fun g5 hg5 ops5 KR5 hops5 hKR5 => ?_)
      refine aops_eval 4 hops5 ?_
      simp only [go_sem, List.nil_append]
      refine aops_pure hops5 rfl rfl rfl (c5 _ _) (.cons (.of_eq (by simp [go_sem, encPr, prC, exC, moreP])) (.cons (.refl _) .nil)) ?_
      refine aops_pure hops5 rfl rfl rfl (c7 _ _) (CoL.refl _) ?_
      refine aops_last 1 hops5 ?_
      simp only [go_sem, List.nil_append]
      refine hKR5 _ ?_
      refine hK7 _ ?_
      refine awp_seq_k (fun K8 hK8 => ?_)
      refine awp_seq_k (fun K9 hK9 => ?_)
      refine awp_plain 1 (by kernel_rfl) rfl (fun g6 hg6 => ?_)
      simp only [go_sem, List.nil_append]
      refine hK9 _ ?_
      refine awp_block ?_
      refine awp_loop (fun m st => ∃ j, j ≤ M.length ∧ m = M.length - j ∧ Le { env := [(2, .ptr ⟨g0, 2, 0⟩ 0), (5, .ptr ⟨g1, 5, 0⟩ 0), (6, slEd ((M.take j).foldl putE R)), (7, slEd M), (8, dN j)], σ := [(⟨g0, 2, 0⟩, .box 30 (prC p)), (⟨g1, 5, 0⟩, .box 30 (prC (moreP p d)))] } st) M.length ?_ ?_
      · refine ⟨0, Nat.zero_le _, rfl, le_of ?_⟩
        simp only [go_sem, List.take_zero, List.foldl_nil, moreP, List.map_append, List.map_cons, List.map_nil, prC, exC, List.cons_append, List.nil_append]
        all_goals first | done | exact rfl | exact ⟨rfl, rfl⟩ | trivial | omega
      · rintro m st ⟨j, hj, rfl, hle⟩
        refine awp_keep hle ?_
        clear hle
        refine awp_seq_k (fun K10 hK10 => ?_)
        refine awp_seq_k (fun K11 hK11 => ?_)
        by_cases hlj : j < M.length
        · have hgm2 := getM (f := encEd) hlj
          have hfl2 := foldTake putE R hlj
          have hok := hMok _ (List.getElem_mem hlj)
          have hq2 := putAll_len (M.take j) R
          rw [List.length_take_of_le hj] at hq2
          have hse3 := putAll_se (M.take j) R hse
          generalize M[j] = Y at *
          generalize (M.take j).foldl putE R = R2 at *
          refine awp_plain 4 (by kernel_rfl) rfl (fun g7 hg7 => ?_)
          simp only [go_sem, hlj, decide_true, prC, exC, List.cons_append, List.nil_append]
          refine hK11 _ ?_
          refine awp_t rfl ?_
          refine awp_skip ?_
          refine hK10 _ ?_
          refine awp_seq_k (fun K12 hK12 => ?_)
          refine awp_block ?_
          refine awp_ops (by kernel_rfl) rfl (fun g9 hg9 ops9 KR9 hops9 hKR9 => ?_)
          refine aops_eval 5 hops9 ?_
          simp only [go_sem, hgm2, List.nil_append]
          refine aops_pure hops9 rfl rfl rfl (refPut_calls R2 Y hse3 hok (by omega) _ _) (CoL.refl _) ?_
          refine aops_last 1 hops9 ?_
          simp only [go_sem, List.nil_append]
          refine hKR9 _ ?_
          refine hK12 _ ?_
          refine awp_plain 3 (by kernel_rfl) rfl (fun g8 hg8 => ?_)
          simp only [go_sem, prC, exC, List.cons_append, List.nil_append]
          try simp (disch := omega) only [wrapN]
          refine ⟨_, ?_, j + 1, hlj, rfl, le_of ?_⟩
          · omega
          simp only [go_sem, hfl2]
          all_goals first | done | exact rfl | exact ⟨rfl, rfl⟩ | trivial | omega
        · have : j = M.length := by omega
          subst this
          rw [List.take_length, hfin]
          refine awp_plain 4 (by kernel_rfl) rfl (fun g7 hg7 => ?_)
          simp only [go_sem, hlj, decide_false, prC, exC, List.cons_append, List.nil_append]
          refine hK11 _ ?_
          refine awp_f rfl ?_
          refine awp_exit ?_
          refine hK8 _ ?_
          refine awp_seq_k (fun K13 hK13 => ?_)
          refine awp_ops (by kernel_rfl) rfl (fun g10 hg10 ops10 KR10 hops10 hKR10 => ?_)
          refine aops_eval 2 hops10 ?_
          simp only [go_sem, List.nil_append]
          refine aops_pure hops10 rfl rfl rfl (c1 _ _) (CoL.refl _) ?_
          refine aops_pure hops10 rfl rfl rfl (c3 _ _) (CoL.refl _) ?_
          refine aops_pure hops10 rfl rfl rfl (c4 _ _) (CoL.refl _) ?_
          refine aops_eval 3 hops10 ?_
          simp only [go_sem, List.nil_append]
          refine aops_pure hops10 rfl rfl rfl (c2 _ _) (CoL.refl _) ?_
          refine aops_pure hops10 rfl rfl rfl (c4 _ _) (CoL.refl _) ?_
          refine aops_last 2 hops10 ?_
          simp only [go_sem, List.nil_append]
          refine hKR10 _ ?_
          refine hK13 _ ?_
          refine awp_ret ?_
          refine ends_ev rfl ?_
          simp only [go_sem]
          exact Co.refl _
  · refine aops_pure hops2 rfl rfl rfl (few06_calls (moreP p d) hq _ _) (.cons (.of_eq (by simp [go_sem, encPr, prC, exC, moreP])) .nil) ?_
    refine aops_last 7 hops2 ?_
    simp only [go_sem, hf, decide_false, Bool.not_false, List.nil_append]
    refine hKR2 _ ?_
    refine hK4 _ ?_
    refine awp_t rfl ?_
    refine awp_seq_k (fun K14 hK14 => ?_)
    refine awp_ops (by kernel_rfl) rfl (fun g3 hg3 ops3 KR3 hops3 hKR3 => ?_)
    refine aops_eval 0 hops3 ?_
    simp only [go_sem]
    refine aops_pure hops3 rfl rfl rfl (awake18_calls _ _) (CoL.refl _) ?_
    refine aops_last 1 hops3 ?_
    simp only [go_sem, List.nil_append]
    refine hKR3 _ ?_
    refine hK14 _ ?_
    refine awp_ret ?_
    refine ends_ev rfl ?_
    simp only [go_sem]
    exact Co.refl _
end Go.Proofs.T


namespace Go.Proofs.T
open Go Go.Ab Go.RowKit

/-! # What the arguments denote -/

variable {H : Type} {enc : TypeId × Value → H} {w : World}



theorem opStr (n : Nat) : Opens enc Tryz.prog w 9 (fun s : Str => [.val (.string s)]) (fun s => s.size ≤ 9223372036854775807) n := opens_str (by kernel_rfl) n
theorem opInt (n : Nat) : Opens enc Tryz.prog w 3 (fun i : Int => [.val (.int .i64 i)]) (fun i => -9223372036854775808 ≤ i ∧ i ≤ 9223372036854775807) n := opens_int (by kernel_rfl) n

theorem encTy_cellsF : (fun a => (encTy a).cells) = tyC := funext fun a => by rw [encTy_agg]; rfl
theorem opTy : ∀ n : Nat, Opens enc Tryz.prog w 25 tyC okTy n := by
  intro n
  induction n using Nat.strongRecOn with
  | _ n ih =>
    cases n with
    | zero => exact Opens.zero
    | succ n =>
      intro cs x h
      obtain ⟨nm, k1, s1⟩ := open_at 0 (show fieldAt Tryz.prog 25 0 = some (9, 0) by kernel_rfl) h (opStr n)
      obtain ⟨ars, k2, s2⟩ := open_at 1 (show fieldAt Tryz.prog 25 1 = some (23, 1) by kernel_rfl) h
        (opens_slb (e := 25) (k := 3) (f := encTy) (by kernel_rfl) (by kernel_rfl) (by decide) (fun a => by rw [encTy_agg]; rfl)
          (fun m hm => by rw [encTy_cellsF]; exact ih m (by omega)))
      obtain ⟨ps, _, s3⟩ := open_at 2 (show fieldAt Tryz.prog 25 2 = some (3, 2) by kernel_rfl) h (opInt n)
      refine ⟨.mk nm ars ps, (okTy_iff _).2 ⟨k1, k2.1, k2.2⟩, (open_len (by kernel_rfl) h).trans (by kernel_rfl), ?_⟩
      exact (s1.app s2 rfl).app s3 rfl

theorem opTys (n : Nat) : Opens enc Tryz.prog w 23 (fun l : List Ty => [slTy l]) (fun l => l.length ≤ 9223372036854775807 ∧ ∀ a ∈ l, okTy a) n :=
  opens_slb (e := 25) (k := 3) (f := encTy) (by kernel_rfl) (by kernel_rfl) (by decide) (fun a => by rw [encTy_agg]; rfl) (fun m _ => by rw [encTy_cellsF]; exact opTy m)
theorem opStrs (n : Nat) : Opens enc Tryz.prog w 38 (fun l : List Str => [slS l]) (fun l => l.length ≤ 9223372036854775807 ∧ ∀ a ∈ l, a.size ≤ 9223372036854775807) n :=
  opens_slb (e := 9) (k := 1) (f := encS) (by kernel_rfl) (by kernel_rfl) (by decide) (fun a => rfl) (fun m _ => opStr m)

theorem opFm (n : Nat) : Opens enc Tryz.prog w 68 (fun f => (encFm f).cells) okFm n := by
  cases n with
  | zero => exact Opens.zero
  | succ n =>
    intro cs x h
    obtain ⟨nm, k1, s1⟩ := open_at 0 (show fieldAt Tryz.prog 68 0 = some (9, 0) by kernel_rfl) h (opStr n)
    obtain ⟨t, k2, s2⟩ := open_at 1 (show fieldAt Tryz.prog 68 1 = some (25, 1) by kernel_rfl) h (opTy n)
    obtain ⟨ps, _, s3⟩ := open_at 2 (show fieldAt Tryz.prog 68 2 = some (3, 4) by kernel_rfl) h (opInt n)
    exact ⟨⟨nm, t, ps⟩, ⟨k1, k2⟩, (open_len (by kernel_rfl) h).trans (by kernel_rfl), (s1.app s2 rfl).app s3 rfl⟩
theorem opPa (n : Nat) : Opens enc Tryz.prog w 109 (fun f => (encPa f).cells) okPa n := by
  cases n with
  | zero => exact Opens.zero
  | succ n =>
    intro cs x h
    obtain ⟨nm, k1, s1⟩ := open_at 0 (show fieldAt Tryz.prog 109 0 = some (9, 0) by kernel_rfl) h (opStr n)
    obtain ⟨t, k2, s2⟩ := open_at 1 (show fieldAt Tryz.prog 109 1 = some (25, 1) by kernel_rfl) h (opTy n)
    obtain ⟨ps, _, s3⟩ := open_at 2 (show fieldAt Tryz.prog 109 2 = some (3, 4) by kernel_rfl) h (opInt n)
    exact ⟨⟨nm, t, ps⟩, ⟨k1, k2⟩, (open_len (by kernel_rfl) h).trans (by kernel_rfl), (s1.app s2 rfl).app s3 rfl⟩
theorem opFms (n : Nat) : Opens enc Tryz.prog w 35 (fun l : List Formal => [slFm l]) (fun l => l.length ≤ 9223372036854775807 ∧ ∀ a ∈ l, okFm a) n :=
  opens_slb (e := 68) (k := 5) (f := encFm) (by kernel_rfl) (by kernel_rfl) (by decide) (fun a => rfl) (fun m _ => opFm m)
theorem opPas (n : Nat) : Opens enc Tryz.prog w 36 (fun l : List Param => [slPa l]) (fun l => l.length ≤ 9223372036854775807 ∧ ∀ a ∈ l, okPa a) n :=
  opens_slb (e := 109) (k := 5) (f := encPa) (by kernel_rfl) (by kernel_rfl) (by decide) (fun a => rfl) (fun m _ => opPa m)

theorem opSi (n : Nat) : Opens enc Tryz.prog w 40 siC okSi n := by
  cases n with
  | zero => exact Opens.zero
  | succ n =>
    intro cs x h
    obtain ⟨nm, k1, s1⟩ := open_at 0 (show fieldAt Tryz.prog 40 0 = some (9, 0) by kernel_rfl) h (opStr n)
    obtain ⟨fs, k2, s2⟩ := open_at 1 (show fieldAt Tryz.prog 40 1 = some (35, 1) by kernel_rfl) h (opFms n)
    obtain ⟨ars, k3, s3⟩ := open_at 2 (show fieldAt Tryz.prog 40 2 = some (36, 2) by kernel_rfl) h (opPas n)
    obtain ⟨t, k4, s4⟩ := open_at 3 (show fieldAt Tryz.prog 40 3 = some (25, 3) by kernel_rfl) h (opTy n)
    obtain ⟨ps, _, s5⟩ := open_at 4 (show fieldAt Tryz.prog 40 4 = some (3, 6) by kernel_rfl) h (opInt n)
    exact ⟨⟨nm, fs, ars, t, ps⟩, ⟨k1, k2, k3, k4⟩, (open_len (by kernel_rfl) h).trans (by kernel_rfl), (((s1.app s2 rfl).app s3 rfl).app s4 rfl).app s5 rfl⟩

/-! ## Whole arguments -/

set_option maxRecDepth 100000
variable {b0 : Nat} {v : Value} {d : DataW H} {ps : List MemPlace}

end Go.Proofs.T


namespace Go.Proofs.T
open Go Go.Ab Go.RowKit

/-! # What the arguments denote: programs -/

variable {H : Type} {enc : TypeId × Value → H} {w : World}

theorem encEx_cellsF : (fun a => (encEx a).cells) = exC := funext fun a => by rw [encEx_agg]; rfl
theorem opEx : ∀ n : Nat, Opens enc Tryz.prog w 28 exC okEx n := by
  intro n
  induction n using Nat.strongRecOn with
  | _ n ih =>
    cases n with
    | zero => exact Opens.zero
    | succ n =>
      intro cs x h
      obtain ⟨kd, _, s0⟩ := open_at 0 (show fieldAt Tryz.prog 28 0 = some (3, 0) by kernel_rfl) h (opInt n)
      obtain ⟨nm, k1, s1⟩ := open_at 1 (show fieldAt Tryz.prog 28 1 = some (9, 1) by kernel_rfl) h (opStr n)
      obtain ⟨ty, k2, s2⟩ := open_at 2 (show fieldAt Tryz.prog 28 2 = some (25, 2) by kernel_rfl) h (opTy n)
      obtain ⟨ars, k3, s3⟩ := open_at 3 (show fieldAt Tryz.prog 28 3 = some (23, 5) by kernel_rfl) h (opTys n)
      obtain ⟨kids, k4, s4⟩ := open_at 4 (show fieldAt Tryz.prog 28 4 = some (26, 6) by kernel_rfl) h
        (opens_slb (e := 28) (k := 8) (f := encEx) (by kernel_rfl) (by kernel_rfl) (by decide) (fun a => by rw [encEx_agg]; rfl)
          (fun m hm => by rw [encEx_cellsF]; exact ih m (by omega)))
      obtain ⟨ps, _, s5⟩ := open_at 5 (show fieldAt Tryz.prog 28 5 = some (3, 7) by kernel_rfl) h (opInt n)
      refine ⟨.mk kd nm ty ars kids ps, (okEx_iff _).2 ⟨k1, k2, k3, k4.1, k4.2⟩, (open_len (by kernel_rfl) h).trans (by kernel_rfl), ?_⟩
      exact ((((s0.app s1 rfl).app s2 rfl).app s3 rfl).app s4 rfl).app s5 rfl

theorem opSis (n : Nat) : Opens enc Tryz.prog w 37 (fun l : List Sig => [slSi l]) (fun l => l.length ≤ 9223372036854775807 ∧ ∀ a ∈ l, okSi a) n :=
  opens_slb (e := 40) (k := 7) (f := encSi) (by kernel_rfl) (by kernel_rfl) (by decide) (fun a => rfl) (fun m _ => opSi m)
theorem opDe (n : Nat) : Opens enc Tryz.prog w 42 (fun a => (encDe a).cells) okDe n := by
  cases n with
  | zero => exact Opens.zero
  | succ n =>
    intro cs x h
    obtain ⟨kd, _, s0⟩ := open_at 0 (show fieldAt Tryz.prog 42 0 = some (3, 0) by kernel_rfl) h (opInt n)
    obtain ⟨nm, k1, s1⟩ := open_at 1 (show fieldAt Tryz.prog 42 1 = some (9, 1) by kernel_rfl) h (opStr n)
    obtain ⟨fm, k2, s2⟩ := open_at 2 (show fieldAt Tryz.prog 42 2 = some (35, 2) by kernel_rfl) h (opFms n)
    obtain ⟨fd, k3, s3⟩ := open_at 3 (show fieldAt Tryz.prog 42 3 = some (36, 3) by kernel_rfl) h (opPas n)
    obtain ⟨sg, k4, s4⟩ := open_at 4 (show fieldAt Tryz.prog 42 4 = some (37, 4) by kernel_rfl) h (opSis n)
    obtain ⟨rc, k5, s5⟩ := open_at 5 (show fieldAt Tryz.prog 42 5 = some (9, 5) by kernel_rfl) h (opStr n)
    obtain ⟨vs, k6, s6⟩ := open_at 6 (show fieldAt Tryz.prog 42 6 = some (38, 6) by kernel_rfl) h (opStrs n)
    obtain ⟨si, k7, s7⟩ := open_at 7 (show fieldAt Tryz.prog 42 7 = some (40, 7) by kernel_rfl) h (opSi n)
    obtain ⟨bd, k8, s8⟩ := open_at 8 (show fieldAt Tryz.prog 42 8 = some (28, 14) by kernel_rfl) h (opEx n)
    obtain ⟨ps, _, s9⟩ := open_at 9 (show fieldAt Tryz.prog 42 9 = some (3, 22) by kernel_rfl) h (opInt n)
    refine ⟨⟨kd, nm, fm, fd, sg, rc, vs, si, bd, ps⟩, ⟨k1, k2, k3, k4, k5, k6, k7, k8⟩, (open_len (by kernel_rfl) h).trans (by kernel_rfl), ?_⟩
    exact ((((((((s0.app s1 rfl).app s2 rfl).app s3 rfl).app s4 rfl).app s5 rfl).app s6 rfl).app s7 rfl).app s8 rfl).app s9 rfl
theorem opDes (n : Nat) : Opens enc Tryz.prog w 22 (fun l : List Dec => [slDe l]) (fun l => l.length ≤ 9223372036854775807 ∧ ∀ a ∈ l, okDe a) n :=
  opens_slb (e := 42) (k := 23) (f := encDe) (by kernel_rfl) (by kernel_rfl) (by decide) (fun a => rfl) (fun m _ => opDe m)
theorem opPr (n : Nat) : Opens enc Tryz.prog w 30 prC okPr n := by
  cases n with
  | zero => exact Opens.zero
  | succ n =>
    intro cs x h
    obtain ⟨ds, k0, s0⟩ := open_at 0 (show fieldAt Tryz.prog 30 0 = some (22, 0) by kernel_rfl) h (opDes n)
    obtain ⟨mn, k1, s1⟩ := open_at 1 (show fieldAt Tryz.prog 30 1 = some (28, 1) by kernel_rfl) h (opEx n)
    exact ⟨⟨ds, mn⟩, ⟨k0, k1⟩, (open_len (by kernel_rfl) h).trans (by kernel_rfl), s0.app s1 rfl⟩

set_option maxRecDepth 100000
variable {b0 : Nat} {v : Value} {d : DataW H} {ps : List MemPlace}
theorem argPr (hval : Value.okWide Tryz.prog w .any b0 30 v) (h : DataW.Trod enc Tryz.prog w 0 (fun _ => true) true 30 v d ps) : ∃ s, okPr s ∧ V (G0 w) w v (encPr s) := open_agg (by kernel_rfl) opPr hval h
def zPrg : Value := .agg #[.slice none 0 0, .int .i64 0, .string ByteArray.empty, .string ByteArray.empty, .slice none 0 0, .int .i64 0, .slice none 0 0, .slice none 0 0, .int .i64 0]
end Go.Proofs.T


namespace Go.Proofs.T
open Go Go.Ab Go.RowKit

variable {H : Type} {enc : TypeId × Value → H} {w : World}
variable {b0 : Nat} {v : Value} {d : DataW H} {ps : List MemPlace}
set_option maxRecDepth 100000 in
theorem argInt (hval : Value.okWide Tryz.prog w .any b0 3 v) (h : DataW.Trod enc Tryz.prog w 0 (fun _ => true) true 3 v d ps) : ∃ s : Int, (-9223372036854775808 ≤ s ∧ s ≤ 9223372036854775807) ∧ V (G0 w) w v (dI s) :=
  open_cell (f := fun s : Int => D.val (.int .i64 s)) (not_agg_int (k := .i64) (by kernel_rfl)) opInt hval h
end Go.Proofs.T


namespace Go.Ab
open Go Go.RowKit

/-! # From a law's contract to its row, the arguments' weights handed on -/

variable {H : Type} {enc : TypeId × Value → H} {P : Program} {W W' : World}

theorem lifted_sized {E : Ctx} {C : Checked} {os : Os} {f : FuncId} {fn : Func} {s : ChangeSpec} {apart fresh handsOn : Bool} {laid : List (String × DataW Unit)} {tb : TypeId} (hE : E.P = C.prog)
    (hA : ∀ W, laidMetH C.prog laid W → E.A W) (own : ownKnob C.prog.godebug = none) (started : os.Started) (noInit : C.prog.inits.idxOf? f = none) (hfn : C.prog.funcs[f]? = some fn)
    (witness : ∃ (w : World) (tape : Tape) (i : Input), w.os = os ∧ (w.forCall tape i).Shaped C.prog ∧ i.vars = [] ∧ Input.okWide C.prog (w.forCall tape i) .any w.heap.size f i ∧
      ((s.pre enc C.prog fn [] apart (w.forCall tape i).memory i.args ∧ laidMetH C.prog laid (w.forCall tape i).memory) ∧ sizedMet enc C.prog fn (OpenSpec.ofChange s) apart (w.forCall tape i).memory i.args) ∧ ({} : Assume).holds C.prog (lone (Frame.enter C.prog f i.args .normal) [] (w.forCall tape i)))
    (hvars : s.vars = []) (hres : fn.resultTypes = #[tb]) (htb : C.prog.underlying tb = some .bool) (hlo : laidOutB C.prog = true) (hrd : readsB C.prog fn.params.toList = true)
    (hopen : ∀ (W : World) (base : Nat) (args : Array Value) (ds : List (DataW H)) (p : List MemPlace), (∀ (j : Nat) t v, fn.params[j]? = some t → args[j]? = some v → Value.okWide C.prog W .any base t v) →
      DataW.TrodAll enc C.prog W 0 (fun _ => true) true fn.params.toList args.toList ds p → (∀ n ∈ DataW.weightsEach C.prog fn.params.toList ds, n ≤ reachBytes) →
      (∃ l, Vs (G0 W) W args l ∧ ∀ g d, ACalls E f l [] g d (dB true) []) ∧ s.fn H ds = { results := [.lit (.bool true)], args := ds }) :
    ReturnsInHanded {} C os f .any (fun w args => (s.pre enc C.prog fn [] apart w args ∧ laidMetH C.prog laid w) ∧ sizedMet enc C.prog fn (OpenSpec.ofChange s) apart w args)
      (s.post enc C.prog fn apart fresh handsOn false) := by
  refine returnsInHanded_of_change_and (C := C) (X := fun w _ => laidMetH C.prog laid w) (fun _ _ _ hh h => h.of_heap hh) own started noInit hfn witness ?_
  intro W base args ds gs before hval hW _ hZ hL _
  have hW' := hW
  obtain ⟨p, q, hT, hV, rfl, hfz, hnd⟩ := hW
  rw [hvars] at hV
  obtain ⟨rfl, rfl⟩ : gs = [] ∧ q = [] := by
    cases gs with
    | nil => exact ⟨rfl, hV⟩
    | cons g r => exact absurd hV (by intro h; cases h)
  have hvt : s.plain.varTypes C.prog = [] := by
    unfold DataSpec.varTypes
    rw [show s.plain.vars = [] from hvars]
    rfl
  rw [hvt, List.append_nil, List.append_nil] at hZ
  obtain ⟨⟨l, hvs, hl⟩, hs⟩ := hopen W base args ds p hval hT (fun n hn => by simpa using List.all_eq_true.1 hZ n hn)
  have hc := law_calls hl (hA W hL) hvs
  rw [hE] at hc
  refine hc.mono fun e W' ⟨he, hb⟩ => ⟨_, he, ds, [], _, [], p, [], hW', ?_, ?_, ?_, hb.frame _, fun h => by cases h⟩
  · rw [List.append_nil, hs, hres]
    exact ⟨[], [], shut_bool htb true, rfl, rfl⟩
  · rw [List.append_nil, hs]
    refine trodAll_carry hlo hb (fun t ht => ?_) hT (fun x hx => by simpa using hW'.lt x (List.mem_append_left _ hx))
    have := List.all_eq_true.1 hrd t ht
    simpa using this
  · rw [List.append_nil, hs, hvars]
    rfl

/-- The length of a slice that is a struct's first field, by its weight. -/
theorem first_slice_le {t e ts : TypeId} {fs : Array Field} {f0 : Field} {v : Value} {d : DataW H} {ps : List MemPlace} {w : World} {G : Gh} {x : Bool} {rows r : List D} (ht : P.underlying t = some (.struct fs)) (hf : fs[0]? = some f0)
    (ho : f0.offset = 0) (hft : f0.type = ts) (hs : P.underlying ts = some (.slice e)) (hc : P.cellsOf ts = 1) (h : DataW.Trod enc P w 0 (fun _ => true) true t v d ps) (hV : V G w v (.agg (.sl x rows :: r)))
    (hz : ∀ n ∈ d.weights P t, n ≤ reachBytes) : rows.length * P.bytesOf e ≤ reachBytes := by
  obtain ⟨n, hn⟩ := h
  obtain ⟨xs, m, rfl, hx, _, hl, hg⟩ := DataW.trod_struct ht hn
  cases hV with
  | @agg cs _ hsz hvs =>
    have h0 := hg 0 f0 hf
    rw [ho, hft, hc] at h0
    have hcs : 0 < cs.size := by rw [hsz]; simp
    have hcell : ((Value.agg cs).cells.toList.drop 0).take 1 = [cs[0]] := by
      simp only [Value.cells, List.drop_zero]
      obtain ⟨l⟩ := cs
      cases l with
      | nil => simp at hcs
      | cons a l => rfl
    rw [hcell] at h0
    have hv0 := hvs 0 cs[0] _ (by simp [hcs]) rfl
    have hfs : 0 < fs.size := (Array.getElem?_eq_some_iff.1 hf).1
    have hxs : 0 < xs.length := by omega
    rw [List.getElem?_eq_getElem hxs] at h0
    rcases DataW.trod_slice hs h0 with ⟨hnil, _⟩ | ⟨a, len, cap, elems, rest, q, _, hcs0, hx0, _, _, _, hel, _⟩
    · have hv : cs[0] = .slice none 0 0 := by simpa using hnil
      rw [hv] at hv0
      cases hv0
      simp
    · have hv : cs[0] = .slice (some a) len cap := by simpa using hcs0
      rw [hv] at hv0
      have hlen : rows.length = len := by
        cases hv0 with
        | esl => rfl
        | sl _ h1 => exact h1.symm
      have hw : (elems.length + rest.length) * P.bytesOf e ∈ d.weights P t := by
        cases hx
        unfold DataW.weights
        rw [ht]
        obtain ⟨l⟩ := fs
        cases l with
        | nil => simp at hfs
        | cons g l =>
          have hg0 : g = f0 := by simpa using hf
          subst hg0
          cases xs with
          | nil => simp at hxs
          | cons y ys =>
            simp only [List.map_cons, DataW.weightsEach]
            refine List.mem_append_left _ ?_
            simp only [List.getElem_cons_zero] at hx0
            rw [hx0, hft]
            unfold DataW.weights
            rw [hs]
            simp
      have := hz _ hw
      rw [hlen, ← hel]
      exact Nat.le_trans (Nat.mul_le_mul_right _ (Nat.le_add_right _ _)) this
end Go.Ab

namespace Go.Proofs.T
open Go Go.Ab Go.RowKit

/-! # What the arguments denote: nodes and declarations; how long a program is at most -/

variable {H : Type} {enc : TypeId × Value → H} {w : World}
theorem opNd (n : Nat) : Opens enc Tryz.prog w 51 ndC okNd2 n := by
  cases n with
  | zero => exact Opens.zero
  | succ n =>
    intro cs x h
    obtain ⟨b, _, s0⟩ := open_at 0 (show fieldAt Tryz.prog 51 0 = some (4, 0) by kernel_rfl) h (opens_bool (by kernel_rfl) n)
    obtain ⟨nm, k1, s1⟩ := open_at 1 (show fieldAt Tryz.prog 51 1 = some (9, 1) by kernel_rfl) h (opStr n)
    obtain ⟨i, k2, s2⟩ := open_at 2 (show fieldAt Tryz.prog 51 2 = some (3, 2) by kernel_rfl) h (opInt n)
    exact ⟨⟨b, nm, i⟩, ⟨k1, k2⟩, (open_len (by kernel_rfl) h).trans (by kernel_rfl), (s0.app s1 rfl).app s2 rfl⟩
set_option maxRecDepth 100000
variable {b0 : Nat} {v : Value} {d : DataW H} {ps : List MemPlace}
theorem argNd (hval : Value.okWide Tryz.prog w .any b0 51 v) (h : DataW.Trod enc Tryz.prog w 0 (fun _ => true) true 51 v d ps) : ∃ s, okNd2 s ∧ V (G0 w) w v (encNd s) := open_agg (by kernel_rfl) opNd hval h
theorem argDe (hval : Value.okWide Tryz.prog w .any b0 42 v) (h : DataW.Trod enc Tryz.prog w 0 (fun _ => true) true 42 v d ps) : ∃ s, okDe s ∧ V (G0 w) w v (encDe s) := open_agg (by kernel_rfl) opDe hval h
theorem sizedPr {p : Prg} (h : DataW.Trod enc Tryz.prog w 0 (fun _ => true) true 30 v d ps) (hV : V (G0 w) w v (encPr p)) (hz : ∀ n ∈ d.weights Tryz.prog 30, n ≤ reachBytes) : p.decls.length + 1 ≤ 359024204978 := by
  have h1 := first_slice_le (ts := 22) (e := 42) Tryz.underlying30 rfl rfl rfl (by kernel_rfl) (by kernel_rfl) h hV hz
  rw [show Tryz.prog.bytesOf 42 = 392 by kernel_rfl, List.length_map] at h1
  unfold reachBytes at h1
  omega
def zNode : Value := .agg #[.bool false, .string ByteArray.empty, .int .i64 0]
def zDecl : Value := .agg #[.int .i64 0, .string ByteArray.empty, .slice none 0 0, .slice none 0 0, .slice none 0 0, .string ByteArray.empty, .slice none 0 0, .string ByteArray.empty, .slice none 0 0, .slice none 0 0, .string ByteArray.empty, .slice none 0 0, .int .i64 0, .int .i64 0, .int .i64 0, .string ByteArray.empty, .string ByteArray.empty, .slice none 0 0, .int .i64 0, .slice none 0 0, .slice none 0 0, .int .i64 0, .int .i64 0]
end Go.Proofs.T


namespace Go.Proofs.YtjahdmpghjhgjaaGreatDoor
open Go Go.Ab Go.RowKit Go.ChangeShapes Go.WideShapes Go.Proofs.T

theorem own : ownKnob Tryz.prog.godebug = none := by kernel_rfl
theorem laidOut : laidOutB Tryz.prog = true := by kernel_rfl
theorem isBool : Tryz.prog.underlying 4 = some .bool := by kernel_rfl

def laid : List (String × DataW Unit) := [("math/bits.deBruijn32tab", Rows.laid_math_bits_deBruijn32tab), ("math/bits.deBruijn64tab", Rows.laid_math_bits_deBruijn64tab), ("internal/strconv.uint64pow10", Rows.laid_internal_strconv_uint64pow10)]
theorem laid_met (os : Os) (args : Array Value) : laidMetH Tryz.prog laid ((World.doorLaid Tryz.prog 400 os).forCall (fun _ _ => 0) ⟨#[], args, []⟩).memory :=
  laidMetH_of_parts3 (fuel := 8) (laidMet_of_run3 8 (by kernel_rfl) (by kernel_rfl) (by kernel_rfl)) (by kernel_rfl) (by kernel_rfl)
theorem laid_tab {W : World} (h : laidMetH Tryz.prog laid W) : E.A W := by
  rw [MakeChecks.laidMetH_plain _ _ _ (by kernel_rfl)] at h
  have h2 : laidMet Tryz.prog [("internal/strconv.uint64pow10", Lib.tabData .u64 Lib.pow10Tab)] W := h.filter (fun x => x.1 == "internal/strconv.uint64pow10")
  exact Lib.tabIs_of_head (g := 0) (t := 187) (e := 160) (n := 20) (by kernel_rfl) (by kernel_rfl) (by kernel_rfl) (by kernel_rfl) (by kernel_rfl) (by kernel_rfl) h2

set_option maxRecDepth 100000 in
theorem flowMatchesReference_lifted (os : Os) (started : os.Started) (H : Type) (enc : TypeId × Value → H) :
    ReturnsInHanded {} Tryz.checked os 3 .any (fun w args => (Rows.flowMatchesReferenceSpec.pre enc Tryz.prog Tryz.f3 [] false w args ∧ laidMetH Tryz.prog laid w) ∧ sizedMet enc Tryz.prog Tryz.f3 (OpenSpec.ofChange Rows.flowMatchesReferenceSpec) false w args)
      (Rows.flowMatchesReferenceSpec.post enc Tryz.prog Tryz.f3 false true false false) :=
  lifted (C := Tryz.checked) (E := E) rfl (fun _ h => laid_tab h) own started (by kernel_rfl) Tryz.func3
    (ChangeSpec.witness_shaped (enc := enc) (C := Tryz.checked) (os := os) (X := fun w _ => laidMetH Tryz.prog laid w) false (World.doorLaid Tryz.prog 400 os) #[zPrg, .int .i64 0] 8 rfl (World.shaped_of_RefB (by kernel_rfl) (by kernel_rfl)) (by kernel_rfl) (by kernel_rfl) (by kernel_rfl) (laid_met os _))
    rfl (by kernel_rfl) isBool laidOut (by kernel_rfl) (fun W base args ds p hval hA => by
      rw [show Tryz.f3.params.toList = [30, 3] from rfl] at hA
      rw [show Tryz.f3.params = #[30, 3] from rfl] at hval
      obtain ⟨v0, v1, d0, d1, p0, p1, rfl, rfl, rfl, h0, h1⟩ := trodAll_two hA
      obtain ⟨a0, k0, q0⟩ := argPr (hval 0 30 v0 rfl rfl) h0
      obtain ⟨a1, k1, q1⟩ := argInt (hval 1 3 v1 rfl rfl) h1
      exact ⟨⟨_, .two q0 q1, fun g d => flowRef_calls a0 k0 a1 g d⟩, rfl⟩)

theorem flowMatchesReference_holds : Rows.FlowMatchesReferenceSaid :=
  OpenClaim.holds_of_wide 3 Tryz.f3 rfl rfl rfl rfl rfl rfl rfl ⟨rfl, rfl, rfl, rfl, rfl⟩ rfl rfl rfl rfl rfl (by kernel_rfl) Tryz.func3 (by kernel_rfl)
    (of_decide_eq_true (by kernel_rfl)) (by unfold Func.isWrapper; rw [if_neg (of_decide_eq_false (by kernel_rfl))]; exact ⟨rfl, rfl⟩)
    (fun os started H enc _ => flowMatchesReference_lifted os started H enc)

set_option maxRecDepth 100000 in
theorem flowNodes_lifted (os : Os) (started : os.Started) (H : Type) (enc : TypeId × Value → H) :
    ReturnsInHanded {} Tryz.checked os 4 .any (fun w args => (Rows.flowNodesSpec.pre enc Tryz.prog Tryz.f4 [] false w args ∧ laidMetH Tryz.prog laid w) ∧ sizedMet enc Tryz.prog Tryz.f4 (OpenSpec.ofChange Rows.flowNodesSpec) false w args)
      (Rows.flowNodesSpec.post enc Tryz.prog Tryz.f4 false true false false) :=
  lifted (C := Tryz.checked) (E := E) rfl (fun _ h => laid_tab h) own started (by kernel_rfl) Tryz.func4
    (ChangeSpec.witness_shaped (enc := enc) (C := Tryz.checked) (os := os) (X := fun w _ => laidMetH Tryz.prog laid w) false (World.doorLaid Tryz.prog 400 os) #[zPrg, zNode, zNode] 8 rfl (World.shaped_of_RefB (by kernel_rfl) (by kernel_rfl)) (by kernel_rfl) (by kernel_rfl) (by kernel_rfl) (laid_met os _))
    rfl (by kernel_rfl) isBool laidOut (by kernel_rfl) (fun W base args ds p hval hA => by
      rw [show Tryz.f4.params.toList = [30, 51, 51] from rfl] at hA
      rw [show Tryz.f4.params = #[30, 51, 51] from rfl] at hval
      obtain ⟨v0, v1, v2, d0, d1, d2, p0, p1, p2, rfl, rfl, rfl, h0, h1, h2⟩ := trodAll_three hA
      obtain ⟨a0, k0, q0⟩ := argPr (hval 0 30 v0 rfl rfl) h0
      obtain ⟨a1, k1, q1⟩ := argNd (hval 1 51 v1 rfl rfl) h1
      obtain ⟨a2, k2, q2⟩ := argNd (hval 2 51 v2 rfl rfl) h2
      exact ⟨⟨_, .three q0 q1 q2, fun g d => flowNodes_calls a0 k0 a1 a2 k1 k2 g d⟩, rfl⟩)

theorem flowNodes_holds : Rows.FlowNodesSaid :=
  OpenClaim.holds_of_wide 4 Tryz.f4 rfl rfl rfl rfl rfl rfl rfl ⟨rfl, rfl, rfl, rfl, rfl⟩ rfl rfl rfl rfl rfl (by kernel_rfl) Tryz.func4 (by kernel_rfl)
    (of_decide_eq_true (by kernel_rfl)) (by unfold Func.isWrapper; rw [if_neg (of_decide_eq_false (by kernel_rfl))]; exact ⟨rfl, rfl⟩)
    (fun os started H enc _ => flowNodes_lifted os started H enc)

set_option maxRecDepth 100000 in
theorem flowAdds_lifted (os : Os) (started : os.Started) (H : Type) (enc : TypeId × Value → H) :
    ReturnsInHanded {} Tryz.checked os 5 .any (fun w args => (Rows.flowAddsSpec.pre enc Tryz.prog Tryz.f5 [] false w args ∧ laidMetH Tryz.prog laid w) ∧ sizedMet enc Tryz.prog Tryz.f5 (OpenSpec.ofChange Rows.flowAddsSpec) false w args)
      (Rows.flowAddsSpec.post enc Tryz.prog Tryz.f5 false true false false) :=
  lifted (C := Tryz.checked) (E := E) rfl (fun _ h => laid_tab h) own started (by kernel_rfl) Tryz.func5
    (ChangeSpec.witness_shaped (enc := enc) (C := Tryz.checked) (os := os) (X := fun w _ => laidMetH Tryz.prog laid w) false (World.doorLaid Tryz.prog 400 os) #[zPrg] 8 rfl (World.shaped_of_RefB (by kernel_rfl) (by kernel_rfl)) (by kernel_rfl) (by kernel_rfl) (by kernel_rfl) (laid_met os _))
    rfl (by kernel_rfl) isBool laidOut (by kernel_rfl) (fun W base args ds p hval hA => by
      rw [show Tryz.f5.params.toList = [30] from rfl] at hA
      rw [show Tryz.f5.params = #[30] from rfl] at hval
      obtain ⟨v0, d0, rfl, rfl, h0⟩ := trodAll_one hA
      obtain ⟨a0, k0, q0⟩ := argPr (hval 0 30 v0 rfl rfl) h0
      exact ⟨⟨_, .one1 q0, fun g d => flowAdds_calls a0 k0 g d⟩, rfl⟩)

theorem flowAdds_holds : Rows.FlowAddsSaid :=
  OpenClaim.holds_of_wide 5 Tryz.f5 rfl rfl rfl rfl rfl rfl rfl ⟨rfl, rfl, rfl, rfl, rfl⟩ rfl rfl rfl rfl rfl (by kernel_rfl) Tryz.func5 (by kernel_rfl)
    (of_decide_eq_true (by kernel_rfl)) (by unfold Func.isWrapper; rw [if_neg (of_decide_eq_false (by kernel_rfl))]; exact ⟨rfl, rfl⟩)
    (fun os started H enc _ => flowAdds_lifted os started H enc)

set_option maxRecDepth 100000 in
theorem flowPlain_lifted (os : Os) (started : os.Started) (H : Type) (enc : TypeId × Value → H) :
    ReturnsInHanded {} Tryz.checked os 6 .any (fun w args => (Rows.flowPlainSpec.pre enc Tryz.prog Tryz.f6 [] false w args ∧ laidMetH Tryz.prog laid w) ∧ sizedMet enc Tryz.prog Tryz.f6 (OpenSpec.ofChange Rows.flowPlainSpec) false w args)
      (Rows.flowPlainSpec.post enc Tryz.prog Tryz.f6 false true false false) :=
  lifted (C := Tryz.checked) (E := E) rfl (fun _ h => laid_tab h) own started (by kernel_rfl) Tryz.func6
    (ChangeSpec.witness_shaped (enc := enc) (C := Tryz.checked) (os := os) (X := fun w _ => laidMetH Tryz.prog laid w) false (World.doorLaid Tryz.prog 400 os) #[zPrg] 8 rfl (World.shaped_of_RefB (by kernel_rfl) (by kernel_rfl)) (by kernel_rfl) (by kernel_rfl) (by kernel_rfl) (laid_met os _))
    rfl (by kernel_rfl) isBool laidOut (by kernel_rfl) (fun W base args ds p hval hA => by
      rw [show Tryz.f6.params.toList = [30] from rfl] at hA
      rw [show Tryz.f6.params = #[30] from rfl] at hval
      obtain ⟨v0, d0, rfl, rfl, h0⟩ := trodAll_one hA
      obtain ⟨a0, k0, q0⟩ := argPr (hval 0 30 v0 rfl rfl) h0
      exact ⟨⟨_, .one1 q0, fun g d => flowPlain_calls a0 k0 g d⟩, rfl⟩)

theorem flowPlain_holds : Rows.FlowPlainSaid :=
  OpenClaim.holds_of_wide 6 Tryz.f6 rfl rfl rfl rfl rfl rfl rfl ⟨rfl, rfl, rfl, rfl, rfl⟩ rfl rfl rfl rfl rfl (by kernel_rfl) Tryz.func6 (by kernel_rfl)
    (of_decide_eq_true (by kernel_rfl)) (by unfold Func.isWrapper; rw [if_neg (of_decide_eq_false (by kernel_rfl))]; exact ⟨rfl, rfl⟩)
    (fun os started H enc _ => flowPlain_lifted os started H enc)

set_option maxRecDepth 100000 in
theorem flowMore_lifted (os : Os) (started : os.Started) (H : Type) (enc : TypeId × Value → H) :
    ReturnsInHanded {} Tryz.checked os 7 .any (fun w args => (Rows.flowMoreSpec.pre enc Tryz.prog Tryz.f7 [] false w args ∧ laidMetH Tryz.prog laid w) ∧ sizedMet enc Tryz.prog Tryz.f7 (OpenSpec.ofChange Rows.flowMoreSpec) false w args)
      (Rows.flowMoreSpec.post enc Tryz.prog Tryz.f7 false true false false) :=
  lifted_sized (C := Tryz.checked) (E := E) rfl (fun _ h => laid_tab h) own started (by kernel_rfl) Tryz.func7
    (ChangeSpec.witness_shaped (enc := enc) (C := Tryz.checked) (os := os) (X := fun w _ => laidMetH Tryz.prog laid w) false (World.doorLaid Tryz.prog 400 os) #[zPrg, zDecl] 8 rfl (World.shaped_of_RefB (by kernel_rfl) (by kernel_rfl)) (by kernel_rfl) (by kernel_rfl) (by kernel_rfl) (laid_met os _))
    rfl (by kernel_rfl) isBool laidOut (by kernel_rfl) (fun W base args ds p hval hA hz => by
      rw [show Tryz.f7.params.toList = [30, 42] from rfl] at hA
      rw [show Tryz.f7.params = #[30, 42] from rfl] at hval
      rw [show Tryz.f7.params.toList = [30, 42] from rfl] at hz
      obtain ⟨v0, v1, d0, d1, p0, p1, rfl, rfl, rfl, h0, h1⟩ := trodAll_two hA
      obtain ⟨a0, k0, q0⟩ := argPr (hval 0 30 v0 rfl rfl) h0
      obtain ⟨a1, k1, q1⟩ := argDe (hval 1 42 v1 rfl rfl) h1
      exact ⟨⟨_, .two q0 q1, fun g d => flowMore_calls a0 a1 k0 k1 (sizedPr h0 q0 fun n hn => hz n (List.mem_append_left _ hn)) g d⟩, rfl⟩)

theorem flowMore_holds : Rows.FlowMoreSaid :=
  OpenClaim.holds_of_wide 7 Tryz.f7 rfl rfl rfl rfl rfl rfl rfl ⟨rfl, rfl, rfl, rfl, rfl⟩ rfl rfl rfl rfl rfl (by kernel_rfl) Tryz.func7 (by kernel_rfl)
    (of_decide_eq_true (by kernel_rfl)) (by unfold Func.isWrapper; rw [if_neg (of_decide_eq_false (by kernel_rfl))]; exact ⟨rfl, rfl⟩)
    (fun os started H enc _ => flowMore_lifted os started H enc)

end Go.Proofs.YtjahdmpghjhgjaaGreatDoor

