/- A part of the proof, under no conditions of its own: YC. -/
import Derived.Test.YtjhencaobpihnaaDoorYB
namespace Go.Proofs.T
open Go Go.Ab Go.RowKit

theorem look_some {ns : List Str} {us : List Ty} {n : Str} {i : Nat} (h : ns.findIdx? (isS n) = some i) (hi : i < us.length) : look ns us n = some us[i] := by simp [look, h, hi]
theorem look_none {ns : List Str} {us : List Ty} {n : Str} (h : ns.findIdx? (isS n) = none) : look ns us n = none := by simp [look, h]
theorem look_past {ns : List Str} {us : List Ty} {n : Str} {i : Nat} (h : ns.findIdx? (isS n) = some i) (hi : ¬ i < us.length) : look ns us n = none := by simp [look, h]; omega
theorem substTy_var {ns : List Str} {us : List Ty} {t u : Ty} (h0 : t.args.length = 0) (h : look ns us t.name = some u) : substTy ns us t = .mk u.name u.args t.pos := by
  rw [substTy_eq, h]; simp [List.eq_nil_of_length_eq_zero h0]
theorem substTy_free {ns : List Str} {us : List Ty} {t : Ty} (h : t.args.length = 0 → look ns us t.name = none) : substTy ns us t = .mk t.name (t.args.map (substTy ns us)) t.pos := by
  rw [substTy_eq]
  cases ha : t.args with
  | nil => rw [h (by simp [ha])]; rfl
  | cons x y => rfl

theorem substTy_stay {ns : List Str} {us : List Ty} {t : Ty} (h0 : t.args.length = 0) (h : look ns us t.name = none) : substTy ns us t = t := by
  rw [substTy_free fun _ => h]
  conv => rhs; rw [← Ty.eta t]
  simp [List.eq_nil_of_length_eq_zero h0]

end Go.Proofs.T


namespace Go.Proofs.T
open Go Go.Ab Go.RowKit

/-! ## Substituting in signatures -/

def smFm (f : Formal) : Prop := f.name.size ≤ 1000000 ∧ smTy f.bound
def smPa (f : Param) : Prop := f.name.size ≤ 1000000 ∧ smTy f.type
def smSi (s : Sig) : Prop := s.name.size ≤ 1000000 ∧ (s.formals.length ≤ 1000000 ∧ ∀ f ∈ s.formals, smFm f) ∧ (s.params.length ≤ 1000000 ∧ ∀ f ∈ s.params, smPa f) ∧ smTy s.result

def mapFm (f : Ty → Ty) (x : Formal) : Formal := ⟨x.name, f x.bound, x.pos⟩
def mapPa (f : Ty → Ty) (x : Param) : Param := ⟨x.name, f x.type, x.pos⟩
def mapSi (f : Ty → Ty) (s : Sig) : Sig := ⟨s.name, s.formals.map (mapFm f), s.params.map (mapPa f), f s.result, s.pos⟩

/-- A signature whose lists are new. -/
def ownSi (g d : Nat) (s : Sig) : D := .agg [.val (.string s.name), .own ⟨g, d, 1⟩ s.formals.length, .own ⟨g, d, 2⟩ s.params.length, .val (.string s.result.name), .sl false (s.result.args.map encTy), .val (.int .i64 s.result.pos), .val (.int .i64 s.pos)]
def newSi (g d : Nat) (s : Sig) : Sto := [(⟨g, d, 1⟩, .arr 50 5 (s.formals.map encFm)), (⟨g, d, 2⟩, .arr 94 5 (s.params.map encPa))]
def zSi : List D := [.val (.string ByteArray.empty), .val (.slice none 0 0), .val (.slice none 0 0), .val (.string ByteArray.empty), .val (.slice none 0 0), dI 0, dI 0]

theorem mapped_calls (F : Ty → Ty) (f : Nat) (caps : List D) (hF : ∀ x, smTy x → ∀ g d, ACalls E f (encTy x :: caps) [] g d (encTy (F x)) []) (s : Sig) (hs : smSi s) (g d : Nat) :
    ACalls E 46 [encSi s, .func (.func f) [] caps] [] g d (ownSi g d (mapSi F s)) (newSi g d (mapSi F s)) := by
  obtain ⟨h1, ⟨h2, h3⟩, ⟨h4, h5⟩, h6⟩ := hs
  generalize hr : ownSi g d (mapSi F s) = R
  generalize hw : newSi g d (mapSi F s) = W
  refine acalls_of_awp (fn := Tryd.f46) (N := 64) Tryd.call46 Tryd.func46 rfl rfl (by simp) ?_
  simp only [go_sem]
  refine awp_seq_k (fun K1 hK1 => ?_)
  refine awp_plain 2 (by kernel_rfl) rfl (fun g0 hg0 => ?_)
  simp only [go_sem]
  refine hK1 _ ?_
  refine awp_seq_k (fun K2 hK2 => ?_)
  refine awp_any 10 (by kernel_rfl) (by kernel_rfl) rfl (fun g1 hg1 ops1 KR1 hops1 hKR1 => ?_)
  refine qrun_eval 5 hops1 ?_
  simp only [go_sem]
  refine qrun_pure hops1 rfl rfl rfl (hF _ h6 _ _) (CoL.refl _) rfl ?_
  refine qrun_last 4 hops1 ?_
  simp only [go_sem]
  refine aops_last 1 hops1 ?_
  simp only [go_sem]
  refine hKR1 _ ?_
  refine hK2 _ ?_
  refine awp_seq_k (fun K3 hK3 => ?_)
  refine awp_seq_k (fun K4 hK4 => ?_)
  refine awp_plain 4 (by kernel_rfl) rfl (fun g2 hg2 => ?_)
  simp only [go_sem]
  refine hK4 _ ?_
  refine awp_block ?_
  refine awp_nil_box ⟨g1, 5, 0⟩ 1 50 5 ?_
  simp only [go_sem]
  intro gn hgn
  have hn : gn ≠ g1 := fresh_g hgn 5 0 (by simp [go_sem])
  have hn0 : gn ≠ g0 := fresh_g hgn 2 0 (by simp [go_sem])
  refine awp_loop (fun m st => ∃ k a i, k ≤ s.formals.length ∧ m = s.formals.length - k ∧ a ≠ g0 ∧ a ≠ g1 ∧
      Le { env := [(1, .func (.func f) [] caps), (2, .ptr ⟨g0, 2, 0⟩ 0), (4, .ptr ⟨g0, 4, 0⟩ 0), (5, .ptr ⟨g1, 5, 0⟩ 0), (20, slFm s.formals), (21, dN s.formals.length), (22, dN k)],
           σ := [(⟨g0, 2, 0⟩, .box 42 (siC s)), (⟨g0, 4, 0⟩, .box 42 zSi),
             (⟨g1, 5, 0⟩, .box 42 [.val (.string s.name), .own ⟨a, i, 0⟩ k, .val (.slice none 0 0), .val (.string (F s.result).name), .sl false ((F s.result).args.map encTy), .val (.int .i64 (F s.result).pos), .val (.int .i64 s.pos)]),
             (⟨a, i, 0⟩, .arr 50 5 ((s.formals.take k).map fun f => encFm (mapFm F f)))] } st) s.formals.length ?_ ?_
  · refine ⟨0, gn, 0, Nat.zero_le _, rfl, hn0, hn, le_of ?_⟩
    simp only [go_sem, zSi, hn, hn0, Ne.symm hn, Ne.symm hn0]
    trivial
  · rintro m st ⟨k, a, i, hk, rfl, ha0, ha1, hle⟩
    refine awp_keep hle ?_
    clear hle
    by_cases hlt : k < s.formals.length
    · refine awp_seq_k (fun K5 hK5 => ?_)
      refine awp_plain 1 (by kernel_rfl) rfl (fun g3 hg3 => ?_)
      simp only [go_sem, hlt, zSi, mapFm]
      refine hK5 _ ?_
      refine awp_seq_k (fun K6 hK6 => ?_)
      refine awp_t rfl ?_
      refine awp_skip ?_
      refine hK6 _ ?_
      refine awp_seq_k (fun K7 hK7 => ?_)
      refine awp_block ?_
      refine awp_seq_k (fun K8 hK8 => ?_)
      refine awp_plain 4 (by kernel_rfl) rfl (fun g4 hg4 => ?_)
      simp only [go_sem, getM hlt]
      refine hK8 _ ?_
      have hn4_a : g4 ≠ a := fresh_g hg4 i 0 (by simp [go_sem, Ne.symm ha0, Ne.symm ha1])
      have hn4_g0 : g4 ≠ g0 := fresh_g hg4 2 0 (by simp [go_sem])
      have hn4_g1 : g4 ≠ g1 := fresh_g hg4 5 0 (by simp [go_sem])
      refine awp_any 12 (by kernel_rfl) (by kernel_rfl) rfl (fun g5 hg5 ops5 KR5 hops5 hKR5 => ?_)
      refine qrun_eval 7 hops5 ?_
      simp only [go_sem, ha1, Ne.symm hn4_a, Ne.symm hn4_g0, hn4_g1, Ne.symm hn4_g1]
      refine qrun_pure hops5 rfl rfl rfl (hF _ (h3 _ (List.getElem_mem hlt)).2 _ _) (CoL.refl _) rfl ?_
      refine qrun_last 4 hops5 ?_
      simp only [go_sem, Ne.symm hn4_a, Ne.symm hn4_g0, Ne.symm hn4_g1]
      refine aops_eval 0 hops5 ?_
      simp only [go_sem]
      refine aops_app hops5 rfl rfl rfl rfl rfl es31 sz50 by50 ze50 rfl (by decide) ?_
      simp only [go_sem, List.length_take_of_le (Nat.le_of_lt hlt), Ne.symm ha0, Ne.symm ha1, hn4_a]
      first | refine ⟨⟨by omega, by omega⟩, ?_⟩ | skip
      refine aops_last 2 hops5 ?_
      simp only [go_sem, hn4_g1]
      refine hKR5 _ ?_
      refine hK7 _ ?_
      have hn5_g0 : g5 ≠ g0 := fresh_g hg5 2 0 (by simp [go_sem, hn4_g0])
      have hn5_g1 : g5 ≠ g1 := fresh_g hg5 5 0 (by simp [go_sem, hn4_g1])
      refine awp_plain 2 (by kernel_rfl) rfl (fun g6 hg6 => ?_)
      simp only [go_sem, zSi, mapFm]
      try simp (disch := omega) only [wrapN]
      refine ⟨_, ?_, k + 1, g5, 38, hlt, rfl, hn5_g0, hn5_g1, le_of ?_⟩
      · omega
      simp only [go_sem, ← takeM _ hlt, hn4_g0, hn4_g1, hn5_g0, Ne.symm hn5_g0, hn5_g1, Ne.symm hn5_g1]
      omega
    · refine awp_seq_k (fun K9 hK9 => ?_)
      refine awp_plain 1 (by kernel_rfl) rfl (fun g3 hg3 => ?_)
      simp only [go_sem, hlt, zSi]
      refine hK9 _ ?_
      refine awp_seq_k (fun K10 hK10 => ?_)
      refine awp_f rfl ?_
      refine awp_exit ?_
      refine hK3 _ ?_
      refine awp_seq_k (fun K11 hK11 => ?_)
      refine awp_seq_k (fun K12 hK12 => ?_)
      have : k = s.formals.length := by omega
      subst this
      refine awp_plain 4 (by kernel_rfl) rfl (fun g7 hg7 => ?_)
      simp only [go_sem, List.take_length, ha0]
      refine hK12 _ ?_
      refine awp_block ?_
      refine awp_nil_box ⟨g1, 5, 0⟩ 2 94 5 ?_
      simp only [go_sem, ha1]
      intro gm hgm
      have hm : gm ≠ g1 := fresh_g hgm 5 0 (by simp [go_sem])
      have hm0 : gm ≠ g0 := fresh_g hgm 2 0 (by simp [go_sem])
      have hma : gm ≠ a := fresh_g hgm i 0 (by simp [go_sem, Ne.symm ha0, Ne.symm ha1])
      refine awp_loop (fun m st => ∃ k b j, k ≤ s.params.length ∧ m = s.params.length - k ∧ b ≠ g0 ∧ b ≠ g1 ∧ b ≠ a ∧
          Le { env := [(1, .func (.func f) [] caps), (2, .ptr ⟨g0, 2, 0⟩ 0), (4, .ptr ⟨g0, 4, 0⟩ 0), (5, .ptr ⟨g1, 5, 0⟩ 0), (42, slPa s.params), (43, dN s.params.length), (44, dN k)],
               σ := [(⟨g0, 2, 0⟩, .box 42 (siC s)), (⟨g0, 4, 0⟩, .box 42 zSi),
                 (⟨g1, 5, 0⟩, .box 42 [.val (.string s.name), .own ⟨a, i, 0⟩ s.formals.length, .own ⟨b, j, 0⟩ k, .val (.string (F s.result).name), .sl false ((F s.result).args.map encTy), .val (.int .i64 (F s.result).pos), .val (.int .i64 s.pos)]),
                 (⟨b, j, 0⟩, .arr 94 5 ((s.params.take k).map fun f => encPa (mapPa F f))),
                 (⟨a, i, 0⟩, .arr 50 5 (s.formals.map fun f => encFm (mapFm F f)))] } st) s.params.length ?_ ?_
      · refine ⟨0, gm, 0, Nat.zero_le _, rfl, hm0, hm, hma, le_of ?_⟩
        simp only [go_sem, zSi, ha0, ha1, Ne.symm ha0, Ne.symm ha1, zSi, hm, hm0, hma, Ne.symm hm, Ne.symm hm0, Ne.symm hma]
        trivial
      · rintro m st ⟨k, b, j, hk, rfl, hb0, hb1, hba, hle⟩
        refine awp_keep hle ?_
        clear hle
        by_cases hlt : k < s.params.length
        · refine awp_seq_k (fun K13 hK13 => ?_)
          refine awp_plain 1 (by kernel_rfl) rfl (fun g8 hg8 => ?_)
          simp only [go_sem, zSi, encPa, mapPa, hlt]
          refine hK13 _ ?_
          refine awp_seq_k (fun K14 hK14 => ?_)
          refine awp_t rfl ?_
          refine awp_skip ?_
          refine hK14 _ ?_
          refine awp_seq_k (fun K15 hK15 => ?_)
          refine awp_block ?_
          refine awp_seq_k (fun K16 hK16 => ?_)
          refine awp_plain 4 (by kernel_rfl) rfl (fun g9 hg9 => ?_)
          simp only [go_sem, getM hlt, encPa]
          refine hK16 _ ?_
          have hn9_a : g9 ≠ a := fresh_g hg9 i 0 (by simp [go_sem, Ne.symm ha0, Ne.symm ha1, hba])
          have hn9_b : g9 ≠ b := fresh_g hg9 j 0 (by simp [go_sem, Ne.symm hb0, Ne.symm hb1])
          have hn9_g0 : g9 ≠ g0 := fresh_g hg9 2 0 (by simp [go_sem])
          have hn9_g1 : g9 ≠ g1 := fresh_g hg9 5 0 (by simp [go_sem])
          refine awp_any 12 (by kernel_rfl) (by kernel_rfl) rfl (fun g10 hg10 ops10 KR10 hops10 hKR10 => ?_)
          refine qrun_eval 7 hops10 ?_
          simp only [go_sem, ha1, hb1, Ne.symm hn9_a, Ne.symm hn9_b, Ne.symm hn9_g0, hn9_g1, Ne.symm hn9_g1]
          refine qrun_pure hops10 rfl rfl rfl (hF _ (h5 _ (List.getElem_mem hlt)).2 _ _) (CoL.refl _) rfl ?_
          refine qrun_last 4 hops10 ?_
          simp only [go_sem, Ne.symm hn9_a, Ne.symm hn9_b, Ne.symm hn9_g0, Ne.symm hn9_g1]
          refine aops_eval 0 hops10 ?_
          simp only [go_sem]
          refine aops_app hops10 rfl rfl rfl rfl rfl es40 sz94 by94 ze94 rfl (by decide) ?_
          simp only [go_sem, Ne.symm hb0, Ne.symm hb1, Ne.symm hba, List.length_take_of_le (Nat.le_of_lt hlt), hn9_b]
          first | refine ⟨⟨by omega, by omega⟩, ?_⟩ | skip
          refine aops_last 2 hops10 ?_
          simp only [go_sem, ha1, hn9_g1]
          refine hKR10 _ ?_
          refine hK15 _ ?_
          have hn10_g0 : g10 ≠ g0 := fresh_g hg10 2 0 (by simp [go_sem, hn9_g0])
          have hn10_g1 : g10 ≠ g1 := fresh_g hg10 5 0 (by simp [go_sem, hn9_g1])
          have hn10_a : g10 ≠ a := fresh_g hg10 i 0 (by simp [go_sem, Ne.symm ha0, Ne.symm ha1, hba, hn9_a])
          refine awp_plain 2 (by kernel_rfl) rfl (fun g11 hg11 => ?_)
          simp only [go_sem, zSi, encPa, mapPa]
          try simp (disch := omega) only [wrapN]
          refine ⟨_, ?_, k + 1, g10, 60, hlt, rfl, hn10_g0, hn10_g1, hn10_a, le_of ?_⟩
          · omega
          simp only [go_sem, ← takeM _ hlt, ha0, ha1, Ne.symm ha0, Ne.symm ha1, hn9_a, hn9_g0, hn9_g1, hn10_g0, Ne.symm hn10_g0, hn10_g1, Ne.symm hn10_g1, hn10_a, Ne.symm hn10_a]
          omega
        · refine awp_seq_k (fun K17 hK17 => ?_)
          refine awp_plain 1 (by kernel_rfl) rfl (fun g8 hg8 => ?_)
          simp only [go_sem, hlt, zSi, encPa, mapPa]
          refine hK17 _ ?_
          refine awp_seq_k (fun K18 hK18 => ?_)
          refine awp_f rfl ?_
          refine awp_exit ?_
          refine hK11 _ ?_
          refine awp_seq_k (fun K19 hK19 => ?_)
          have : k = s.params.length := by omega
          subst this
          refine awp_plain 2 (by kernel_rfl) rfl (fun g12 hg12 => ?_)
          simp only [go_sem, List.take_length, ha0, ha1, hb0, hb1]
          refine hK19 _ ?_
          refine awp_ret ?_
          subst hr hw
          refine ends_own [⟨a, i, 0⟩, ⟨b, j, 0⟩] rfl ?_
          simp only [go_sem, newSto, newSi, mapSi, List.map_map, ha0, Ne.symm ha0, Ne.symm ha1, hb0, hba, Ne.symm hb0, Ne.symm hb1, Ne.symm hba]
          exact ⟨⟨rfl, rfl⟩, Co.of_eq (by simp [ownSi])⟩

theorem substFun_calls (ns : List Str) (us : List Ty) (hns : ns.length ≤ 1000000) (hus : ∀ x ∈ us, smTy x) (t : Ty) (ht : smTy t) (g d : Nat) :
    ACalls E 47 [encTy t, .eptr [slS ns], .eptr [slTy us]] [] g d (encTy (substTy ns us t)) [] := by
  refine acalls_of_awp (fn := Tryd.f47) (N := 9) Tryd.call47 Tryd.func47 rfl rfl (by simp) ?_
  simp only [go_sem]
  refine awp_seq_k (fun K1 hK1 => ?_)
  refine awp_plain 2 (by kernel_rfl) rfl (fun g0 hg0 => ?_)
  simp only [go_sem]
  refine hK1 _ ?_
  refine awp_seq_k (fun K2 hK2 => ?_)
  refine awp_ops (by kernel_rfl) rfl (fun g1 hg1 ops1 KR1 hops1 hKR1 => ?_)
  refine aops_eval 3 hops1 ?_
  simp only [go_sem]
  refine aops_pure hops1 rfl rfl rfl (subst_calls ns us hns hus t ht _ _) (CoL.refl _) ?_
  refine aops_last 1 hops1 ?_
  simp only [go_sem]
  refine hKR1 _ ?_
  refine hK2 _ ?_
  refine awp_ret ?_
  refine ends_ev rfl ?_
  simp only [go_sem]
  exact Co.refl _

theorem substSig_calls (ns : List Str) (us : List Ty) (hns : ns.length ≤ 1000000) (hus : ∀ x ∈ us, smTy x) (s : Sig) (hs : smSi s) (g d : Nat) :
    ACalls E 32 [encSi s, slS ns, slTy us] [] g d (ownSi g d (mapSi (substTy ns us) s)) (newSi g d (mapSi (substTy ns us) s)) := by
  generalize hr : ownSi g d (mapSi (substTy ns us) s) = R
  generalize hw : newSi g d (mapSi (substTy ns us) s) = W
  refine acalls_of_awp (fn := Tryd.f32) (N := 10) Tryd.call32 Tryd.func32 rfl rfl (by simp) ?_
  simp only [go_sem]
  refine awp_seq_k (fun K1 hK1 => ?_)
  refine awp_plain 4 (by kernel_rfl) rfl (fun g0 hg0 => ?_)
  simp only [go_sem]
  refine hK1 _ ?_
  refine awp_seq_k (fun K2 hK2 => ?_)
  refine awp_still ⟨g0, 4, 0⟩ ?_
  simp only [go_sem]
  refine awp_still ⟨g0, 5, 0⟩ ?_
  simp only [go_sem]
  refine awp_ops (by kernel_rfl) rfl (fun g1 hg1 ops1 KR1 hops1 hKR1 => ?_)
  refine aops_eval 2 hops1 ?_
  simp only [go_sem]
  refine aops_pure hops1 rfl rfl rfl (mapped_calls (substTy ns us) _ [.eptr [slS ns], .eptr [slTy us]] (fun x hx g d => substFun_calls ns us hns hus x hx g d) s hs _ _) (CoL.refl _) ?_
  refine aops_last 1 hops1 ?_
  simp only [go_sem, ownSi, newSi]
  refine hKR1 _ ?_
  refine hK2 _ ?_
  refine awp_ret ?_
  subst hr hw
  refine ends_own [⟨g1, 9, 1⟩, ⟨g1, 9, 2⟩] rfl ?_
  simp only [go_sem, newSto, ownSi, newSi]
  exact Co.refl _

end Go.Proofs.T

