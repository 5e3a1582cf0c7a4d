/- A part of the proof, under no conditions of its own: A12. -/
import Derived.Test.YtjhencaobpihnaaGreatDoorYF
namespace Go.Proofs.T
open Go Go.Ab Go.RowKit

theorem smSi.ok {s : Sig} (h : smSi s) : okSi s := by
  obtain ⟨h1, ⟨h2, h3⟩, ⟨h4, h5⟩, h6⟩ := h
  exact ⟨by omega, ⟨by omega, fun f hf => ⟨by have := (h3 f hf).1; omega, smTy.ok _ (h3 f hf).2⟩⟩, ⟨by omega, fun f hf => ⟨by have := (h5 f hf).1; omega, smTy.ok _ (h5 f hf).2⟩⟩, smTy.ok _ h6⟩


theorem refSig_calls (q : Bool) (s t : Sig) (hs : okSi s) (g d : Nat) : ACalls E 17 [encSi s, encSi t, dB q] [] g d (dB (refSi q s t)) [] := by
  obtain ⟨h1, ⟨h2, h3⟩, ⟨h4, h5⟩, h6⟩ := hs
  refine acalls_of_awp (fn := Tryz.f17) (N := 54) Tryz.call17 Tryz.func17 rfl rfl (by simp) ?_
  simp only [go_sem]
  refine awp_seq_k (fun K1 hK1 => ?_)
  refine awp_plain 3 (by kernel_rfl) rfl (fun g0 hg0 => ?_)
  simp only [go_sem]
  refine hK1 _ ?_
  refine awp_seq_k (fun K2 hK2 => ?_)
  refine awp_seq_k (fun K3 hK3 => ?_)
  by_cases hn : s.name = t.name
  · refine awp_ops (by kernel_rfl) rfl (fun g1 hg1 ops1 KR1 hops1 hKR1 => ?_)
    refine aops_eval 11 hops1 ?_
    simp only [go_sem, hn, decide_true]
    refine aops_pure hops1 rfl rfl rfl (refFormals_calls q _ _ h2 h3 _ _) (CoL.refl _) ?_
    cases hf : allB (refFm q) s.formals t.formals with
    | true =>
      refine aops_eval 8 hops1 ?_
      simp only [go_sem]
      refine aops_pure hops1 rfl rfl rfl (refParams_calls q _ _ h4 h5 _ _) (CoL.refl _) ?_
      cases hp : allB (refPa q) s.params t.params with
      | true =>
        refine aops_eval 7 hops1 ?_
        simp only [go_sem]
        refine aops_pure hops1 rfl rfl rfl (ref04Same_calls _ _ h6 _ _) (CoL.refl _) ?_
        cases hs : same s.result t.result with
        | true =>
          refine aops_last 2 hops1 ?_
          simp only [go_sem, show decide (cmpTy s.result t.result = 0) = true from hs]
          refine hKR1 _ ?_
          refine hK3 _ ?_
          refine awp_f rfl ?_
          refine awp_skip ?_
          refine hK2 _ ?_
          refine awp_seq_k (fun K4 hK4 => ?_)
          cases q with
          | false =>
            refine awp_plain 17 (by kernel_rfl) rfl (fun g3 hg3 => ?_)
            simp only [go_sem]
            refine hK4 _ ?_
            refine awp_ret ?_
            rw [show refSi false s t = true by simp [refSi, hn, hf, hp, hs]]
            refine ends_ev rfl ?_
            simp only [go_sem]
            exact Co.refl _
          | true =>
            by_cases hpo : s.pos = t.pos
            · refine awp_ops (by kernel_rfl) rfl (fun g3 hg3 ops3 KR3 hops3 hKR3 => ?_)
              refine aops_eval 13 hops3 ?_
              simp only [go_sem, hpo, decide_true]
              refine aops_pure hops3 rfl rfl rfl (ref04Equal_calls _ h6 _ _ _) (CoL.refl _) ?_
              refine aops_last 3 hops3 ?_
              simp only [go_sem]
              refine hKR3 _ ?_
              refine hK4 _ ?_
              refine awp_ret ?_
              rw [show refSi true s t = eqTy s.result t.result by simp [refSi, hn, hf, hp, hs, hpo]]
              refine ends_ev rfl ?_
              simp only [go_sem]
              exact Co.refl _
            · refine awp_plain 17 (by kernel_rfl) rfl (fun g3 hg3 => ?_)
              simp only [go_sem, hpo]
              refine hK4 _ ?_
              refine awp_ret ?_
              rw [show refSi true s t = false by simp [refSi, hpo]]
              refine ends_ev rfl ?_
              simp only [go_sem]
              exact Co.refl _
        | false =>
          refine aops_last 2 hops1 ?_
          simp only [go_sem, show decide (cmpTy s.result t.result = 0) = false from hs]
          refine hKR1 _ ?_
          refine hK3 _ ?_
          refine awp_t rfl ?_
          refine awp_seq_k (fun K5 hK5 => ?_)
          refine awp_plain 1 (by kernel_rfl) rfl (fun g2 hg2 => ?_)
          simp only [go_sem]
          refine hK5 _ ?_
          refine awp_ret ?_
          rw [show refSi q s t = false by simp [refSi, hs]]
          refine ends_ev rfl ?_
          simp only [go_sem]
          exact Co.refl _
      | false =>
        refine aops_last 10 hops1 ?_
        simp only [go_sem]
        refine hKR1 _ ?_
        refine hK3 _ ?_
        refine awp_t rfl ?_
        refine awp_seq_k (fun K6 hK6 => ?_)
        refine awp_plain 1 (by kernel_rfl) rfl (fun g2 hg2 => ?_)
        simp only [go_sem]
        refine hK6 _ ?_
        refine awp_ret ?_
        rw [show refSi q s t = false by simp [refSi, hp]]
        refine ends_ev rfl ?_
        simp only [go_sem]
        exact Co.refl _
    | false =>
      refine aops_last 19 hops1 ?_
      simp only [go_sem]
      refine hKR1 _ ?_
      refine hK3 _ ?_
      refine awp_t rfl ?_
      refine awp_seq_k (fun K7 hK7 => ?_)
      refine awp_plain 1 (by kernel_rfl) rfl (fun g2 hg2 => ?_)
      simp only [go_sem]
      refine hK7 _ ?_
      refine awp_ret ?_
      rw [show refSi q s t = false by simp [refSi, hf]]
      refine ends_ev rfl ?_
      simp only [go_sem]
      exact Co.refl _
  · refine awp_plain 31 (by kernel_rfl) rfl (fun g1 hg1 => ?_)
    simp only [go_sem, hn]
    refine hK3 _ ?_
    refine awp_t rfl ?_
    refine awp_seq_k (fun K8 hK8 => ?_)
    refine awp_plain 1 (by kernel_rfl) rfl (fun g2 hg2 => ?_)
    simp only [go_sem]
    refine hK8 _ ?_
    refine awp_ret ?_
    rw [show refSi q s t = false by simp [refSi, hn]]
    refine ends_ev rfl ?_
    simp only [go_sem]
    exact Co.refl _

theorem smCanon (s : Sig) (hs : smSi s) : smSi (canonSi s) := by
  obtain ⟨h1, ⟨h2, h3⟩, ⟨h4, h5⟩, h6⟩ := hs
  have hsub : ∀ t, smTy t → smTy (ownF s t) := fun t ht => smTy_subst (smLoc h2) t ht
  refine ⟨h1, ⟨by simpa [canonSi] using h2, fun f hf => ?_⟩, ⟨by simpa [canonSi] using h4, fun f hf => ?_⟩, hsub _ h6⟩
  · simp only [canonSi, List.mem_mapIdx, List.getElem_map, List.length_map] at hf
    obtain ⟨i, hi, rfl⟩ := hf
    have := decS_size i (by omega)
    have h : (localS i).size = 1 + (decS i).size := by simp [localS, ByteArray.size_append]; rfl
    exact ⟨by show (localS i).size ≤ _; omega, hsub _ (h3 _ (List.getElem_mem _)).2⟩
  · simp only [canonSi, List.mem_map] at hf
    obtain ⟨_, ⟨x, hx, rfl⟩, rfl⟩ := hf
    exact ⟨by show (0 : Nat) ≤ _; omega, hsub _ (h5 x hx).2⟩

def alike (s t : Sig) : Bool := sameSi (canonSi s) (canonSi t)

theorem alike_calls (s t : Sig) (hs : smSi s) (ht : smSi t) (g d : Nat) : ACalls E 44 [encSi s, encSi t] [] g d (dB (alike s t)) [] := by
  refine acalls_of_awp (fn := Tryz.f44) (N := 10) Tryz.call44 Tryz.func44 rfl rfl (by simp) ?_
  simp only [go_sem]
  refine awp_seq_k (fun K1 hK1 => ?_)
  refine awp_plain 3 (by kernel_rfl) rfl (fun g0 hg0 => ?_)
  simp only [go_sem]
  refine hK1 _ ?_
  refine awp_seq_k (fun K2 hK2 => ?_)
  refine awp_any 5 (by kernel_rfl) (by kernel_rfl) rfl (fun g1 hg1 ops1 KR1 hops1 hKR1 => ?_)
  refine qrun_eval 1 hops1 ?_
  simp only [go_sem]
  refine qrun_pure hops1 rfl rfl rfl (canonF_calls s hs _ _) (CoL.refl _) rfl ?_
  refine qrun_eval 1 hops1 ?_
  simp only [go_sem]
  refine qrun_pure hops1 rfl rfl rfl (canonF_calls t ht _ _) (CoL.refl _) rfl ?_
  refine qrun_pure hops1 rfl rfl rfl (sameSig_calls _ _ (smCanon s hs).ok _ _) (CoL.refl _) rfl ?_
  refine qrun_last 0 hops1 ?_
  simp only [go_sem]
  refine aops_last 1 hops1 ?_
  simp only [go_sem]
  refine hKR1 _ ?_
  refine hK2 _ ?_
  refine awp_ret ?_
  refine ends_ev rfl ?_
  simp only [go_sem]
  exact Co.refl _

theorem allB_congr {α : Type} {p q : α → α → Bool} (h : ∀ a b, p a b = q a b) : ∀ x y, allB p x y = allB q x y
  | [], [] => rfl
  | [], _ :: _ => rfl
  | _ :: _, [] => rfl
  | a :: x, b :: y => by simp only [allB, h, allB_congr h x y]

theorem refSi_false (s t : Sig) : refSi false s t = sameSi s t := by
  simp only [refSi, sameSi, Bool.not_false, Bool.true_or, Bool.and_true]
  rw [allB_congr (p := refFm false) (q := sameFm) (fun a b => by simp [refFm, sameFm]), allB_congr (p := refPa false) (q := samePa) (fun a b => by simp [refPa, samePa])]

theorem refAlike_calls (s t : Sig) (hs : smSi s) (ht : smSi t) (g d : Nat) : ACalls E 43 [encSi s, encSi t] [] g d (dB (alike s t)) [] := by
  refine acalls_of_awp (fn := Tryz.f43) (N := 10) Tryz.call43 Tryz.func43 rfl rfl (by simp) ?_
  simp only [go_sem]
  refine awp_seq_k (fun K1 hK1 => ?_)
  refine awp_plain 3 (by kernel_rfl) rfl (fun g0 hg0 => ?_)
  simp only [go_sem]
  refine hK1 _ ?_
  refine awp_seq_k (fun K2 hK2 => ?_)
  refine awp_any 5 (by kernel_rfl) (by kernel_rfl) rfl (fun g1 hg1 ops1 KR1 hops1 hKR1 => ?_)
  refine qrun_eval 1 hops1 ?_
  simp only [go_sem]
  refine qrun_pure hops1 rfl rfl rfl (refCanonF_calls s hs _ _) (CoL.refl _) rfl ?_
  refine qrun_eval 1 hops1 ?_
  simp only [go_sem]
  refine qrun_pure hops1 rfl rfl rfl (refCanonF_calls t ht _ _) (CoL.refl _) rfl ?_
  refine qrun_pure hops1 rfl rfl rfl (refSig_calls false _ _ (smCanon s hs).ok _ _) (CoL.refl _) rfl ?_
  refine qrun_last 0 hops1 ?_
  simp only [go_sem]
  refine aops_last 1 hops1 ?_
  simp only [go_sem]
  refine hKR1 _ ?_
  refine hK2 _ ?_
  refine awp_ret ?_
  rw [refSi_false]
  refine ends_ev rfl ?_
  simp only [go_sem]
  exact Co.refl _

def applySi (s : Sig) (us : List Ty) : Sig := mapSi (substTy (s.formals.map (·.name)) us) s
def zeroTy : Ty := .mk ByteArray.empty [] 0
def zeroSi : Sig := ⟨ByteArray.empty, [], [], zeroTy, 0⟩
theorem coZeroSi : Co (.agg zSi) (encSi zeroSi) := .agg (.cons (.refl _) (.cons (.nil _) (.cons (.nil _) (.cons (.refl _) (.cons (.nil _) (.cons (.refl _) (.cons (.refl _) .nil)))))))
theorem coZeroTy : Co (.agg [.val (.string ByteArray.empty), .val (.slice none 0 0), dI 0]) (encTy zeroTy) := by
  rw [encTy_agg]
  exact .agg (.cons (.refl _) (.cons (.nil _) (.cons (.refl _) .nil)))

theorem find_calls (l : List Formal) (t : Ty) (hl : l.length ≤ 9223372036854775807) (ht : okTy t) (g d : Nat) :
    ACalls E 18 [slFm l, encTy t] [] g d (dI (if t.args.length = 0 then optI (l.findIdx? fun f => isS t.name f.name) else -1)) [] := by
  have hlen := ((okTy_iff t).1 ht).2.1
  refine acalls_of_awp (fn := Tryz.f18) (N := 27) Tryz.call18 Tryz.func18 rfl rfl (by simp) ?_
  simp only [go_sem]
  refine awp_seq_k (fun K1 hK1 => ?_)
  refine awp_plain 2 (by kernel_rfl) rfl (fun g0 hg0 => ?_)
  simp only [go_sem]
  refine hK1 _ ?_
  refine awp_seq_k (fun K2 hK2 => ?_)
  refine awp_seq_k (fun K3 hK3 => ?_)
  refine awp_plain 1 (by kernel_rfl) rfl (fun g1 hg1 => ?_)
  simp only [go_sem]
  refine hK3 _ ?_
  refine awp_block ?_
  by_cases h0 : t.args.length = 0
  · refine awp_loop (fun m s => ∃ k, k ≤ l.length ∧ m = l.length - k ∧ (l.findIdx? fun f => isS t.name f.name) = ((l.drop k).findIdx? fun f => isS t.name f.name).map (· + k) ∧
        Le { env := [(0, slFm l), (3, .ptr ⟨g0, 3, 0⟩ 0), (5, dN k)], σ := [(⟨g0, 3, 0⟩, .box 25 (tyC t))] } s) l.length ?_ ?_
    · refine ⟨0, Nat.zero_le _, rfl, by simp, le_of ?_⟩
      simp only [go_sem, tyC]
      trivial
    · rintro m s ⟨k, hk, rfl, hf, hle⟩
      refine awp_keep hle ?_
      clear hle
      by_cases h : k < l.length
      · rw [findD _ _ _ h] at hf
        refine awp_seq_k (fun K4 hK4 => ?_)
        refine awp_seq_k (fun K5 hK5 => ?_)
        refine awp_plain 10 (by kernel_rfl) rfl (fun g2 hg2 => ?_)
        simp only [go_sem, tyC, h, h0, Int.ofNat_eq_zero]
        refine hK5 _ ?_
        refine awp_t rfl ?_
        refine awp_skip ?_
        refine hK4 _ ?_
        refine awp_seq_k (fun K6 hK6 => ?_)
        refine awp_block ?_
        refine awp_seq_k (fun K7 hK7 => ?_)
        by_cases he : l[k].name = t.name
        · rw [if_pos (by simp [isS, he])] at hf
          refine awp_anyq (by kernel_rfl) rfl (fun g4 hg4 ops4 KR4 hops4 hKR4 => ?_)
          refine qrun_last 8 hops4 ?_
          simp only [go_sem, getM h, he]
          refine hKR4 _ ?_
          refine hK7 _ ?_
          refine awp_t rfl ?_
          refine awp_seq_k (fun K8 hK8 => ?_)
          refine awp_plain 2 (by kernel_rfl) rfl (fun g5 hg5 => ?_)
          simp only [go_sem]
          refine hK8 _ ?_
          refine awp_ret ?_
          rw [if_pos h0, hf]
          refine ends_ev rfl ?_
          simp only [go_sem]
          exact Co.of_eq (by simp [optI])
        · rw [if_neg (by simp [isS, he])] at hf
          refine awp_anyq (by kernel_rfl) rfl (fun g4 hg4 ops4 KR4 hops4 hKR4 => ?_)
          refine qrun_last 8 hops4 ?_
          simp only [go_sem, getM h, he]
          refine hKR4 _ ?_
          refine hK7 _ ?_
          refine awp_f rfl ?_
          refine awp_skip ?_
          refine hK6 _ ?_
          refine awp_plain 3 (by kernel_rfl) rfl (fun g3 hg3 => ?_)
          simp only [go_sem, tyC]
          try simp (disch := omega) only [wrapN]
          refine ⟨_, ?_, k + 1, h, rfl, ?_, le_of ?_⟩
          · omega
          · rw [hf]; simp [Option.map_map, Function.comp_def, Nat.add_comm, Nat.add_left_comm]
          simp only [go_sem]
          omega
      · rw [dropN l k (by omega)] at hf
        refine awp_seq_k (fun K9 hK9 => ?_)
        refine awp_seq_k (fun K10 hK10 => ?_)
        refine awp_plain 10 (by kernel_rfl) rfl (fun g2 hg2 => ?_)
        simp only [go_sem, h, tyC]
        refine hK10 _ ?_
        refine awp_f rfl ?_
        refine awp_exit ?_
        refine hK2 _ ?_
        refine awp_seq_k (fun K11 hK11 => ?_)
        refine awp_plain 1 (by kernel_rfl) rfl (fun g6 hg6 => ?_)
        simp only [go_sem]
        refine hK11 _ ?_
        refine awp_ret ?_
        rw [if_pos h0, hf]
        refine ends_ev rfl ?_
        simp only [go_sem]
        exact Co.of_eq (by simp [optI])
  · refine awp_loop (fun m s => m = 0 ∧ s = _) 0 ⟨rfl, rfl⟩ ?_
    rintro m s ⟨rfl, rfl⟩
    by_cases h : 0 < l.length
    · refine awp_seq_k (fun K12 hK12 => ?_)
      refine awp_seq_k (fun K13 hK13 => ?_)
      refine awp_plain 10 (by kernel_rfl) rfl (fun g2 hg2 => ?_)
      simp only [go_sem, h, h0, Int.ofNat_eq_zero, Int.natCast_pos]
      refine hK13 _ ?_
      refine awp_f rfl ?_
      refine awp_exit ?_
      refine hK2 _ ?_
      refine awp_seq_k (fun K14 hK14 => ?_)
      refine awp_plain 1 (by kernel_rfl) rfl (fun g6 hg6 => ?_)
      simp only [go_sem]
      refine hK14 _ ?_
      refine awp_ret ?_
      rw [if_neg h0]
      refine ends_ev rfl ?_
      simp only [go_sem]
      exact Co.refl _
    · refine awp_seq_k (fun K15 hK15 => ?_)
      refine awp_seq_k (fun K16 hK16 => ?_)
      refine awp_plain 10 (by kernel_rfl) rfl (fun g2 hg2 => ?_)
      simp only [go_sem, h, Int.natCast_pos]
      refine hK16 _ ?_
      refine awp_f rfl ?_
      refine awp_exit ?_
      refine hK2 _ ?_
      refine awp_seq_k (fun K17 hK17 => ?_)
      refine awp_plain 1 (by kernel_rfl) rfl (fun g6 hg6 => ?_)
      simp only [go_sem]
      refine hK17 _ ?_
      refine awp_ret ?_
      rw [if_neg h0]
      refine ends_ev rfl ?_
      simp only [go_sem]
      exact Co.refl _

end Go.Proofs.T

