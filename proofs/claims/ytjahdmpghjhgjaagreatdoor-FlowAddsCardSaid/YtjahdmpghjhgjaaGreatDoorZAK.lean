/- A part of the proof, under no conditions of its own: ZAK. -/
import Derived.Test.YtjahdmpghjhgjaaGreatDoorZAJ
import Derived.Lib.ItoaLen
namespace Go.Proofs.T
open Go Go.Ab Go.RowKit

/-! ## Nodes that follow one another, each once -/

open Classical in
/-- The first ones, without those that are the one before. -/
noncomputable def cpU (L : List Nd) : Nat → List Nd
  | 0 => []
  | m + 1 => if 0 < m ∧ L[m]? = L[m - 1]? then cpU L m else cpU L m ++ (L[m]?).toList
theorem cpU_same {L : List Nd} {m : Nat} (hm : 0 < m) (h : L[m]? = L[m - 1]?) : cpU L (m + 1) = cpU L m := by
  rw [cpU, if_pos ⟨hm, h⟩]
theorem cpU_new {L : List Nd} {m : Nat} {x : Nd} (hx : L[m]? = some x) (h : 0 < m → L[m - 1]? ≠ some x) : cpU L (m + 1) = cpU L m ++ [x] := by
  rw [cpU, if_neg (fun k => h k.1 (by rw [← k.2]; exact hx)), hx]
  rfl
theorem cpU_len (L : List Nd) : ∀ m, (cpU L m).length ≤ m
  | 0 => Nat.le_refl _
  | m + 1 => by
    have ih := cpU_len L m
    rw [cpU]
    split
    · omega
    · rw [List.length_append]
      cases L[m]? <;> simp <;> omega
theorem cpU_mem (L : List Nd) (x : Nd) : ∀ m, x ∈ cpU L m ↔ x ∈ L.take m
  | 0 => by simp [cpU]
  | m + 1 => by
    have ih := cpU_mem L x m
    rw [cpU, List.take_add_one, List.mem_append, ← ih]
    split
    · rename_i h
      constructor
      · exact .inl
      · rintro (h1 | h1)
        · exact h1
        · rw [ih]
          rw [h.2] at h1
          have h2 : L[m - 1]? = some x := by simpa [Option.mem_toList] using h1
          have hlt := (List.getElem?_eq_some_iff.1 h2).1
          refine List.mem_of_getElem? (i := m - 1) ?_
          rw [List.getElem?_take, if_pos (by omega)]
          exact h2
    · rw [List.mem_append]
theorem cpU_all (L : List Nd) (x : Nd) : x ∈ cpU L L.length ↔ x ∈ L := by rw [cpU_mem, List.take_length]
/-- Of a list in order: strictly in order. -/
theorem cpU_strict {L : List Nd} (h : Ord ltNd L) : ∀ m, m ≤ L.length → (cpU L m).Pairwise (fun a b => cfNd a b < 0) ∧ ∀ x ∈ cpU L m, ∀ y, L[m - 1]? = some y → cfNd x y ≤ 0
  | 0, _ => ⟨by simp [cpU], by simp [cpU]⟩
  | m + 1, hm => by
    obtain ⟨h1, h2⟩ := cpU_strict h m (by omega)
    have hx : L[m]? = some L[m] := List.getElem?_eq_getElem (by omega)
    have hle : ∀ y, 0 < m → L[m - 1]? = some y → cfNd y L[m] ≤ 0 := fun y h0 hy => by
      have hlt := (List.getElem?_eq_some_iff.1 hy).1
      have hyv := (List.getElem?_eq_some_iff.1 hy).2
      have := List.pairwise_iff_getElem.1 h (m - 1) m hlt (by omega) (by omega)
      rw [hyv] at this
      simp only [ltNd, Go.Proofs.ltOf, decide_eq_false_iff_not] at this
      have := goodNd.anti L[m] y
      omega
    by_cases hs : 0 < m ∧ L[m]? = L[m - 1]?
    · rw [cpU_same hs.1 hs.2]
      refine ⟨h1, fun x hx y hy => h2 x hx y ?_⟩
      rw [← hs.2]
      simpa using hy
    · have hne : 0 < m → L[m - 1]? ≠ some L[m] := fun h0 he => hs ⟨h0, by rw [he]; exact hx⟩
      rw [cpU_new hx hne]
      have key : ∀ x ∈ cpU L m, cfNd x L[m] < 0 := fun x hxm => by
        have h0 : 0 < m := by
          cases m with
          | zero => simp [cpU] at hxm
          | succ m => omega
        have hy : L[m - 1]? = some L[m - 1] := List.getElem?_eq_getElem (by omega)
        have k1 := h2 x hxm _ hy
        have k2 := hle _ h0 hy
        have k3 : cfNd L[m - 1] L[m] ≠ 0 := fun e => hne h0 (by rw [hy, cfNd_zero.1 e])
        have k4 := goodNd.trans _ _ _ k1 k2
        rcases Int.lt_or_eq_of_le k4 with k5 | k5
        · exact k5
        · have e := cfNd_zero.1 k5
          subst e
          have k6 := goodNd.anti L[m] L[m - 1]
          have k7 := goodNd.anti L[m - 1] L[m]
          omega
      refine ⟨?_, fun x hxm y hy => ?_⟩
      · rw [List.pairwise_append]
        refine ⟨h1, by simp, fun a ha b hb => ?_⟩
        rw [List.mem_singleton.1 hb]
        exact key a ha
      · have hy' : y = L[m] := by
          have : L[m]? = some y := by simpa using hy
          rw [hx] at this
          exact (Option.some.inj this).symm
        subst hy'
        rcases List.mem_append.1 hxm with hxm | hxm
        · have := key x hxm
          omega
        · rw [List.mem_singleton.1 hxm, goodNd.zero]
          omega
theorem ndEq {X Y : Nd} (h : X ≠ Y) : ¬ (X.method = Y.method ∧ X.name = Y.name ∧ X.idx = Y.idx) := fun e => h (Nd.eq_iff.2 e)
theorem subOne (j : Nat) (h : j ≤ 1000000) : IntKind.i64.wrap (((j + 1 : Nat) : Int) - 1) = (j : Int) := by
  have e : ((j + 1 : Nat) : Int) - 1 = (j : Int) := by omega
  rw [e]
  exact wrapN _ (by omega) (by omega)
theorem subLen (n j : Nat) : ((n : Int) - (j : Int)).toNat = n - j := by omega
set_option maxRecDepth 100000 in
theorem compact_calls (L : List Nd) (hL : L.length ≤ 1000000) (n : Nm) (g d : Nat) :
    ACalls E 40 [.own n L.length] [(n, .arr 55 3 (L.map encNd))] g d (slNd (cpU L L.length)) [] := by
  refine acalls_of_awp (fn := Tryz.f40) (N := 61) Tryz.call40 Tryz.func40 rfl rfl (by simp) ?_
  simp only [go_sem]
  refine awp_seq_k (fun K1 hK1 => ?_)
  refine awp_plain 1 (by kernel_rfl) rfl (fun g0 hg0 => ?_)
  simp only [go_sem]
  refine hK1 _ ?_
  refine awp_seq_k (fun K2 hK2 => ?_)
  refine awp_seq_k (fun K3 hK3 => ?_)
  by_cases h2 : L.length < 2
  · have hc : cpU L L.length = L := by
      match L, h2 with
      | [], _ => rfl
      | [x], _ => rw [show [x].length = 0 + 1 from rfl, cpU_new (x := x) rfl (by simp)]; rfl
    have h2' : ((L.length : Int) < 2) = True := eq_true (by omega)
    refine awp_plain 3 (by kernel_rfl) rfl (fun g1 hg1 => ?_)
    simp only [go_sem, h2', decide_true]
    refine hK3 _ ?_
    refine awp_t rfl ?_
    refine awp_seq_k (fun K4 hK4 => ?_)
    refine awp_plain 2 (by kernel_rfl) rfl (fun g2 hg2 => ?_)
    simp only [go_sem]
    refine hK4 _ ?_
    refine awp_ret ?_
    refine ret_frz n ?_
    simp only [go_sem]
    refine ends_ev rfl ?_
    simp only [go_sem]
    exact Co.of_eq (by rw [hc])
  · have h2' : ((L.length : Int) < 2) = False := eq_false (by omega)
    refine awp_plain 3 (by kernel_rfl) rfl (fun g1 hg1 => ?_)
    simp only [go_sem, h2', decide_false]
    refine hK3 _ ?_
    refine awp_f rfl ?_
    refine awp_skip ?_
    refine hK2 _ ?_
    refine awp_seq_k (fun K5 hK5 => ?_)
    refine awp_seq_k (fun K6 hK6 => ?_)
    refine awp_plain 1 (by kernel_rfl) rfl (fun g3 hg3 => ?_)
    simp only [go_sem]
    refine hK6 _ ?_
    refine awp_block ?_
    refine awp_loop (fun m s => ∃ j, j + 1 ≤ L.length ∧ m = L.length - j ∧ cpU L (j + 1) = L.take (j + 1) ∧ Le { env := [(0, .own n L.length), (3, dN (j + 1))], σ := [(n, .arr 55 3 (L.map encNd))] } s) L.length ?_ ?_
    · refine ⟨0, by omega, rfl, ?_, le_of ?_⟩
      · have hx : L[0]? = some L[0] := List.getElem?_eq_getElem (by omega)
        rw [cpU_new hx (by simp), List.take_add_one, hx]
        rfl
      simp only [go_sem]
      all_goals first | exact rfl | exact ⟨rfl, rfl⟩ | trivial
    · rintro m s ⟨j, hj, rfl, hcp, hle⟩
      refine awp_keep hle ?_
      clear hle
      have hsub := subOne j (by omega)
      refine awp_seq_k (fun K7 hK7 => ?_)
      refine awp_seq_k (fun K8 hK8 => ?_)
      by_cases hlt : j + 1 < L.length
      · have hg1 := getM (f := encNd) hlt
        have hg0 := getM (f := encNd) (show j < L.length by omega)
        have e1 : L[j + 1]? = some L[j + 1] := List.getElem?_eq_getElem hlt
        have e0 : L[j]? = some L[j] := List.getElem?_eq_getElem (by omega)
        have hj' : j < L.length := by omega
        refine awp_plain 4 (by kernel_rfl) rfl (fun g4 hg4 => ?_)
        simp only [go_sem, hlt, decide_true]
        refine hK8 _ ?_
        refine awp_t rfl ?_
        refine awp_skip ?_
        refine hK7 _ ?_
        refine awp_seq_k (fun K9 hK9 => ?_)
        refine awp_block ?_
        refine awp_seq_k (fun K10 hK10 => ?_)
        generalize L[j + 1] = X at *
        generalize L[j] = Y at *
        by_cases hxy : X = Y
        · subst hxy
          have hk0 : cpU L (j + 1 + 1) = L.take (j + 1) := by rw [cpU_same (by omega) (by rw [e1]; exact e0.symm)]; exact hcp
          have hsl : ((j + 1 : Nat) : Int) ≤ (L.length : Int) := by omega
          refine awp_anyq (by kernel_rfl) rfl (fun g6 hg6 ops6 KR6 hops6 hKR6 => ?_)
          refine qrun_last 10 hops6 ?_
          simp only [go_sem, decide_true, hlt, hj', hsub, hg1, hg0]
          try simp (disch := omega) only [wrapN, wrapB, Int.tdiv_eq_ediv_of_nonneg, Int.tmod_eq_emod_of_nonneg]
          refine hKR6 _ ?_
          refine hK10 _ ?_
          refine awp_t rfl ?_
          refine awp_seq_k (fun K11 hK11 => ?_)
          refine awp_plain 4 (by kernel_rfl) rfl (fun g7 hg7 => ?_)
          simp only [go_sem, (show (0 < L.length) = True from eq_true (by omega)), hsl, subLen, Nat.le_refl]
          refine hK11 _ ?_
          refine awp_seq_k (fun K12 hK12 => ?_)
          refine awp_seq_k (fun K13 hK13 => ?_)
          refine awp_plain 1 (by kernel_rfl) rfl (fun g8 hg8 => ?_)
          simp only [go_sem]
          refine hK13 _ ?_
          refine awp_block ?_
          clear hg1 hg0
          refine awp_loop (fun m s => ∃ (i k : Nat) (R : List Nd), i + 1 ≤ L.length - (j + 1) ∧ m = L.length - i ∧ R.length = L.length ∧ k ≤ j + 1 + i ∧ (cpU L (j + 1 + (i + 1))).length = k ∧ R.take k = cpU L (j + 1 + (i + 1)) ∧ (∀ q, j + 1 + i ≤ q → R[q]? = L[q]?) ∧
              Le { env := [(0, .own n L.length), (3, dN k), (4, .osl n 3 (j + 1) (L.length - (j + 1))), (5, dN (i + 1))], σ := [(n, .arr 55 3 (R.map encNd))] } s) L.length ?_ ?_
          · refine ⟨0, j + 1, L, by omega, rfl, rfl, by omega, ?_, ?_, fun q _ => rfl, le_of ?_⟩
            · rw [Nat.zero_add, hk0, List.length_take]; omega
            · rw [Nat.zero_add, hk0]
            simp only [go_sem]
            all_goals first | exact rfl | exact ⟨rfl, rfl⟩ | trivial
          · rintro m s ⟨i, k, R, hi, rfl, hRl, hk, hcl, htk, hq, hle⟩
            refine awp_keep hle ?_
            clear hle
            have hsubi := subOne i (by omega)
            refine awp_seq_k (fun K14 hK14 => ?_)
            refine awp_seq_k (fun K15 hK15 => ?_)
            by_cases hlti : i + 1 < L.length - (j + 1)
            · have f1 : R[j + 1 + (i + 1)]? = some L[j + 1 + (i + 1)] := by rw [hq _ (by omega)]; exact List.getElem?_eq_getElem (by omega)
              have f0 : R[j + 1 + i]? = some L[j + 1 + i] := by rw [hq _ (by omega)]; exact List.getElem?_eq_getElem (by omega)
              have l1 : L[j + 1 + (i + 1)]? = some L[j + 1 + (i + 1)] := List.getElem?_eq_getElem (by omega)
              have l0 : L[j + 1 + i]? = some L[j + 1 + i] := List.getElem?_eq_getElem (by omega)
              refine awp_plain 4 (by kernel_rfl) rfl (fun g9 hg9 => ?_)
              simp only [go_sem, hlti, decide_true]
              refine hK15 _ ?_
              refine awp_t rfl ?_
              refine awp_skip ?_
              refine hK14 _ ?_
              refine awp_seq_k (fun K16 hK16 => ?_)
              refine awp_block ?_
              refine awp_seq_k (fun K17 hK17 => ?_)
              generalize L[j + 1 + (i + 1)] = X2 at *
              generalize L[j + 1 + i] = Y2 at *
              have hg1 : (R.map encNd)[j + 1 + (i + 1)]? = some (encNd X2) := by rw [List.getElem?_map, f1]; rfl
              have hg0 : (R.map encNd)[j + 1 + i]? = some (encNd Y2) := by rw [List.getElem?_map, f0]; rfl
              have c1 : (i < L.length - (j + 1)) = True := eq_true (by omega)
              have c2 : (j + 1 + (L.length - (j + 1)) ≤ R.length) = True := eq_true (by omega)
              by_cases hxy : X2 = Y2
              · subst hxy
                have hs := cpU_same (L := L) (m := j + 1 + (i + 1)) (by omega) (by rw [l1, show j + 1 + (i + 1) - 1 = j + 1 + i by omega]; exact l0.symm)
                refine awp_anyq (by kernel_rfl) rfl (fun g11 hg11 ops11 KR11 hops11 hKR11 => ?_)
                refine qrun_last 10 hops11 ?_
                simp only [go_sem, decide_true, Bool.not_true, hlti, hsubi, hg1, hg0, c1, c2]
                try simp (disch := omega) only [wrapN, wrapB, Int.tdiv_eq_ediv_of_nonneg, Int.tmod_eq_emod_of_nonneg]
                refine hKR11 _ ?_
                refine hK17 _ ?_
                refine awp_f rfl ?_
                refine awp_skip ?_
                refine hK16 _ ?_
                refine awp_plain 3 (by kernel_rfl) rfl (fun g10 hg10 => ?_)
                simp only [go_sem]
                try simp (disch := omega) only [wrapN]
                refine ⟨_, ?_, i + 1, k, R, by omega, rfl, hRl, by omega, ?_, ?_, fun q h => hq q (by omega), le_of ?_⟩
                · omega
                · rw [← hcl, ← hs]; rfl
                · rw [htk, ← hs]; rfl
                simp only [go_sem]
                all_goals first | exact rfl | exact ⟨rfl, rfl⟩ | trivial | omega
              · have hs := cpU_new (L := L) (m := j + 1 + (i + 1)) l1 (fun _ h => by rw [show j + 1 + (i + 1) - 1 = j + 1 + i by omega, l0] at h; exact hxy (Option.some.inj h).symm)
                have c3 : (k < R.length) = True := eq_true (by omega)
                have hgk := getM (f := encNd) (l := R) (k := k) (by omega)
                refine awp_anyq (by kernel_rfl) rfl (fun g11 hg11 ops11 KR11 hops11 hKR11 => ?_)
                refine qrun_last 10 hops11 ?_
                simp only [go_sem, ndEq hxy, decide_false, Bool.not_false, hlti, hsubi, hg1, hg0, c1, c2]
                try simp (disch := omega) only [wrapN, wrapB, Int.tdiv_eq_ediv_of_nonneg, Int.tmod_eq_emod_of_nonneg]
                refine hKR11 _ ?_
                refine hK17 _ ?_
                refine awp_t rfl ?_
                refine awp_seq_k (fun K18 hK18 => ?_)
                refine awp_plain 8 (by kernel_rfl) rfl (fun g12 hg12 => ?_)
                simp only [go_sem, c3, hgk, hlti, hg1, c2]
                refine hK18 _ ?_
                refine awp_plain 3 (by kernel_rfl) rfl (fun g13 hg13 => ?_)
                simp only [go_sem]
                try simp (disch := omega) only [wrapN]
                refine hK16 _ ?_
                refine awp_plain 3 (by kernel_rfl) rfl (fun g10 hg10 => ?_)
                simp only [go_sem]
                try simp (disch := omega) only [wrapN]
                refine ⟨_, ?_, i + 1, k + 1, R.set k X2, by omega, rfl, by rw [List.length_set]; exact hRl, by omega, ?_, ?_, fun q h => ?_, le_of ?_⟩
                · omega
                · have : cpU L (j + 1 + (i + 1 + 1)) = cpU L (j + 1 + (i + 1)) ++ [X2] := hs
                  rw [this, List.length_append, hcl]
                  rfl
                · have : cpU L (j + 1 + (i + 1 + 1)) = cpU L (j + 1 + (i + 1)) ++ [X2] := hs
                  rw [this, List.take_add_one, List.getElem?_set_self (by omega), List.take_set_of_le (Nat.le_refl _), htk]
                  rfl
                · rw [List.getElem?_set_ne (by omega)]
                  exact hq q (by omega)
                simp only [go_sem, List.map_set]
                all_goals first | exact rfl | exact ⟨rfl, rfl⟩ | trivial | omega
            · have hfin : j + 1 + (i + 1) = L.length := by omega
              rw [hfin] at hcl htk
              have c4 : (0 < R.length) = True := eq_true (by omega)
              have c5 : (k ≤ R.length) = True := eq_true (by omega)
              refine awp_plain 4 (by kernel_rfl) rfl (fun g9 hg9 => ?_)
              simp only [go_sem, hlti, decide_false]
              refine hK15 _ ?_
              refine awp_f rfl ?_
              refine awp_exit ?_
              refine hK12 _ ?_
              refine awp_seq_k (fun K19 hK19 => ?_)
              refine awp_ops (by kernel_rfl) rfl (fun g14 hg14 ops14 KR14 hops14 hKR14 => ?_)
              refine aops_eval 3 hops14 ?_
              simp only [go_sem, c4, c5, subLen, Nat.le_refl]
              refine aops_clear hops14 rfl rfl rfl rfl es52 ze55 rfl (by decide) ?_
              simp only [go_sem]
              first | refine ⟨by omega, ?_⟩ | skip
              generalize hZ : List.take k (List.map encNd R) ++ List.replicate (R.length - k) (D.agg [D.val (Value.bool false), D.val (Value.string ByteArray.empty), D.val (Value.int IntKind.i64 0)]) ++ List.drop (k + (R.length - k)) (List.map encNd R) = Z
              have hkR : k ≤ R.length := by omega
              have hZl : Z.length = R.length := by rw [← hZ]; simp; omega
              have hZt : Z.take k = (cpU L L.length).map encNd := by
                rw [← hZ, List.append_assoc, List.take_append_of_le_length (by simp; omega), List.take_take, Nat.min_self, ← List.map_take, htk]
              have hZr : lenRows 3 Z := fun r hr => by
                rw [← hZ] at hr
                rcases List.mem_append.1 hr with hr | hr
                · rcases List.mem_append.1 hr with hr | hr
                  · exact lenRowsNd R r (List.mem_of_mem_take hr)
                  · rw [(List.mem_replicate.1 hr).2]; rfl
                · exact lenRowsNd R r (List.mem_of_mem_drop hr)
              have c6 : (0 < Z.length) = True := eq_true (by omega)
              have c7 : (k ≤ Z.length) = True := eq_true (by omega)
              have c8 : ((k : Int) - 0).toNat = k := by omega
              have c9 : (0 + k ≤ Z.length) = True := eq_true (by omega)
              refine aops_last 0 hops14 ?_
              simp only [go_sem]
              refine hKR14 _ ?_
              refine hK19 _ ?_
              refine awp_seq_k (fun K20 hK20 => ?_)
              refine awp_plain 4 (by kernel_rfl) rfl (fun g15 hg15 => ?_)
              simp only [go_sem, c6, c7, c8, Int.natCast_nonneg, Int.le_refl]
              refine hK20 _ ?_
              refine awp_ret ?_
              refine ret_frz n ?_
              simp only [go_sem, c7, hZr, hZt]
              refine ends_ev rfl ?_
              simp only [go_sem]
              exact Co.refl _
        · have hs := cpU_new (L := L) (m := j + 1) e1 (fun _ h => by rw [show j + 1 - 1 = j by omega, e0] at h; exact hxy (Option.some.inj h).symm)
          refine awp_anyq (by kernel_rfl) rfl (fun g6 hg6 ops6 KR6 hops6 hKR6 => ?_)
          refine qrun_last 10 hops6 ?_
          simp only [go_sem, ndEq hxy, decide_false, hlt, hj', hsub, hg1, hg0]
          try simp (disch := omega) only [wrapN, wrapB, Int.tdiv_eq_ediv_of_nonneg, Int.tmod_eq_emod_of_nonneg]
          refine hKR6 _ ?_
          refine hK10 _ ?_
          refine awp_f rfl ?_
          refine awp_skip ?_
          refine hK9 _ ?_
          refine awp_plain 3 (by kernel_rfl) rfl (fun g5 hg5 => ?_)
          simp only [go_sem]
          try simp (disch := omega) only [wrapN]
          refine ⟨_, ?_, j + 1, by omega, rfl, ?_, le_of ?_⟩
          · omega
          · rw [hs, hcp, List.take_add_one (l := L) (i := j + 1), e1]
            rfl
          simp only [go_sem]
          all_goals first | exact rfl | exact ⟨rfl, rfl⟩ | trivial | omega
      · have hfin : j + 1 = L.length := by omega
        have hc : cpU L L.length = L := by rw [← hfin, hcp, hfin, List.take_length]
        refine awp_plain 4 (by kernel_rfl) rfl (fun g4 hg4 => ?_)
        simp only [go_sem, hlt, decide_false]
        refine hK8 _ ?_
        refine awp_f rfl ?_
        refine awp_exit ?_
        refine hK5 _ ?_
        refine awp_seq_k (fun K21 hK21 => ?_)
        refine awp_plain 2 (by kernel_rfl) rfl (fun g16 hg16 => ?_)
        simp only [go_sem]
        refine hK21 _ ?_
        refine awp_ret ?_
        refine ret_frz n ?_
        simp only [go_sem]
        refine ends_ev rfl ?_
        simp only [go_sem]
        exact Co.of_eq (by rw [hc])
end Go.Proofs.T


namespace Go.Proofs.T
open Go Go.Ab Go.RowKit

end Go.Proofs.T


namespace Go.Proofs.T
open Go Go.Ab Go.RowKit

/-! ## Substituting in signatures -/

def smFm (f : Formal) : Prop := f.name.size ≤ 1000000 ∧ smTy f.bound
def smPa (f : Param) : Prop := f.name.size ≤ 1000000 ∧ smTy f.type
def smSi (s : Sig) : Prop := s.name.size ≤ 1000000 ∧ (s.formals.length ≤ 1000000 ∧ ∀ f ∈ s.formals, smFm f) ∧ (s.params.length ≤ 1000000 ∧ ∀ f ∈ s.params, smPa f) ∧ smTy s.result

def mapFm (f : Ty → Ty) (x : Formal) : Formal := ⟨x.name, f x.bound, x.pos⟩
def mapPa (f : Ty → Ty) (x : Param) : Param := ⟨x.name, f x.type, x.pos⟩
def mapSi (f : Ty → Ty) (s : Sig) : Sig := ⟨s.name, s.formals.map (mapFm f), s.params.map (mapPa f), f s.result, s.pos⟩

/-- A signature whose lists are new. -/
def ownSi (g d : Nat) (s : Sig) : D := .agg [.val (.string s.name), .own ⟨g, d, 1⟩ s.formals.length, .own ⟨g, d, 2⟩ s.params.length, .val (.string s.result.name), .sl false (s.result.args.map encTy), .val (.int .i64 s.result.pos), .val (.int .i64 s.pos)]
def newSi (g d : Nat) (s : Sig) : Sto := [(⟨g, d, 1⟩, .arr 68 5 (s.formals.map encFm)), (⟨g, d, 2⟩, .arr 109 5 (s.params.map encPa))]
def zSi : List D := [.val (.string ByteArray.empty), .val (.slice none 0 0), .val (.slice none 0 0), .val (.string ByteArray.empty), .val (.slice none 0 0), dI 0, dI 0]

end Go.Proofs.T


namespace Go.Proofs

theorem Tryz.strconv_Itoa (n : Int) (h0 : -9223372036854775808 ≤ n) (h1 : n ≤ 9223372036854775807) (w : World) (htab : Lib.TabIs Tryz.prog w "internal/strconv.uint64pow10" .u64 Lib.pow10Tab) :
    Calls Tryz.prog 46 #[.int .i64 n] w fun e w' => e = .returned (.string ⟨(Lib.itoa n).toArray⟩) ∧ ∃ k os, w' = Sort.grow (w.drewN k) os := Any.strconv_Itoa Tryz.laysItoa n h0 h1 w htab
end Go.Proofs


namespace Go.Proofs.T
open Go Go.Ab Go.RowKit

/-! ## Decimal numerals, local names -/

def decS (u : Nat) : Str := ⟨(Lib.decDigits u).toArray⟩
theorem decS_size (u : Nat) (h : u ≤ 9223372036854775807) : (decS u).size ≤ 20 := by
  have h1 : (decS u).size = (Lib.decDigits u).length := by simp [decS, ByteArray.size]
  rw [h1, Lib.decDigits_length]
  exact Lib.nDigits_le20 u (by omega)

theorem decS_small {u : Nat} (h : u < 10) : strOfNums [48 + (u : Int)] = decS u := by
  unfold decS
  rw [Lib.decDigits, dif_pos h]
  simp only [strOfNums, List.map_cons, List.map_nil]
  congr 3
theorem decS_big {u : Nat} (h : ¬ u < 10) : decS (u / 10) ++ strOfNums [48 + ((u : Int) % 10)] = decS u := by
  unfold decS
  conv => rhs; rw [Lib.decDigits, dif_neg h]
  simp only [strOfNums, List.map_cons, List.map_nil]
  apply ByteArray.ext
  simp only [ByteArray.data_append]
  rw [← List.append_toArray]
  congr 4

set_option maxRecDepth 100000 in
theorem decimal_calls : ∀ (u : Nat), u ≤ 9223372036854775807 → ∀ g d, ACalls E 47 [dN u] [] g d (encS (decS u)) [] := by
  intro u
  induction u using Nat.strongRecOn with
  | _ u ih =>
    intro hu g d
    refine acalls_of_awp (fn := Tryz.f47) (N := 20) Tryz.call47 Tryz.func47 rfl rfl (by simp) ?_
    simp only [go_sem]
    refine awp_seq_k (fun K1 hK1 => ?_)
    refine awp_plain 1 (by kernel_rfl) rfl (fun g0 hg0 => ?_)
    simp only [go_sem]
    refine hK1 _ ?_
    refine awp_seq_k (fun K2 hK2 => ?_)
    refine awp_seq_k (fun K3 hK3 => ?_)
    by_cases h : u < 10
    · have h' : (u : Int) < 10 := by omega
      refine awp_plain 2 (by kernel_rfl) rfl (fun g1 hg1 => ?_)
      simp only [go_sem, h']
      refine hK3 _ ?_
      refine awp_t rfl ?_
      refine awp_seq_k (fun K4 hK4 => ?_)
      refine awp_plain 6 (by kernel_rfl) rfl (fun g2 hg2 => ?_)
      simp only [go_sem]
      try simp (disch := omega) only [wrapN, wrapB]
      refine hK4 _ ?_
      refine awp_ret ?_
      rw [← decS_small h]
      refine ends_ev rfl ?_
      simp only [go_sem]
      exact Co.refl _
    · have h' : ¬ (u : Int) < 10 := by omega
      have h3 : (decS (u / 10)).size + (strOfNums [48 + (u : Int) % 10]).size ≤ 9223372036854775807 := by
        have := decS_size (u / 10) (by omega)
        have h4 : (strOfNums [48 + (u : Int) % 10]).size = 1 := strOfNums_size _
        omega
      refine awp_plain 2 (by kernel_rfl) rfl (fun g1 hg1 => ?_)
      simp only [go_sem, h']
      refine hK3 _ ?_
      refine awp_f rfl ?_
      refine awp_skip ?_
      refine hK2 _ ?_
      refine awp_seq_k (fun K5 hK5 => ?_)
      refine awp_any 10 (by kernel_rfl) (by kernel_rfl) rfl (fun g3 hg3 ops3 KR3 hops3 hKR3 => ?_)
      refine qrun_eval 2 hops3 ?_
      simp only [go_sem]
      try simp (disch := omega) only [wrapN, Int.tdiv_eq_ediv_of_nonneg]
      refine qrun_pure hops3 rfl rfl rfl (ih (u / 10) (by omega) (by omega) _ _) (CoL.refl _) rfl ?_
      refine qrun_last 7 hops3 ?_
      simp only [go_sem]
      try simp (disch := omega) only [wrapN, wrapB, Int.tmod_eq_emod_of_nonneg]
      try simp only [go_sem, h3]
      try simp (disch := omega) only [wrapN, wrapB, Int.tdiv_eq_ediv_of_nonneg, Int.tmod_eq_emod_of_nonneg]
      refine aops_last 1 hops3 ?_
      simp only [go_sem]
      try simp only [go_sem, h3]
      refine hKR3 _ ?_
      refine hK5 _ ?_
      refine awp_ret ?_
      rw [← decS_big h]
      refine ends_ev rfl ?_
      simp only [go_sem]
      exact Co.refl _

def localS (u : Nat) : Str := ⟨#[36]⟩ ++ decS u

theorem itoa_calls (u : Nat) (hu : u ≤ 9223372036854775807) (g d : Nat) : ACalls E 46 [dN u] [] g d (encS (decS u)) [] := by
  refine acalls_grown (l := [.int .i64 (u : Int)]) Tryz.call46 fun w0 hA w hb => ?_
  have := Tryz.strconv_Itoa u (by omega) (by omega) w (tab_keeps hA hb)
  rwa [Lib.itoa_nonneg] at this

end Go.Proofs.T


namespace Go.Proofs.T
open Go Go.Ab Go.RowKit

/-! ## Canonical signatures -/

def locTy (i : Nat) : Ty := ⟨localS i, [], 0⟩
def locTys (n : Nat) : List Ty := (List.range n).map locTy
def toLoc (i : Nat) (f : Formal) : Formal := ⟨localS i, f.bound, f.pos⟩
def noName (p : Param) : Param := ⟨⟨#[]⟩, p.type, p.pos⟩
def ownF (s : Sig) : Ty → Ty := substTy (s.formals.map (·.name)) (locTys s.formals.length)
def canonSi (s : Sig) : Sig := ⟨s.name, (s.formals.map (mapFm (ownF s))).mapIdx toLoc, (s.params.map (mapPa (ownF s))).map noName, ownF s s.result, s.pos⟩

def rawLoc (i : Nat) : D := .agg [.val (.string (localS i)), .val (.slice none 0 0), dI 0]
/-- Formals renamed up to here. -/
def upTo (k i : Nat) (f : Formal) : D := encFm (if i < k then toLoc i f else f)

def upP (k i : Nat) (f : Param) : D := encPa (if i < k then noName f else f)
end Go.Proofs.T


namespace Go.Proofs.T
open Go Go.Ab Go.RowKit

/-! ## Signatures that are alike -/

def same (t u : Ty) : Bool := decide (cmpTy t u = 0)

/-- Two lists, element by element. -/
def allB {α : Type} (p : α → α → Bool) : List α → List α → Bool
  | [], [] => true
  | a :: x, b :: y => p a b && allB p x y
  | _, _ => false
theorem allB_length {α : Type} {p : α → α → Bool} : ∀ {x y : List α}, x.length ≠ y.length → allB p x y = false
  | [], [], h => absurd rfl h
  | [], _ :: _, _ => rfl
  | _ :: _, [], _ => rfl
  | a :: x, b :: y, h => by simp only [allB, allB_length (x := x) (y := y) (fun e => h (by simp [e])), Bool.and_false]

def sameFm (a b : Formal) : Bool := decide (a.name = b.name) && same a.bound b.bound
def samePa (a b : Param) : Bool := decide (a.name = b.name) && same a.type b.type
def sameSi (s t : Sig) : Bool := decide (s.name = t.name) && (allB sameFm s.formals t.formals && (allB samePa s.params t.params && same s.result t.result))


end Go.Proofs.T


namespace Go.Proofs.T
open Go Go.Ab Go.RowKit

def refFm (q : Bool) (a b : Formal) : Bool := (decide (a.name = b.name) && same a.bound b.bound) && (!q || (decide (a.pos = b.pos) && eqTy a.bound b.bound))
def refPa (q : Bool) (a b : Param) : Bool := (decide (a.name = b.name) && same a.type b.type) && (!q || (decide (a.pos = b.pos) && eqTy a.type b.type))
def refSi (q : Bool) (s t : Sig) : Bool := (decide (s.name = t.name) && (allB (refFm q) s.formals t.formals && (allB (refPa q) s.params t.params && same s.result t.result))) && (!q || (decide (s.pos = t.pos) && eqTy s.result t.result))


theorem refFormals_calls (q : Bool) (l r : List Formal) (hl : l.length ≤ 9223372036854775807) (hl2 : ∀ a ∈ l, okFm a) (g d : Nat) : ACalls E 84 [slFm l, slFm r, dB q] [] g d (dB (allB (refFm q) l r)) [] := by
  refine acalls_of_awp (fn := Tryz.f84) (N := 72) Tryz.call84 Tryz.func84 rfl rfl (by simp) ?_
  simp only [go_sem]
  refine awp_seq_k (fun K1 hK1 => ?_)
  refine awp_plain 1 (by kernel_rfl) rfl (fun g0 hg0 => ?_)
  simp only [go_sem]
  refine hK1 _ ?_
  refine awp_seq_k (fun K2 hK2 => ?_)
  refine awp_seq_k (fun K3 hK3 => ?_)
  by_cases hlen : l.length = r.length
  · have hlen' : (l.length : Int) = r.length := by omega
    refine awp_plain 5 (by kernel_rfl) rfl (fun g1 hg1 => ?_)
    simp only [go_sem, hlen']
    refine hK3 _ ?_
    refine awp_f rfl ?_
    refine awp_skip ?_
    refine hK2 _ ?_
    refine awp_seq_k (fun K4 hK4 => ?_)
    refine awp_seq_k (fun K5 hK5 => ?_)
    refine awp_plain 1 (by kernel_rfl) rfl (fun g3 hg3 => ?_)
    simp only [go_sem]
    refine hK5 _ ?_
    refine awp_block ?_
    refine awp_loop (fun m st => ∃ k, k ≤ l.length ∧ m = l.length - k ∧ allB (refFm q) (l.drop k) (r.drop k) = allB (refFm q) l r ∧
        Le { env := [(0, slFm l), (1, slFm r), (2, dB q), (7, dN k)], σ := [] } st) l.length ?_ ?_
    · refine ⟨0, Nat.zero_le _, rfl, rfl, le_of ?_⟩
      simp only [go_sem]
      trivial
    · rintro m st ⟨k, hk, rfl, hc, hle⟩
      refine awp_keep hle ?_
      clear hle
      by_cases hlt : k < l.length
      · have hlt2 : k < r.length := by omega
        rw [dropC _ _ hlt, dropC _ _ hlt2] at hc
        simp only [allB] at hc
        have g1 := getM (f := encFm) hlt
        have g2 := getM (f := encFm) hlt2
        refine awp_seq_k (fun K6 hK6 => ?_)
        refine awp_seq_k (fun K7 hK7 => ?_)
        refine awp_plain 4 (by kernel_rfl) rfl (fun g4 hg4 => ?_)
        simp only [go_sem, hlt]
        refine hK7 _ ?_
        refine awp_t rfl ?_
        refine awp_skip ?_
        refine hK6 _ ?_
        refine awp_seq_k (fun K8 hK8 => ?_)
        refine awp_block ?_
        refine awp_seq_k (fun K9 hK9 => ?_)
        refine awp_seq_k (fun K10 hK10 => ?_)
        by_cases hn : l[k].name = r[k].name
        · refine awp_anyq (by kernel_rfl) rfl (fun g6 hg6 ops6 KR6 hops6 hKR6 => ?_)
          refine qrun_eval 22 hops6 ?_
          simp only [go_sem, hn, decide_true, g1, g2]
          refine qrun_pure hops6 rfl rfl rfl (ref04Same_calls _ _ (hl2 _ (List.getElem_mem hlt)).2 _ _) (CoL.refl _) rfl ?_
          cases hs : same l[k].bound r[k].bound with
          | false =>
            refine qrun_last 2 hops6 ?_
            simp only [go_sem, show decide (cmpTy l[k].bound r[k].bound = 0) = false from hs]
            refine hKR6 _ ?_
            refine hK10 _ ?_
            refine awp_t rfl ?_
            refine awp_seq_k (fun K11 hK11 => ?_)
            refine awp_plain 1 (by kernel_rfl) rfl (fun g7 hg7 => ?_)
            simp only [go_sem]
            refine hK11 _ ?_
            refine awp_ret ?_
            rw [show refFm q l[k] r[k] = false by simp [refFm, hs]] at hc
            rw [Bool.false_and] at hc
            rw [← hc]
            refine ends_ev rfl ?_
            simp only [go_sem]
            exact Co.refl _
          | true =>
            refine qrun_last 2 hops6 ?_
            simp only [go_sem, show decide (cmpTy l[k].bound r[k].bound = 0) = true from hs]
            refine hKR6 _ ?_
            refine hK10 _ ?_
            refine awp_f rfl ?_
            refine awp_skip ?_
            refine hK9 _ ?_
            refine awp_seq_k (fun K12 hK12 => ?_)
            cases q with
            | false =>
              refine awp_anyq (by kernel_rfl) rfl (fun g8 hg8 ops8 KR8 hops8 hKR8 => ?_)
              refine qrun_last 28 hops8 ?_
              simp only [go_sem]
              refine hKR8 _ ?_
              refine hK12 _ ?_
              refine awp_f rfl ?_
              refine awp_skip ?_
              refine hK8 _ ?_
              refine awp_plain 3 (by kernel_rfl) rfl (fun g5 hg5 => ?_)
              simp only [go_sem]
              try simp (disch := omega) only [wrapN]
              rw [show refFm false l[k] r[k] = true by simp [refFm, hs, hn]] at hc
              rw [Bool.true_and] at hc
              refine ⟨_, ?_, k + 1, hlt, rfl, hc, le_of ?_⟩
              · omega
              simp only [go_sem]
              omega
            | true =>
              by_cases hp : l[k].pos = r[k].pos
              · refine awp_anyq (by kernel_rfl) rfl (fun g8 hg8 ops8 KR8 hops8 hKR8 => ?_)
                refine qrun_eval 24 hops8 ?_
                simp only [go_sem, hp, decide_true, g1, g2]
                refine qrun_pure hops8 rfl rfl rfl (ref04Equal_calls _ (hl2 _ (List.getElem_mem hlt)).2 _ _ _) (CoL.refl _) rfl ?_
                cases he : eqTy l[k].bound r[k].bound with
                | true =>
                  refine qrun_last 3 hops8 ?_
                  simp only [go_sem]
                  refine hKR8 _ ?_
                  refine hK12 _ ?_
                  refine awp_f rfl ?_
                  refine awp_skip ?_
                  refine hK8 _ ?_
                  refine awp_plain 3 (by kernel_rfl) rfl (fun g5 hg5 => ?_)
                  simp only [go_sem]
                  try simp (disch := omega) only [wrapN]
                  rw [show refFm true l[k] r[k] = true by simp [refFm, hs, hn, hp, he]] at hc
                  rw [Bool.true_and] at hc
                  refine ⟨_, ?_, k + 1, hlt, rfl, hc, le_of ?_⟩
                  · omega
                  simp only [go_sem]
                  omega
                | false =>
                  refine qrun_last 3 hops8 ?_
                  simp only [go_sem]
                  refine hKR8 _ ?_
                  refine hK12 _ ?_
                  refine awp_t rfl ?_
                  refine awp_seq_k (fun K13 hK13 => ?_)
                  refine awp_plain 1 (by kernel_rfl) rfl (fun g9 hg9 => ?_)
                  simp only [go_sem]
                  refine hK13 _ ?_
                  refine awp_ret ?_
                  rw [show refFm true l[k] r[k] = false by simp [refFm, hs, hn, hp, he]] at hc
                  rw [Bool.false_and] at hc
                  rw [← hc]
                  refine ends_ev rfl ?_
                  simp only [go_sem]
                  exact Co.refl _
              · refine awp_anyq (by kernel_rfl) rfl (fun g8 hg8 ops8 KR8 hops8 hKR8 => ?_)
                refine qrun_last 28 hops8 ?_
                simp only [go_sem, hp, g1, g2]
                refine hKR8 _ ?_
                refine hK12 _ ?_
                refine awp_t rfl ?_
                refine awp_seq_k (fun K14 hK14 => ?_)
                refine awp_plain 1 (by kernel_rfl) rfl (fun g9 hg9 => ?_)
                simp only [go_sem]
                refine hK14 _ ?_
                refine awp_ret ?_
                rw [show refFm true l[k] r[k] = false by simp [refFm, hs, hn, hp]] at hc
                rw [Bool.false_and] at hc
                rw [← hc]
                refine ends_ev rfl ?_
                simp only [go_sem]
                exact Co.refl _
        · refine awp_anyq (by kernel_rfl) rfl (fun g6 hg6 ops6 KR6 hops6 hKR6 => ?_)
          refine qrun_last 25 hops6 ?_
          simp only [go_sem, hn, g1, g2]
          refine hKR6 _ ?_
          refine hK10 _ ?_
          refine awp_t rfl ?_
          refine awp_seq_k (fun K15 hK15 => ?_)
          refine awp_plain 1 (by kernel_rfl) rfl (fun g7 hg7 => ?_)
          simp only [go_sem]
          refine hK15 _ ?_
          refine awp_ret ?_
          rw [show refFm q l[k] r[k] = false by simp [refFm, hn]] at hc
          rw [Bool.false_and] at hc
          rw [← hc]
          refine ends_ev rfl ?_
          simp only [go_sem]
          exact Co.refl _
      · rw [dropN _ _ (by omega), dropN _ _ (by omega)] at hc
        simp only [allB] at hc
        refine awp_seq_k (fun K16 hK16 => ?_)
        refine awp_seq_k (fun K17 hK17 => ?_)
        refine awp_plain 4 (by kernel_rfl) rfl (fun g4 hg4 => ?_)
        simp only [go_sem, hlt]
        refine hK17 _ ?_
        refine awp_f rfl ?_
        refine awp_exit ?_
        refine hK4 _ ?_
        refine awp_seq_k (fun K18 hK18 => ?_)
        refine awp_plain 1 (by kernel_rfl) rfl (fun g10 hg10 => ?_)
        simp only [go_sem]
        refine hK18 _ ?_
        refine awp_ret ?_
        rw [← hc]
        refine ends_ev rfl ?_
        simp only [go_sem]
        exact Co.refl _
  · have hlen' : ¬ (l.length : Int) = r.length := by omega
    refine awp_plain 5 (by kernel_rfl) rfl (fun g1 hg1 => ?_)
    simp only [go_sem, hlen']
    refine hK3 _ ?_
    refine awp_t rfl ?_
    refine awp_seq_k (fun K19 hK19 => ?_)
    refine awp_plain 1 (by kernel_rfl) rfl (fun g2 hg2 => ?_)
    simp only [go_sem]
    refine hK19 _ ?_
    refine awp_ret ?_
    rw [allB_length hlen]
    refine ends_ev rfl ?_
    simp only [go_sem]
    exact Co.refl _

theorem refParams_calls (q : Bool) (l r : List Param) (hl : l.length ≤ 9223372036854775807) (hl2 : ∀ a ∈ l, okPa a) (g d : Nat) : ACalls E 85 [slPa l, slPa r, dB q] [] g d (dB (allB (refPa q) l r)) [] := by
  refine acalls_of_awp (fn := Tryz.f85) (N := 72) Tryz.call85 Tryz.func85 rfl rfl (by simp) ?_
  simp only [go_sem]
  refine awp_seq_k (fun K1 hK1 => ?_)
  refine awp_plain 1 (by kernel_rfl) rfl (fun g0 hg0 => ?_)
  simp only [go_sem]
  refine hK1 _ ?_
  refine awp_seq_k (fun K2 hK2 => ?_)
  refine awp_seq_k (fun K3 hK3 => ?_)
  by_cases hlen : l.length = r.length
  · have hlen' : (l.length : Int) = r.length := by omega
    refine awp_plain 5 (by kernel_rfl) rfl (fun g1 hg1 => ?_)
    simp only [go_sem, hlen']
    refine hK3 _ ?_
    refine awp_f rfl ?_
    refine awp_skip ?_
    refine hK2 _ ?_
    refine awp_seq_k (fun K4 hK4 => ?_)
    refine awp_seq_k (fun K5 hK5 => ?_)
    refine awp_plain 1 (by kernel_rfl) rfl (fun g3 hg3 => ?_)
    simp only [go_sem]
    refine hK5 _ ?_
    refine awp_block ?_
    refine awp_loop (fun m st => ∃ k, k ≤ l.length ∧ m = l.length - k ∧ allB (refPa q) (l.drop k) (r.drop k) = allB (refPa q) l r ∧
        Le { env := [(0, slPa l), (1, slPa r), (2, dB q), (7, dN k)], σ := [] } st) l.length ?_ ?_
    · refine ⟨0, Nat.zero_le _, rfl, rfl, le_of ?_⟩
      simp only [go_sem]
      trivial
    · rintro m st ⟨k, hk, rfl, hc, hle⟩
      refine awp_keep hle ?_
      clear hle
      by_cases hlt : k < l.length
      · have hlt2 : k < r.length := by omega
        rw [dropC _ _ hlt, dropC _ _ hlt2] at hc
        simp only [allB] at hc
        have g1 := getM (f := encPa) hlt
        have g2 := getM (f := encPa) hlt2
        refine awp_seq_k (fun K6 hK6 => ?_)
        refine awp_seq_k (fun K7 hK7 => ?_)
        refine awp_plain 4 (by kernel_rfl) rfl (fun g4 hg4 => ?_)
        simp only [go_sem, hlt]
        refine hK7 _ ?_
        refine awp_t rfl ?_
        refine awp_skip ?_
        refine hK6 _ ?_
        refine awp_seq_k (fun K8 hK8 => ?_)
        refine awp_block ?_
        refine awp_seq_k (fun K9 hK9 => ?_)
        refine awp_seq_k (fun K10 hK10 => ?_)
        by_cases hn : l[k].name = r[k].name
        · refine awp_anyq (by kernel_rfl) rfl (fun g6 hg6 ops6 KR6 hops6 hKR6 => ?_)
          refine qrun_eval 22 hops6 ?_
          simp only [go_sem, hn, decide_true, g1, g2]
          refine qrun_pure hops6 rfl rfl rfl (ref04Same_calls _ _ (hl2 _ (List.getElem_mem hlt)).2 _ _) (CoL.refl _) rfl ?_
          cases hs : same l[k].type r[k].type with
          | false =>
            refine qrun_last 2 hops6 ?_
            simp only [go_sem, show decide (cmpTy l[k].type r[k].type = 0) = false from hs]
            refine hKR6 _ ?_
            refine hK10 _ ?_
            refine awp_t rfl ?_
            refine awp_seq_k (fun K11 hK11 => ?_)
            refine awp_plain 1 (by kernel_rfl) rfl (fun g7 hg7 => ?_)
            simp only [go_sem]
            refine hK11 _ ?_
            refine awp_ret ?_
            rw [show refPa q l[k] r[k] = false by simp [refPa, hs]] at hc
            rw [Bool.false_and] at hc
            rw [← hc]
            refine ends_ev rfl ?_
            simp only [go_sem]
            exact Co.refl _
          | true =>
            refine qrun_last 2 hops6 ?_
            simp only [go_sem, show decide (cmpTy l[k].type r[k].type = 0) = true from hs]
            refine hKR6 _ ?_
            refine hK10 _ ?_
            refine awp_f rfl ?_
            refine awp_skip ?_
            refine hK9 _ ?_
            refine awp_seq_k (fun K12 hK12 => ?_)
            cases q with
            | false =>
              refine awp_anyq (by kernel_rfl) rfl (fun g8 hg8 ops8 KR8 hops8 hKR8 => ?_)
              refine qrun_last 28 hops8 ?_
              simp only [go_sem]
              refine hKR8 _ ?_
              refine hK12 _ ?_
              refine awp_f rfl ?_
              refine awp_skip ?_
              refine hK8 _ ?_
              refine awp_plain 3 (by kernel_rfl) rfl (fun g5 hg5 => ?_)
              simp only [go_sem]
              try simp (disch := omega) only [wrapN]
              rw [show refPa false l[k] r[k] = true by simp [refPa, hs, hn]] at hc
              rw [Bool.true_and] at hc
              refine ⟨_, ?_, k + 1, hlt, rfl, hc, le_of ?_⟩
              · omega
              simp only [go_sem]
              omega
            | true =>
              by_cases hp : l[k].pos = r[k].pos
              · refine awp_anyq (by kernel_rfl) rfl (fun g8 hg8 ops8 KR8 hops8 hKR8 => ?_)
                refine qrun_eval 24 hops8 ?_
                simp only [go_sem, hp, decide_true, g1, g2]
                refine qrun_pure hops8 rfl rfl rfl (ref04Equal_calls _ (hl2 _ (List.getElem_mem hlt)).2 _ _ _) (CoL.refl _) rfl ?_
                cases he : eqTy l[k].type r[k].type with
                | true =>
                  refine qrun_last 3 hops8 ?_
                  simp only [go_sem]
                  refine hKR8 _ ?_
                  refine hK12 _ ?_
                  refine awp_f rfl ?_
                  refine awp_skip ?_
                  refine hK8 _ ?_
                  refine awp_plain 3 (by kernel_rfl) rfl (fun g5 hg5 => ?_)
                  simp only [go_sem]
                  try simp (disch := omega) only [wrapN]
                  rw [show refPa true l[k] r[k] = true by simp [refPa, hs, hn, hp, he]] at hc
                  rw [Bool.true_and] at hc
                  refine ⟨_, ?_, k + 1, hlt, rfl, hc, le_of ?_⟩
                  · omega
                  simp only [go_sem]
                  omega
                | false =>
                  refine qrun_last 3 hops8 ?_
                  simp only [go_sem]
                  refine hKR8 _ ?_
                  refine hK12 _ ?_
                  refine awp_t rfl ?_
                  refine awp_seq_k (fun K13 hK13 => ?_)
                  refine awp_plain 1 (by kernel_rfl) rfl (fun g9 hg9 => ?_)
                  simp only [go_sem]
                  refine hK13 _ ?_
                  refine awp_ret ?_
                  rw [show refPa true l[k] r[k] = false by simp [refPa, hs, hn, hp, he]] at hc
                  rw [Bool.false_and] at hc
                  rw [← hc]
                  refine ends_ev rfl ?_
                  simp only [go_sem]
                  exact Co.refl _
              · refine awp_anyq (by kernel_rfl) rfl (fun g8 hg8 ops8 KR8 hops8 hKR8 => ?_)
                refine qrun_last 28 hops8 ?_
                simp only [go_sem, hp, g1, g2]
                refine hKR8 _ ?_
                refine hK12 _ ?_
                refine awp_t rfl ?_
                refine awp_seq_k (fun K14 hK14 => ?_)
                refine awp_plain 1 (by kernel_rfl) rfl (fun g9 hg9 => ?_)
                simp only [go_sem]
                refine hK14 _ ?_
                refine awp_ret ?_
                rw [show refPa true l[k] r[k] = false by simp [refPa, hs, hn, hp]] at hc
                rw [Bool.false_and] at hc
                rw [← hc]
                refine ends_ev rfl ?_
                simp only [go_sem]
                exact Co.refl _
        · refine awp_anyq (by kernel_rfl) rfl (fun g6 hg6 ops6 KR6 hops6 hKR6 => ?_)
          refine qrun_last 25 hops6 ?_
          simp only [go_sem, hn, g1, g2]
          refine hKR6 _ ?_
          refine hK10 _ ?_
          refine awp_t rfl ?_
          refine awp_seq_k (fun K15 hK15 => ?_)
          refine awp_plain 1 (by kernel_rfl) rfl (fun g7 hg7 => ?_)
          simp only [go_sem]
          refine hK15 _ ?_
          refine awp_ret ?_
          rw [show refPa q l[k] r[k] = false by simp [refPa, hn]] at hc
          rw [Bool.false_and] at hc
          rw [← hc]
          refine ends_ev rfl ?_
          simp only [go_sem]
          exact Co.refl _
      · rw [dropN _ _ (by omega), dropN _ _ (by omega)] at hc
        simp only [allB] at hc
        refine awp_seq_k (fun K16 hK16 => ?_)
        refine awp_seq_k (fun K17 hK17 => ?_)
        refine awp_plain 4 (by kernel_rfl) rfl (fun g4 hg4 => ?_)
        simp only [go_sem, hlt]
        refine hK17 _ ?_
        refine awp_f rfl ?_
        refine awp_exit ?_
        refine hK4 _ ?_
        refine awp_seq_k (fun K18 hK18 => ?_)
        refine awp_plain 1 (by kernel_rfl) rfl (fun g10 hg10 => ?_)
        simp only [go_sem]
        refine hK18 _ ?_
        refine awp_ret ?_
        rw [← hc]
        refine ends_ev rfl ?_
        simp only [go_sem]
        exact Co.refl _
  · have hlen' : ¬ (l.length : Int) = r.length := by omega
    refine awp_plain 5 (by kernel_rfl) rfl (fun g1 hg1 => ?_)
    simp only [go_sem, hlen']
    refine hK3 _ ?_
    refine awp_t rfl ?_
    refine awp_seq_k (fun K19 hK19 => ?_)
    refine awp_plain 1 (by kernel_rfl) rfl (fun g2 hg2 => ?_)
    simp only [go_sem]
    refine hK19 _ ?_
    refine awp_ret ?_
    rw [allB_length hlen]
    refine ends_ev rfl ?_
    simp only [go_sem]
    exact Co.refl _

end Go.Proofs.T


namespace Go.Proofs.T
open Go Go.Ab Go.RowKit

theorem smSi.ok {s : Sig} (h : smSi s) : okSi s := by
  obtain ⟨h1, ⟨h2, h3⟩, ⟨h4, h5⟩, h6⟩ := h
  exact ⟨by omega, ⟨by omega, fun f hf => ⟨by have := (h3 f hf).1; omega, smTy.ok _ (h3 f hf).2⟩⟩, ⟨by omega, fun f hf => ⟨by have := (h5 f hf).1; omega, smTy.ok _ (h5 f hf).2⟩⟩, smTy.ok _ h6⟩


theorem refSig_calls (q : Bool) (s t : Sig) (hs : okSi s) (g d : Nat) : ACalls E 59 [encSi s, encSi t, dB q] [] g d (dB (refSi q s t)) [] := by
  obtain ⟨h1, ⟨h2, h3⟩, ⟨h4, h5⟩, h6⟩ := hs
  refine acalls_of_awp (fn := Tryz.f59) (N := 54) Tryz.call59 Tryz.func59 rfl rfl (by simp) ?_
  simp only [go_sem]
  refine awp_seq_k (fun K1 hK1 => ?_)
  refine awp_plain 3 (by kernel_rfl) rfl (fun g0 hg0 => ?_)
  simp only [go_sem]
  refine hK1 _ ?_
  refine awp_seq_k (fun K2 hK2 => ?_)
  refine awp_seq_k (fun K3 hK3 => ?_)
  by_cases hn : s.name = t.name
  · refine awp_ops (by kernel_rfl) rfl (fun g1 hg1 ops1 KR1 hops1 hKR1 => ?_)
    refine aops_eval 11 hops1 ?_
    simp only [go_sem, hn, decide_true]
    refine aops_pure hops1 rfl rfl rfl (refFormals_calls q _ _ h2 h3 _ _) (CoL.refl _) ?_
    cases hf : allB (refFm q) s.formals t.formals with
    | true =>
      refine aops_eval 8 hops1 ?_
      simp only [go_sem]
      refine aops_pure hops1 rfl rfl rfl (refParams_calls q _ _ h4 h5 _ _) (CoL.refl _) ?_
      cases hp : allB (refPa q) s.params t.params with
      | true =>
        refine aops_eval 7 hops1 ?_
        simp only [go_sem]
        refine aops_pure hops1 rfl rfl rfl (ref04Same_calls _ _ h6 _ _) (CoL.refl _) ?_
        cases hs : same s.result t.result with
        | true =>
          refine aops_last 2 hops1 ?_
          simp only [go_sem, show decide (cmpTy s.result t.result = 0) = true from hs]
          refine hKR1 _ ?_
          refine hK3 _ ?_
          refine awp_f rfl ?_
          refine awp_skip ?_
          refine hK2 _ ?_
          refine awp_seq_k (fun K4 hK4 => ?_)
          cases q with
          | false =>
            refine awp_plain 17 (by kernel_rfl) rfl (fun g3 hg3 => ?_)
            simp only [go_sem]
            refine hK4 _ ?_
            refine awp_ret ?_
            rw [show refSi false s t = true by simp [refSi, hn, hf, hp, hs]]
            refine ends_ev rfl ?_
            simp only [go_sem]
            exact Co.refl _
          | true =>
            by_cases hpo : s.pos = t.pos
            · refine awp_ops (by kernel_rfl) rfl (fun g3 hg3 ops3 KR3 hops3 hKR3 => ?_)
              refine aops_eval 13 hops3 ?_
              simp only [go_sem, hpo, decide_true]
              refine aops_pure hops3 rfl rfl rfl (ref04Equal_calls _ h6 _ _ _) (CoL.refl _) ?_
              refine aops_last 3 hops3 ?_
              simp only [go_sem]
              refine hKR3 _ ?_
              refine hK4 _ ?_
              refine awp_ret ?_
              rw [show refSi true s t = eqTy s.result t.result by simp [refSi, hn, hf, hp, hs, hpo]]
              refine ends_ev rfl ?_
              simp only [go_sem]
              exact Co.refl _
            · refine awp_plain 17 (by kernel_rfl) rfl (fun g3 hg3 => ?_)
              simp only [go_sem, hpo]
              refine hK4 _ ?_
              refine awp_ret ?_
              rw [show refSi true s t = false by simp [refSi, hpo]]
              refine ends_ev rfl ?_
              simp only [go_sem]
              exact Co.refl _
        | false =>
          refine aops_last 2 hops1 ?_
          simp only [go_sem, show decide (cmpTy s.result t.result = 0) = false from hs]
          refine hKR1 _ ?_
          refine hK3 _ ?_
          refine awp_t rfl ?_
          refine awp_seq_k (fun K5 hK5 => ?_)
          refine awp_plain 1 (by kernel_rfl) rfl (fun g2 hg2 => ?_)
          simp only [go_sem]
          refine hK5 _ ?_
          refine awp_ret ?_
          rw [show refSi q s t = false by simp [refSi, hs]]
          refine ends_ev rfl ?_
          simp only [go_sem]
          exact Co.refl _
      | false =>
        refine aops_last 10 hops1 ?_
        simp only [go_sem]
        refine hKR1 _ ?_
        refine hK3 _ ?_
        refine awp_t rfl ?_
        refine awp_seq_k (fun K6 hK6 => ?_)
        refine awp_plain 1 (by kernel_rfl) rfl (fun g2 hg2 => ?_)
        simp only [go_sem]
        refine hK6 _ ?_
        refine awp_ret ?_
        rw [show refSi q s t = false by simp [refSi, hp]]
        refine ends_ev rfl ?_
        simp only [go_sem]
        exact Co.refl _
    | false =>
      refine aops_last 19 hops1 ?_
      simp only [go_sem]
      refine hKR1 _ ?_
      refine hK3 _ ?_
      refine awp_t rfl ?_
      refine awp_seq_k (fun K7 hK7 => ?_)
      refine awp_plain 1 (by kernel_rfl) rfl (fun g2 hg2 => ?_)
      simp only [go_sem]
      refine hK7 _ ?_
      refine awp_ret ?_
      rw [show refSi q s t = false by simp [refSi, hf]]
      refine ends_ev rfl ?_
      simp only [go_sem]
      exact Co.refl _
  · refine awp_plain 31 (by kernel_rfl) rfl (fun g1 hg1 => ?_)
    simp only [go_sem, hn]
    refine hK3 _ ?_
    refine awp_t rfl ?_
    refine awp_seq_k (fun K8 hK8 => ?_)
    refine awp_plain 1 (by kernel_rfl) rfl (fun g2 hg2 => ?_)
    simp only [go_sem]
    refine hK8 _ ?_
    refine awp_ret ?_
    rw [show refSi q s t = false by simp [refSi, hn]]
    refine ends_ev rfl ?_
    simp only [go_sem]
    exact Co.refl _

def alike (s t : Sig) : Bool := sameSi (canonSi s) (canonSi t)

def applySi (s : Sig) (us : List Ty) : Sig := mapSi (substTy (s.formals.map (·.name)) us) s
def zeroTy : Ty := .mk ByteArray.empty [] 0
def zeroSi : Sig := ⟨ByteArray.empty, [], [], zeroTy, 0⟩
theorem coZeroSi : Co (.agg zSi) (encSi zeroSi) := .agg (.cons (.refl _) (.cons (.nil _) (.cons (.nil _) (.cons (.refl _) (.cons (.nil _) (.cons (.refl _) (.cons (.refl _) .nil)))))))
end Go.Proofs.T


namespace Go.Proofs.T
open Go Go.Ab Go.RowKit

/-! ## Bounds -/

/-- The bound of the first formal of this name. -/
def boundOf (l : List Formal) (t : Ty) : Option Ty := if t.args.length = 0 then (l.findIdx? fun f => isS t.name f.name).bind fun i => l[i]?.map (·.bound) else none

end Go.Proofs.T


namespace Go.Proofs.T
open Go Go.Ab Go.RowKit

/-! ## Joining -/

def flatF (ls : List (List Formal)) (k : Nat) : List Formal := (ls.take k).flatten
end Go.Proofs.T


namespace Go.Proofs.T
open Go Go.Ab Go.RowKit

/-! ## Counting -/

/-- Counting goes on while it is small. -/
def cnt {α : Type} (f : α → Nat → Nat) : List α → Nat → Nat
  | [], n => n
  | a :: r, n => if n ≤ 2000 then cnt f r (f a n) else n
theorem cnt_stop {α : Type} {f : α → Nat → Nat} {l : List α} {n : Nat} (h : ¬ n ≤ 2000) : cnt f l n = n := by cases l <;> simp [cnt, h]
theorem cnt_bound {α : Type} {f : α → Nat → Nat} (M : Nat) : ∀ (l : List α) (n : Nat), (∀ a ∈ l, ∀ n, n ≤ 2000 → f a n ≤ M) → cnt f l n ≤ Nat.max n M
  | [], n, _ => Nat.le_max_left ..
  | a :: r, n, h => by
    simp only [cnt]
    split
    · rename_i hn
      refine Nat.le_trans (cnt_bound M r (f a n) fun x hx => h x (List.mem_cons_of_mem _ hx)) ?_
      exact Nat.max_le.2 ⟨Nat.le_trans (h a List.mem_cons_self n hn) (Nat.le_max_right ..), Nat.le_max_right ..⟩
    · exact Nat.le_max_left ..
theorem cnt_step {α : Type} {f : α → Nat → Nat} {l : List α} {k n : Nat} (h : k < l.length) (hn : n ≤ 2000) : cnt f (l.drop k) n = cnt f (l.drop (k + 1)) (f l[k] n) := by
  rw [dropC _ _ h]; simp only [cnt]; rw [if_pos hn]
theorem countL_cnt : ∀ (l : List Ty) (n : Nat), countL l n = cnt count l n
  | [], n => by simp [countL, cnt]
  | t :: r, n => by simp only [countL, cnt, countL_cnt r]

def cntPa (p : Param) (n : Nat) : Nat := count p.type (n + 1 + p.name.size / 50)
def cntFm (p : Formal) (n : Nat) : Nat := count p.bound (n + 1 + p.name.size / 50)
def cntSi (s : Sig) (n : Nat) : Nat := count s.result (cnt cntPa s.params (cnt cntFm s.formals (n + s.name.size / 50)))

theorem lemax (a b c : Nat) (h : c ≤ Nat.max a b) : c ≤ a ∨ c ≤ b := by
  rcases Nat.le_total a b with h1 | h1
  · right; rwa [show Nat.max a b = b from Nat.max_eq_right h1] at h
  · left; rwa [show Nat.max a b = a from Nat.max_eq_left h1] at h

theorem count_le (t : Ty) (n : Nat) (h : okTy t) : count t n ≤ n + big ∨ count t n ≤ 2000 + big := by
  have := count_bound t n h
  rcases Nat.le_total n 2000 with h1 | h1
  · right; rwa [show Nat.max n 2000 = 2000 from Nat.max_eq_right h1] at this
  · left; rwa [show Nat.max n 2000 = n from Nat.max_eq_left h1] at this
theorem cnt_le {α : Type} {f : α → Nat → Nat} (M : Nat) (l : List α) (n : Nat) (h : ∀ a ∈ l, ∀ n, n ≤ 2000 → f a n ≤ M) : cnt f l n ≤ n ∨ cnt f l n ≤ M := lemax _ _ _ (cnt_bound M l n h)
theorem cntPa_le (p : Param) (h : okPa p) (n : Nat) (hn : n ≤ 2000) : cntPa p n ≤ 3 * big := by
  have h1 := h.1
  have := count_le p.type (n + 1 + p.name.size / 50) h.2
  unfold cntPa
  unfold big at *
  omega
theorem cntFm_le (p : Formal) (h : okFm p) (n : Nat) (hn : n ≤ 2000) : cntFm p n ≤ 3 * big := by
  have h1 := h.1
  have := count_le p.bound (n + 1 + p.name.size / 50) h.2
  unfold cntFm
  unfold big at *
  omega
theorem cntSi_le (s : Sig) (h : okSi s) (n : Nat) : cntSi s n ≤ n + 6 * big := by
  obtain ⟨h1, ⟨h2, h3⟩, ⟨h4, h5⟩, h6⟩ := h
  have a1 := cnt_le (3 * big) s.formals (n + s.name.size / 50) (fun a ha n hn => cntFm_le a (h3 a ha) n hn)
  have a2 := cnt_le (3 * big) s.params (cnt cntFm s.formals (n + s.name.size / 50)) (fun a ha n hn => cntPa_le a (h5 a ha) n hn)
  have a3 := count_le s.result (cnt cntPa s.params (cnt cntFm s.formals (n + s.name.size / 50))) h6
  unfold cntSi
  unfold big at *
  omega


theorem cntPa_calls (l : List Param) (n : Nat) (hl : l.length ≤ 9223372036854775807) (hl2 : ∀ a ∈ l, okPa a) (hn : n ≤ 3000000000000000000) (g d : Nat) : ACalls E 52 [slPa l, dN n] [] g d (dN (cnt cntPa l n)) [] := by
  have hbig : big = 184467440737097518 := rfl
  refine acalls_of_awp (fn := Tryz.f52) (N := 33) Tryz.call52 Tryz.func52 rfl rfl (by simp) ?_
  simp only [go_sem]
  refine awp_seq_k (fun K1 hK1 => ?_)
  refine awp_plain 1 (by kernel_rfl) rfl (fun g0 hg0 => ?_)
  simp only [go_sem]
  refine hK1 _ ?_
  refine awp_seq_k (fun K2 hK2 => ?_)
  refine awp_seq_k (fun K3 hK3 => ?_)
  refine awp_plain 1 (by kernel_rfl) rfl (fun g1 hg1 => ?_)
  simp only [go_sem]
  refine hK3 _ ?_
  refine awp_block ?_
  refine awp_loop (fun m s => ∃ k n', k ≤ l.length ∧ m = l.length - k ∧ n' ≤ n + 3 * big ∧ cnt cntPa (l.drop k) n' = cnt cntPa l n ∧
      Le { env := [(0, slPa l), (1, dN n'), (5, dN k)], σ := [] } s) l.length ?_ ?_
  · refine ⟨0, n, Nat.zero_le _, rfl, by omega, rfl, le_of ?_⟩
    simp only [go_sem]
    trivial
  · rintro m s ⟨k, n', hk, rfl, hn', hc, hle⟩
    refine awp_keep hle ?_
    clear hle
    by_cases hlt : k < l.length
    · have g1 := getM (f := encPa) hlt
      by_cases hle : n' ≤ 2000
      · have hle' : (n' : Int) ≤ 2000 := by omega
        have h1 := (hl2 _ (List.getElem_mem hlt)).1
        have h3 := cntPa_le _ (hl2 _ (List.getElem_mem hlt)) n' hle
        refine awp_seq_k (fun K4 hK4 => ?_)
        refine awp_seq_k (fun K5 hK5 => ?_)
        refine awp_plain 8 (by kernel_rfl) rfl (fun g2 hg2 => ?_)
        simp only [go_sem, hle', hlt]
        refine hK5 _ ?_
        refine awp_t rfl ?_
        refine awp_skip ?_
        refine hK4 _ ?_
        refine awp_seq_k (fun K6 hK6 => ?_)
        refine awp_block ?_
        refine awp_any 16 (by kernel_rfl) (by kernel_rfl) rfl (fun g4 hg4 ops4 KR4 hops4 hKR4 => ?_)
        refine qrun_eval 15 hops4 ?_
        simp only [go_sem, g1]
        try simp (disch := omega) only [wrapN, Int.tdiv_eq_ediv_of_nonneg]
        refine qrun_pure hops4 rfl rfl rfl (count_calls _ (hl2 _ (List.getElem_mem hlt)).2 (n' + 1 + l[k].name.size / 50) _ _ (by omega)) (CoL.refl _) rfl ?_
        refine qrun_last 0 hops4 ?_
        simp only [go_sem]
        refine aops_last 1 hops4 ?_
        simp only [go_sem]
        refine hKR4 _ ?_
        refine hK6 _ ?_
        refine awp_plain 3 (by kernel_rfl) rfl (fun g3 hg3 => ?_)
        simp only [go_sem]
        try simp (disch := omega) only [wrapN]
        rw [cnt_step hlt hle] at hc
        refine ⟨_, ?_, k + 1, cntPa l[k] n', hlt, rfl, by omega, hc, le_of ?_⟩
        · omega
        simp only [go_sem, cntPa]
        omega
      · have hle' : ¬ (n' : Int) ≤ 2000 := by omega
        refine awp_seq_k (fun K7 hK7 => ?_)
        refine awp_seq_k (fun K8 hK8 => ?_)
        refine awp_plain 8 (by kernel_rfl) rfl (fun g2 hg2 => ?_)
        simp only [go_sem, hle', hlt]
        refine hK8 _ ?_
        rw [cnt_stop hle] at hc
        subst hc
        refine awp_f rfl ?_
        refine awp_exit ?_
        refine hK2 _ ?_
        refine awp_seq_k (fun K9 hK9 => ?_)
        refine awp_plain 2 (by kernel_rfl) rfl (fun g5 hg5 => ?_)
        simp only [go_sem]
        refine hK9 _ ?_
        refine awp_ret ?_
        refine ends_ev rfl ?_
        simp only [go_sem]
        exact Co.refl _
    · refine awp_seq_k (fun K10 hK10 => ?_)
      refine awp_seq_k (fun K11 hK11 => ?_)
      refine awp_plain 8 (by kernel_rfl) rfl (fun g2 hg2 => ?_)
      simp only [go_sem, hlt]
      refine hK11 _ ?_
      rw [dropN _ _ (by omega)] at hc
      simp only [cnt] at hc
      subst hc
      refine awp_f rfl ?_
      refine awp_exit ?_
      refine hK2 _ ?_
      refine awp_seq_k (fun K12 hK12 => ?_)
      refine awp_plain 2 (by kernel_rfl) rfl (fun g5 hg5 => ?_)
      simp only [go_sem]
      refine hK12 _ ?_
      refine awp_ret ?_
      refine ends_ev rfl ?_
      simp only [go_sem]
      exact Co.refl _

theorem cntFm_calls (l : List Formal) (n : Nat) (hl : l.length ≤ 9223372036854775807) (hl2 : ∀ a ∈ l, okFm a) (hn : n ≤ 3000000000000000000) (g d : Nat) : ACalls E 53 [slFm l, dN n] [] g d (dN (cnt cntFm l n)) [] := by
  have hbig : big = 184467440737097518 := rfl
  refine acalls_of_awp (fn := Tryz.f53) (N := 33) Tryz.call53 Tryz.func53 rfl rfl (by simp) ?_
  simp only [go_sem]
  refine awp_seq_k (fun K1 hK1 => ?_)
  refine awp_plain 1 (by kernel_rfl) rfl (fun g0 hg0 => ?_)
  simp only [go_sem]
  refine hK1 _ ?_
  refine awp_seq_k (fun K2 hK2 => ?_)
  refine awp_seq_k (fun K3 hK3 => ?_)
  refine awp_plain 1 (by kernel_rfl) rfl (fun g1 hg1 => ?_)
  simp only [go_sem]
  refine hK3 _ ?_
  refine awp_block ?_
  refine awp_loop (fun m s => ∃ k n', k ≤ l.length ∧ m = l.length - k ∧ n' ≤ n + 3 * big ∧ cnt cntFm (l.drop k) n' = cnt cntFm l n ∧
      Le { env := [(0, slFm l), (1, dN n'), (5, dN k)], σ := [] } s) l.length ?_ ?_
  · refine ⟨0, n, Nat.zero_le _, rfl, by omega, rfl, le_of ?_⟩
    simp only [go_sem]
    trivial
  · rintro m s ⟨k, n', hk, rfl, hn', hc, hle⟩
    refine awp_keep hle ?_
    clear hle
    by_cases hlt : k < l.length
    · have g1 := getM (f := encFm) hlt
      by_cases hle : n' ≤ 2000
      · have hle' : (n' : Int) ≤ 2000 := by omega
        have h1 := (hl2 _ (List.getElem_mem hlt)).1
        have h3 := cntFm_le _ (hl2 _ (List.getElem_mem hlt)) n' hle
        refine awp_seq_k (fun K4 hK4 => ?_)
        refine awp_seq_k (fun K5 hK5 => ?_)
        refine awp_plain 8 (by kernel_rfl) rfl (fun g2 hg2 => ?_)
        simp only [go_sem, hle', hlt]
        refine hK5 _ ?_
        refine awp_t rfl ?_
        refine awp_skip ?_
        refine hK4 _ ?_
        refine awp_seq_k (fun K6 hK6 => ?_)
        refine awp_block ?_
        refine awp_any 16 (by kernel_rfl) (by kernel_rfl) rfl (fun g4 hg4 ops4 KR4 hops4 hKR4 => ?_)
        refine qrun_eval 15 hops4 ?_
        simp only [go_sem, g1]
        try simp (disch := omega) only [wrapN, Int.tdiv_eq_ediv_of_nonneg]
        refine qrun_pure hops4 rfl rfl rfl (count_calls _ (hl2 _ (List.getElem_mem hlt)).2 (n' + 1 + l[k].name.size / 50) _ _ (by omega)) (CoL.refl _) rfl ?_
        refine qrun_last 0 hops4 ?_
        simp only [go_sem]
        refine aops_last 1 hops4 ?_
        simp only [go_sem]
        refine hKR4 _ ?_
        refine hK6 _ ?_
        refine awp_plain 3 (by kernel_rfl) rfl (fun g3 hg3 => ?_)
        simp only [go_sem]
        try simp (disch := omega) only [wrapN]
        rw [cnt_step hlt hle] at hc
        refine ⟨_, ?_, k + 1, cntFm l[k] n', hlt, rfl, by omega, hc, le_of ?_⟩
        · omega
        simp only [go_sem, cntFm]
        omega
      · have hle' : ¬ (n' : Int) ≤ 2000 := by omega
        refine awp_seq_k (fun K7 hK7 => ?_)
        refine awp_seq_k (fun K8 hK8 => ?_)
        refine awp_plain 8 (by kernel_rfl) rfl (fun g2 hg2 => ?_)
        simp only [go_sem, hle', hlt]
        refine hK8 _ ?_
        rw [cnt_stop hle] at hc
        subst hc
        refine awp_f rfl ?_
        refine awp_exit ?_
        refine hK2 _ ?_
        refine awp_seq_k (fun K9 hK9 => ?_)
        refine awp_plain 2 (by kernel_rfl) rfl (fun g5 hg5 => ?_)
        simp only [go_sem]
        refine hK9 _ ?_
        refine awp_ret ?_
        refine ends_ev rfl ?_
        simp only [go_sem]
        exact Co.refl _
    · refine awp_seq_k (fun K10 hK10 => ?_)
      refine awp_seq_k (fun K11 hK11 => ?_)
      refine awp_plain 8 (by kernel_rfl) rfl (fun g2 hg2 => ?_)
      simp only [go_sem, hlt]
      refine hK11 _ ?_
      rw [dropN _ _ (by omega)] at hc
      simp only [cnt] at hc
      subst hc
      refine awp_f rfl ?_
      refine awp_exit ?_
      refine hK2 _ ?_
      refine awp_seq_k (fun K12 hK12 => ?_)
      refine awp_plain 2 (by kernel_rfl) rfl (fun g5 hg5 => ?_)
      simp only [go_sem]
      refine hK12 _ ?_
      refine awp_ret ?_
      refine ends_ev rfl ?_
      simp only [go_sem]
      exact Co.refl _

theorem cntSi_calls (s : Sig) (n : Nat) (hs : okSi s) (hn : n ≤ 1500000000000000000) (g d : Nat) : ACalls E 54 [encSi s, dN n] [] g d (dN (cntSi s n)) [] := by
  have hbig : big = 184467440737097518 := rfl
  obtain ⟨h1, ⟨h2, h3⟩, ⟨h4, h5⟩, h6⟩ := hs
  have a1 := cnt_le (3 * big) s.formals (n + s.name.size / 50) (fun a ha n hn => cntFm_le a (h3 a ha) n hn)
  have a2 := cnt_le (3 * big) s.params (cnt cntFm s.formals (n + s.name.size / 50)) (fun a ha n hn => cntPa_le a (h5 a ha) n hn)
  refine acalls_of_awp (fn := Tryz.f54) (N := 20) Tryz.call54 Tryz.func54 rfl rfl (by simp) ?_
  simp only [go_sem]
  refine awp_seq_k (fun K1 hK1 => ?_)
  refine awp_plain 2 (by kernel_rfl) rfl (fun g0 hg0 => ?_)
  simp only [go_sem]
  refine hK1 _ ?_
  refine awp_seq_k (fun K2 hK2 => ?_)
  refine awp_any 15 (by kernel_rfl) (by kernel_rfl) rfl (fun g1 hg1 ops1 KR1 hops1 hKR1 => ?_)
  refine qrun_eval 12 hops1 ?_
  simp only [go_sem]
  try simp (disch := omega) only [wrapN, Int.tdiv_eq_ediv_of_nonneg]
  refine qrun_pure hops1 rfl rfl rfl (cntFm_calls s.formals (n + s.name.size / 50) h2 h3 (by omega) _ _) (CoL.refl _) rfl ?_
  refine qrun_pure hops1 rfl rfl rfl (cntPa_calls s.params _ h4 h5 (by omega) _ _) (CoL.refl _) rfl ?_
  refine qrun_pure hops1 rfl rfl rfl (count_calls _ h6 _ _ _ (by omega)) (CoL.refl _) rfl ?_
  refine qrun_last 0 hops1 ?_
  simp only [go_sem]
  refine aops_last 1 hops1 ?_
  simp only [go_sem]
  refine hKR1 _ ?_
  refine hK2 _ ?_
  refine awp_ret ?_
  refine ends_ev rfl ?_
  simp only [go_sem]
  exact Co.refl _

end Go.Proofs.T

