/- A part of the proof, under no conditions of its own: ZAM. -/
import Derived.Test.YtmmfjicebmeamaaGreatZAL
namespace Go.Proofs.T
open Go Go.Ab Go.RowKit

/-! ## Declarations and programs that are right -/

theorem smFm.ok {f : Formal} (h : smFm f) : okFm f := ⟨by have := h.1; omega, smTy.ok _ h.2⟩
theorem smPa.ok {f : Param} (h : smPa f) : okPa f := ⟨by have := h.1; omega, smTy.ok _ h.2⟩
theorem smEx.ok : ∀ e : Ex, smEx e → okEx e := by
  refine Ex.ind fun e ih h => ?_
  obtain ⟨h1, h2, ⟨h3, h4⟩, h5, h6⟩ := (smEx_iff e).1 h
  exact (okEx_iff e).2 ⟨by omega, smTy.ok _ h2, ⟨by omega, fun x hx => smTy.ok _ (h4 x hx)⟩, by omega, fun x hx => ih x hx (h6 x hx)⟩
theorem smDe.ok {d : Dec} (h : smDe d) : okDe d := by
  obtain ⟨h1, ⟨h2, h3⟩, ⟨h4, h5⟩, ⟨h6, h7⟩, h8, ⟨h9, h10⟩, h11, h12⟩ := h
  exact ⟨by omega, ⟨by omega, fun f hf => (h3 f hf).ok⟩, ⟨by omega, fun f hf => (h5 f hf).ok⟩, ⟨by omega, fun f hf => (h7 f hf).ok⟩, by omega, ⟨by omega, fun f hf => by have := h10 f hf; omega⟩, h11.ok, smEx.ok _ h12⟩
theorem smPr.ok {p : Prg} (h : smPr p) : okPr p := ⟨⟨by have := h.1.1; omega, fun f hf => (h.1.2 f hf).ok⟩, smEx.ok _ h.2⟩

noncomputable def rightFm (f : Formal) : Bool := nmOk f.name && rightTy f.bound
noncomputable def rightPa (f : Param) : Bool := nmOk f.name && rightTy f.type
noncomputable def rightSi (s : Sig) : Bool := nmOk s.name && (s.formals.all rightFm && (s.params.all rightPa && rightTy s.result))

set_option maxRecDepth 100000 in
theorem rightFms_calls (l : List Formal) (hl : l.length ≤ 1000000) (h : ∀ f ∈ l, okFm f) (hw : ∀ f ∈ l, (namesTy f.bound).length ≤ 1000000) (g d : Nat) : ACalls E 43 [slFm l] [] g d (dB (l.all rightFm)) [] := by
  refine acalls_of_awp (fn := Tryz.f43) (N := 26) Tryz.call43 Tryz.func43 rfl rfl (by simp) ?_
  simp only [go_sem]
  refine awp_seq_k (fun K1 hK1 => ?_)
  refine awp_plain 1 (by kernel_rfl) rfl (fun g0 hg0 => ?_)
  simp only [go_sem]
  refine hK1 _ ?_
  refine awp_seq_k (fun K2 hK2 => ?_)
  refine awp_seq_k (fun K3 hK3 => ?_)
  refine awp_plain 1 (by kernel_rfl) rfl (fun g1 hg1 => ?_)
  simp only [go_sem]
  refine hK3 _ ?_
  refine awp_block ?_
  refine awp_loop (fun m s => ∃ k, k ≤ l.length ∧ m = l.length - k ∧ (l.take k).all rightFm = true ∧ Le { env := [(0, slFm l), (3, dN k)], σ := [] } s) l.length ?_ ?_
  · refine ⟨0, Nat.zero_le _, rfl, rfl, le_of ?_⟩
    simp only [go_sem]
    trivial
  · rintro m s ⟨k, hk, rfl, hall, hle⟩
    refine awp_keep hle ?_
    clear hle
    refine awp_seq_k (fun K4 hK4 => ?_)
    refine awp_seq_k (fun K5 hK5 => ?_)
    by_cases hlt : k < l.length
    · have htake : (l.take (k + 1)).all rightFm = rightFm l[k] := by
        rw [List.take_add_one, List.getElem?_eq_getElem hlt, List.all_append, hall]
        simp
      have hkm := h _ (List.getElem_mem hlt)
      have hwm := hw _ (List.getElem_mem hlt)
      refine awp_plain 4 (by kernel_rfl) rfl (fun g2 hg2 => ?_)
      simp only [go_sem, hlt]
      refine hK5 _ ?_
      refine awp_t rfl ?_
      refine awp_skip ?_
      refine hK4 _ ?_
      refine awp_seq_k (fun K6 hK6 => ?_)
      refine awp_block ?_
      refine awp_seq_k (fun K7 hK7 => ?_)
      refine awp_ops (by kernel_rfl) rfl (fun g4 hg4 ops4 KR4 hops4 hKR4 => ?_)
      refine aops_eval 5 hops4 ?_
      simp only [go_sem, getM hlt]
      cases hb1 : nmOk l[k].name with
      | false =>
        refine aops_pure hops4 rfl rfl rfl (is_calls l[k].name hkm.1 _ _) (CoL.refl _) ?_
        refine aops_last 10 hops4 ?_
        simp only [go_sem, hb1, Bool.not_false]
        refine hKR4 _ ?_
        refine hK7 _ ?_
        have hf : l.all rightFm = false := by
          rw [List.all_eq_false]
          exact ⟨_, List.getElem_mem hlt, by simp [rightFm, hb1]⟩
        refine awp_t rfl ?_
        refine awp_seq_k (fun K8 hK8 => ?_)
        refine awp_plain 1 (by kernel_rfl) rfl (fun g5 hg5 => ?_)
        simp only [go_sem]
        refine hK8 _ ?_
        refine awp_ret ?_
        refine ends_ev rfl ?_
        simp only [go_sem]
        exact Co.of_eq (by rw [hf])
      | true =>
        refine aops_pure hops4 rfl rfl rfl (is_calls l[k].name hkm.1 _ _) (CoL.refl _) ?_
        refine aops_eval 7 hops4 ?_
        simp only [go_sem, hb1, Bool.not_true, getM hlt]
        cases hb2 : rightTy l[k].bound with
        | false =>
          refine aops_pure hops4 rfl rfl rfl (right04_calls _ hkm.2 hwm _ _) (CoL.refl _) ?_
          refine aops_last 2 hops4 ?_
          simp only [go_sem, hb2, Bool.not_false]
          refine hKR4 _ ?_
          refine hK7 _ ?_
          have hb1 := hb2
          have hf : l.all rightFm = false := by
            rw [List.all_eq_false]
            exact ⟨_, List.getElem_mem hlt, by simp [rightFm, hb1]⟩
          refine awp_t rfl ?_
          refine awp_seq_k (fun K9 hK9 => ?_)
          refine awp_plain 1 (by kernel_rfl) rfl (fun g5 hg5 => ?_)
          simp only [go_sem]
          refine hK9 _ ?_
          refine awp_ret ?_
          refine ends_ev rfl ?_
          simp only [go_sem]
          exact Co.of_eq (by rw [hf])
        | true =>
          refine aops_pure hops4 rfl rfl rfl (right04_calls _ hkm.2 hwm _ _) (CoL.refl _) ?_
          refine aops_last 2 hops4 ?_
          simp only [go_sem, hb2, Bool.not_true]
          refine hKR4 _ ?_
          refine hK7 _ ?_
          refine awp_f rfl ?_
          refine awp_skip ?_
          refine hK6 _ ?_
          refine awp_plain 3 (by kernel_rfl) rfl (fun g3 hg3 => ?_)
          simp only [go_sem]
          try simp (disch := omega) only [wrapN]
          refine ⟨_, ?_, k + 1, hlt, rfl, by rw [htake, rightFm, hb1, hb2]; rfl, le_of ?_⟩
          · omega
          simp only [go_sem]
          try omega
    · have : k = l.length := by omega
      subst this
      rw [List.take_length] at hall
      refine awp_plain 4 (by kernel_rfl) rfl (fun g2 hg2 => ?_)
      simp only [go_sem, hlt]
      refine hK5 _ ?_
      refine awp_f rfl ?_
      refine awp_exit ?_
      refine hK2 _ ?_
      refine awp_seq_k (fun K10 hK10 => ?_)
      refine awp_plain 1 (by kernel_rfl) rfl (fun g6 hg6 => ?_)
      simp only [go_sem]
      refine hK10 _ ?_
      refine awp_ret ?_
      refine ends_ev rfl ?_
      simp only [go_sem]
      exact Co.of_eq (by rw [hall])
set_option maxRecDepth 100000 in
theorem rightPas_calls (l : List Param) (hl : l.length ≤ 1000000) (h : ∀ f ∈ l, okPa f) (hw : ∀ f ∈ l, (namesTy f.type).length ≤ 1000000) (g d : Nat) : ACalls E 44 [slPa l] [] g d (dB (l.all rightPa)) [] := by
  refine acalls_of_awp (fn := Tryz.f44) (N := 26) Tryz.call44 Tryz.func44 rfl rfl (by simp) ?_
  simp only [go_sem]
  refine awp_seq_k (fun K1 hK1 => ?_)
  refine awp_plain 1 (by kernel_rfl) rfl (fun g0 hg0 => ?_)
  simp only [go_sem]
  refine hK1 _ ?_
  refine awp_seq_k (fun K2 hK2 => ?_)
  refine awp_seq_k (fun K3 hK3 => ?_)
  refine awp_plain 1 (by kernel_rfl) rfl (fun g1 hg1 => ?_)
  simp only [go_sem]
  refine hK3 _ ?_
  refine awp_block ?_
  refine awp_loop (fun m s => ∃ k, k ≤ l.length ∧ m = l.length - k ∧ (l.take k).all rightPa = true ∧ Le { env := [(0, slPa l), (3, dN k)], σ := [] } s) l.length ?_ ?_
  · refine ⟨0, Nat.zero_le _, rfl, rfl, le_of ?_⟩
    simp only [go_sem]
    trivial
  · rintro m s ⟨k, hk, rfl, hall, hle⟩
    refine awp_keep hle ?_
    clear hle
    refine awp_seq_k (fun K4 hK4 => ?_)
    refine awp_seq_k (fun K5 hK5 => ?_)
    by_cases hlt : k < l.length
    · have htake : (l.take (k + 1)).all rightPa = rightPa l[k] := by
        rw [List.take_add_one, List.getElem?_eq_getElem hlt, List.all_append, hall]
        simp
      have hkm := h _ (List.getElem_mem hlt)
      have hwm := hw _ (List.getElem_mem hlt)
      refine awp_plain 4 (by kernel_rfl) rfl (fun g2 hg2 => ?_)
      simp only [go_sem, hlt]
      refine hK5 _ ?_
      refine awp_t rfl ?_
      refine awp_skip ?_
      refine hK4 _ ?_
      refine awp_seq_k (fun K6 hK6 => ?_)
      refine awp_block ?_
      refine awp_seq_k (fun K7 hK7 => ?_)
      refine awp_ops (by kernel_rfl) rfl (fun g4 hg4 ops4 KR4 hops4 hKR4 => ?_)
      refine aops_eval 5 hops4 ?_
      simp only [go_sem, getM hlt]
      cases hb1 : nmOk l[k].name with
      | false =>
        refine aops_pure hops4 rfl rfl rfl (is_calls l[k].name hkm.1 _ _) (CoL.refl _) ?_
        refine aops_last 10 hops4 ?_
        simp only [go_sem, hb1, Bool.not_false]
        refine hKR4 _ ?_
        refine hK7 _ ?_
        have hf : l.all rightPa = false := by
          rw [List.all_eq_false]
          exact ⟨_, List.getElem_mem hlt, by simp [rightPa, hb1]⟩
        refine awp_t rfl ?_
        refine awp_seq_k (fun K8 hK8 => ?_)
        refine awp_plain 1 (by kernel_rfl) rfl (fun g5 hg5 => ?_)
        simp only [go_sem]
        refine hK8 _ ?_
        refine awp_ret ?_
        refine ends_ev rfl ?_
        simp only [go_sem]
        exact Co.of_eq (by rw [hf])
      | true =>
        refine aops_pure hops4 rfl rfl rfl (is_calls l[k].name hkm.1 _ _) (CoL.refl _) ?_
        refine aops_eval 7 hops4 ?_
        simp only [go_sem, hb1, Bool.not_true, getM hlt]
        cases hb2 : rightTy l[k].type with
        | false =>
          refine aops_pure hops4 rfl rfl rfl (right04_calls _ hkm.2 hwm _ _) (CoL.refl _) ?_
          refine aops_last 2 hops4 ?_
          simp only [go_sem, hb2, Bool.not_false]
          refine hKR4 _ ?_
          refine hK7 _ ?_
          have hb1 := hb2
          have hf : l.all rightPa = false := by
            rw [List.all_eq_false]
            exact ⟨_, List.getElem_mem hlt, by simp [rightPa, hb1]⟩
          refine awp_t rfl ?_
          refine awp_seq_k (fun K9 hK9 => ?_)
          refine awp_plain 1 (by kernel_rfl) rfl (fun g5 hg5 => ?_)
          simp only [go_sem]
          refine hK9 _ ?_
          refine awp_ret ?_
          refine ends_ev rfl ?_
          simp only [go_sem]
          exact Co.of_eq (by rw [hf])
        | true =>
          refine aops_pure hops4 rfl rfl rfl (right04_calls _ hkm.2 hwm _ _) (CoL.refl _) ?_
          refine aops_last 2 hops4 ?_
          simp only [go_sem, hb2, Bool.not_true]
          refine hKR4 _ ?_
          refine hK7 _ ?_
          refine awp_f rfl ?_
          refine awp_skip ?_
          refine hK6 _ ?_
          refine awp_plain 3 (by kernel_rfl) rfl (fun g3 hg3 => ?_)
          simp only [go_sem]
          try simp (disch := omega) only [wrapN]
          refine ⟨_, ?_, k + 1, hlt, rfl, by rw [htake, rightPa, hb1, hb2]; rfl, le_of ?_⟩
          · omega
          simp only [go_sem]
          try omega
    · have : k = l.length := by omega
      subst this
      rw [List.take_length] at hall
      refine awp_plain 4 (by kernel_rfl) rfl (fun g2 hg2 => ?_)
      simp only [go_sem, hlt]
      refine hK5 _ ?_
      refine awp_f rfl ?_
      refine awp_exit ?_
      refine hK2 _ ?_
      refine awp_seq_k (fun K10 hK10 => ?_)
      refine awp_plain 1 (by kernel_rfl) rfl (fun g6 hg6 => ?_)
      simp only [go_sem]
      refine hK10 _ ?_
      refine awp_ret ?_
      refine ends_ev rfl ?_
      simp only [go_sem]
      exact Co.of_eq (by rw [hall])

set_option maxRecDepth 100000 in
theorem rightSi_calls (s : Sig) (hs : smSi s) (h2 : s.formals.length ≤ 1000000) (h3 : s.params.length ≤ 1000000) (hw : wN (siTys s) ≤ 1000000) (g d : Nat) : ACalls E 45 [encSi s] [] g d (dB (rightSi s)) [] := by
  obtain ⟨k1, ⟨k2, k3⟩, ⟨k4, k5⟩, k6⟩ := hs
  have w1 : ∀ t ∈ siTys s, (namesTy t).length ≤ 1000000 := fun t ht => Nat.le_trans (wN_mem ht) hw
  refine acalls_of_awp (fn := Tryz.f45) (N := 21) Tryz.call45 Tryz.func45 rfl rfl (by simp) ?_
  simp only [go_sem]
  refine awp_seq_k (fun K1 hK1 => ?_)
  refine awp_plain 2 (by kernel_rfl) rfl (fun g0 hg0 => ?_)
  simp only [go_sem]
  refine hK1 _ ?_
  refine awp_seq_k (fun K2 hK2 => ?_)
  refine awp_ops (by kernel_rfl) rfl (fun g1 hg1 ops1 KR1 hops1 hKR1 => ?_)
  refine aops_eval 2 hops1 ?_
  simp only [go_sem]
  cases hb1 : nmOk s.name with
  | false =>
    refine aops_pure hops1 rfl rfl rfl (is_calls s.name (by omega) _ _) (CoL.refl _) ?_
    refine aops_last 16 hops1 ?_
    simp only [go_sem, hb1]
    refine hKR1 _ ?_
    refine hK2 _ ?_
    refine awp_ret ?_
    refine ends_ev rfl ?_
    simp only [go_sem]
    exact Co.of_eq (by simp [rightSi, hb1])
  | true =>
    refine aops_pure hops1 rfl rfl rfl (is_calls s.name (by omega) _ _) (CoL.refl _) ?_
    refine aops_eval 3 hops1 ?_
    simp only [go_sem, hb1]
    cases hb2 : s.formals.all rightFm with
    | false =>
      refine aops_pure hops1 rfl rfl rfl (rightFms_calls s.formals h2 (fun f hf => (k3 f hf).ok) (fun f hf => w1 _ (by unfold siTys; simp; exact .inl ⟨f, hf, rfl⟩)) _ _) (CoL.refl _) ?_
      refine aops_last 12 hops1 ?_
      simp only [go_sem, hb2]
      refine hKR1 _ ?_
      refine hK2 _ ?_
      refine awp_ret ?_
      refine ends_ev rfl ?_
      simp only [go_sem]
      exact Co.of_eq (by simp [rightSi, hb1, hb2])
    | true =>
      refine aops_pure hops1 rfl rfl rfl (rightFms_calls s.formals h2 (fun f hf => (k3 f hf).ok) (fun f hf => w1 _ (by unfold siTys; simp; exact .inl ⟨f, hf, rfl⟩)) _ _) (CoL.refl _) ?_
      refine aops_eval 4 hops1 ?_
      simp only [go_sem, hb2]
      cases hb3 : s.params.all rightPa with
      | false =>
        refine aops_pure hops1 rfl rfl rfl (rightPas_calls s.params h3 (fun f hf => (k5 f hf).ok) (fun f hf => w1 _ (by unfold siTys; simp; exact .inr (.inl ⟨f, hf, rfl⟩))) _ _) (CoL.refl _) ?_
        refine aops_last 7 hops1 ?_
        simp only [go_sem, hb3]
        refine hKR1 _ ?_
        refine hK2 _ ?_
        refine awp_ret ?_
        refine ends_ev rfl ?_
        simp only [go_sem]
        exact Co.of_eq (by simp [rightSi, hb1, hb2, hb3])
      | true =>
        refine aops_pure hops1 rfl rfl rfl (rightPas_calls s.params h3 (fun f hf => (k5 f hf).ok) (fun f hf => w1 _ (by unfold siTys; simp; exact .inr (.inl ⟨f, hf, rfl⟩))) _ _) (CoL.refl _) ?_
        refine aops_eval 4 hops1 ?_
        simp only [go_sem, hb3]
        refine aops_pure hops1 rfl rfl rfl (right04_calls _ (smTy.ok _ k6) (w1 _ (by unfold siTys; simp)) _ _) (CoL.refl _) ?_
        refine aops_last 2 hops1 ?_
        simp only [go_sem]
        refine hKR1 _ ?_
        refine hK2 _ ?_
        refine awp_ret ?_
        refine ends_ev rfl ?_
        simp only [go_sem]
        exact Co.of_eq (by simp [rightSi, hb1, hb2, hb3])
end Go.Proofs.T


namespace Go.Proofs.T
open Go Go.Ab Go.RowKit

/-! ## Declarations and programs that are right: the second part -/

set_option maxRecDepth 100000 in
theorem types05z (l : List Ty) (hl : l.length ≤ 1000000) (g d : Nat) : ACalls E 79 [slTy l, slTy []] [] g d (dB (decide (l.length = 0))) [] := by
  refine acalls_of_awp (fn := Tryz.f79) (N := 27) Tryz.call79 Tryz.func79 rfl rfl (by simp) ?_
  simp only [go_sem]
  refine awp_seq_k (fun K1 hK1 => ?_)
  refine awp_plain 1 (by kernel_rfl) rfl (fun g0 hg0 => ?_)
  simp only [go_sem]
  refine hK1 _ ?_
  refine awp_seq_k (fun K2 hK2 => ?_)
  refine awp_seq_k (fun K3 hK3 => ?_)
  by_cases h0 : l.length = 0
  · obtain rfl : l = [] := List.eq_nil_of_length_eq_zero h0
    refine awp_plain 5 (by kernel_rfl) rfl (fun g1 hg1 => ?_)
    simp only [go_sem, List.length_nil, decide_true, Bool.not_true]
    refine hK3 _ ?_
    refine awp_f rfl ?_
    refine awp_skip ?_
    refine hK2 _ ?_
    refine awp_seq_k (fun K4 hK4 => ?_)
    refine awp_seq_k (fun K5 hK5 => ?_)
    refine awp_plain 1 (by kernel_rfl) rfl (fun g3 hg3 => ?_)
    simp only [go_sem]
    refine hK5 _ ?_
    refine awp_block ?_
    refine awp_loop (fun m s => m = 0 ∧ Le { env := [(0, slTy []), (1, slTy []), (5, dN 0)], σ := [] } s) 0 ?_ ?_
    · refine ⟨rfl, le_of ?_⟩
      simp only [go_sem]
      all_goals first | exact rfl | exact ⟨rfl, rfl⟩ | trivial
    · rintro m s ⟨rfl, hle⟩
      refine awp_keep hle ?_
      clear hle
      refine awp_seq_k (fun K6 hK6 => ?_)
      refine awp_seq_k (fun K7 hK7 => ?_)
      refine awp_plain 4 (by kernel_rfl) rfl (fun g4 hg4 => ?_)
      simp only [go_sem, List.length_nil, show (((0 : Nat) : Int) < ((0 : Nat) : Int)) = False from eq_false (by decide), decide_false]
      refine hK7 _ ?_
      refine awp_f rfl ?_
      refine awp_exit ?_
      refine hK4 _ ?_
      refine awp_seq_k (fun K8 hK8 => ?_)
      refine awp_plain 1 (by kernel_rfl) rfl (fun g8 hg8 => ?_)
      simp only [go_sem]
      refine hK8 _ ?_
      refine awp_ret ?_
      refine ends_ev rfl ?_
      simp only [go_sem]
      exact Co.of_eq (by simp [])
  · have h1 : ((l.length : Int) = ((0 : Nat) : Int)) = False := eq_false (by omega)
    refine awp_plain 5 (by kernel_rfl) rfl (fun g1 hg1 => ?_)
    simp only [go_sem, List.length_nil, h1, decide_false, Bool.not_false]
    refine hK3 _ ?_
    refine awp_t rfl ?_
    refine awp_seq_k (fun K9 hK9 => ?_)
    refine awp_plain 1 (by kernel_rfl) rfl (fun g2 hg2 => ?_)
    simp only [go_sem]
    refine hK9 _ ?_
    refine awp_ret ?_
    refine ends_ev rfl ?_
    simp only [go_sem]
    exact Co.of_eq (by simp [h0])
noncomputable def sameZ (e : Ex) : Bool := decide (e.kind = 0) && (decide (e.name = ByteArray.empty) && (decide (cmpTy e.type zeroTy = 0) && (decide (e.targs.length = 0) && decide (e.kids.length = 0))))
set_option maxRecDepth 100000 in
theorem same05z (e : Ex) (h : okEx e) (h2 : e.targs.length ≤ 1000000) (g d : Nat) : ACalls E 47 [encEx e, encEx zeroEx] [] g d (dB (sameZ e)) [] := by
  have hz := ((okEx_iff e).1 h).2.1
  refine acalls_of_awp (fn := Tryz.f47) (N := 62) Tryz.call47 Tryz.func47 rfl rfl (by simp) ?_
  simp only [go_sem]
  refine awp_seq_k (fun K1 hK1 => ?_)
  refine awp_plain 3 (by kernel_rfl) rfl (fun g0 hg0 => ?_)
  simp only [go_sem]
  refine hK1 _ ?_
  refine awp_seq_k (fun K2 hK2 => ?_)
  refine awp_seq_k (fun K3 hK3 => ?_)
  by_cases k0 : e.kind = 0
  · have q0 : (e.kind = 0) = True := eq_true k0
    by_cases n0 : e.name = ByteArray.empty
    · have m0 : (e.name = ByteArray.empty) = True := eq_true n0
      cases hb : decide (cmpTy e.type zeroTy = 0) with
      | true =>
        by_cases t0 : e.targs.length = 0
        · by_cases c0 : e.kids.length = 0
          · refine awp_ops (by kernel_rfl) rfl (fun g1 hg1 ops1 KR1 hops1 hKR1 => ?_)
            refine aops_eval 17 hops1 ?_
            simp only [go_sem, zeroEx, q0, m0, decide_true, Bool.not_true]
            refine aops_pure hops1 rfl rfl rfl (ref04Same_calls e.type zeroTy hz _ _) (CoL.refl _) ?_
            refine aops_eval 7 hops1 ?_
            simp only [go_sem, hb, Bool.not_true]
            refine aops_pure hops1 rfl rfl rfl (types05z e.targs h2 _ _) (CoL.refl _) ?_
            refine aops_last 11 hops1 ?_
            simp only [go_sem, t0, c0, decide_true, Bool.not_true, List.length_nil]
            refine hKR1 _ ?_
            refine hK3 _ ?_
            refine awp_f rfl ?_
            refine awp_skip ?_
            refine hK2 _ ?_
            refine awp_seq_k (fun K4 hK4 => ?_)
            refine awp_seq_k (fun K5 hK5 => ?_)
            refine awp_plain 1 (by kernel_rfl) rfl (fun g3 hg3 => ?_)
            simp only [go_sem]
            refine hK5 _ ?_
            refine awp_block ?_
            refine awp_loop (fun m s => m = 0 ∧ Le { env := [(2, .ptr ⟨g0, 2, 0⟩ 0), (5, dN 0)], σ := [(⟨g0, 2, 0⟩, .box 28 (exC e))] } s) 0 ?_ ?_
            · refine ⟨rfl, le_of ?_⟩
              simp only [go_sem, exC]
              all_goals first | exact rfl | exact ⟨rfl, rfl⟩ | trivial
            · rintro m s ⟨rfl, hle⟩
              refine awp_keep hle ?_
              clear hle
              refine awp_seq_k (fun K6 hK6 => ?_)
              refine awp_seq_k (fun K7 hK7 => ?_)
              refine awp_plain 5 (by kernel_rfl) rfl (fun g4 hg4 => ?_)
              simp only [go_sem, exC, c0, show (((0 : Nat) : Int) < ((0 : Nat) : Int)) = False from eq_false (by decide), decide_false]
              refine hK7 _ ?_
              refine awp_f rfl ?_
              refine awp_exit ?_
              refine hK4 _ ?_
              refine awp_seq_k (fun K8 hK8 => ?_)
              refine awp_plain 1 (by kernel_rfl) rfl (fun g8 hg8 => ?_)
              simp only [go_sem]
              refine hK8 _ ?_
              refine awp_ret ?_
              refine ends_ev rfl ?_
              simp only [go_sem]
              exact Co.of_eq (by simp [sameZ, k0, n0, hb, t0, c0])
          · have c1 : ((e.kids.length : Int) = ((0 : Nat) : Int)) = False := eq_false (by omega)
            refine awp_ops (by kernel_rfl) rfl (fun g1 hg1 ops1 KR1 hops1 hKR1 => ?_)
            refine aops_eval 17 hops1 ?_
            simp only [go_sem, zeroEx, q0, m0, decide_true, Bool.not_true]
            refine aops_pure hops1 rfl rfl rfl (ref04Same_calls e.type zeroTy hz _ _) (CoL.refl _) ?_
            refine aops_eval 7 hops1 ?_
            simp only [go_sem, hb, Bool.not_true]
            refine aops_pure hops1 rfl rfl rfl (types05z e.targs h2 _ _) (CoL.refl _) ?_
            refine aops_last 11 hops1 ?_
            simp only [go_sem, t0, c1, decide_true, decide_false, Bool.not_true, Bool.not_false, List.length_nil]
            refine hKR1 _ ?_
            refine hK3 _ ?_
            refine awp_t rfl ?_
            refine awp_seq_k (fun K9 hK9 => ?_)
            refine awp_plain 1 (by kernel_rfl) rfl (fun g2 hg2 => ?_)
            simp only [go_sem]
            refine hK9 _ ?_
            refine awp_ret ?_
            refine ends_ev rfl ?_
            simp only [go_sem]
            exact Co.of_eq (by simp [sameZ, c0])
        · refine awp_ops (by kernel_rfl) rfl (fun g1 hg1 ops1 KR1 hops1 hKR1 => ?_)
          refine aops_eval 17 hops1 ?_
          simp only [go_sem, zeroEx, q0, m0, decide_true, Bool.not_true]
          refine aops_pure hops1 rfl rfl rfl (ref04Same_calls e.type zeroTy hz _ _) (CoL.refl _) ?_
          refine aops_eval 7 hops1 ?_
          simp only [go_sem, hb, Bool.not_true]
          refine aops_pure hops1 rfl rfl rfl (types05z e.targs h2 _ _) (CoL.refl _) ?_
          refine aops_last 11 hops1 ?_
          simp only [go_sem, t0, decide_false, Bool.not_true, Bool.not_false]
          refine hKR1 _ ?_
          refine hK3 _ ?_
          refine awp_t rfl ?_
          refine awp_seq_k (fun K10 hK10 => ?_)
          refine awp_plain 1 (by kernel_rfl) rfl (fun g2 hg2 => ?_)
          simp only [go_sem]
          refine hK10 _ ?_
          refine awp_ret ?_
          refine ends_ev rfl ?_
          simp only [go_sem]
          exact Co.of_eq (by simp [sameZ, t0])
      | false =>
        refine awp_ops (by kernel_rfl) rfl (fun g1 hg1 ops1 KR1 hops1 hKR1 => ?_)
        refine aops_eval 17 hops1 ?_
        simp only [go_sem, zeroEx, q0, m0, decide_true, Bool.not_true]
        refine aops_pure hops1 rfl rfl rfl (ref04Same_calls e.type zeroTy hz _ _) (CoL.refl _) ?_
        refine aops_last 19 hops1 ?_
        simp only [go_sem, hb, Bool.not_false]
        refine hKR1 _ ?_
        refine hK3 _ ?_
        refine awp_t rfl ?_
        refine awp_seq_k (fun K11 hK11 => ?_)
        refine awp_plain 1 (by kernel_rfl) rfl (fun g2 hg2 => ?_)
        simp only [go_sem]
        refine hK11 _ ?_
        refine awp_ret ?_
        refine ends_ev rfl ?_
        simp only [go_sem]
        exact Co.of_eq (by simp [sameZ, of_decide_eq_false hb])
    · have m0 : (e.name = ByteArray.empty) = False := eq_false n0
      refine awp_plain 37 (by kernel_rfl) rfl (fun g1 hg1 => ?_)
      simp only [go_sem, zeroEx, q0, m0, decide_true, decide_false, Bool.not_true, Bool.not_false]
      refine hK3 _ ?_
      refine awp_t rfl ?_
      refine awp_seq_k (fun K12 hK12 => ?_)
      refine awp_plain 1 (by kernel_rfl) rfl (fun g2 hg2 => ?_)
      simp only [go_sem]
      refine hK12 _ ?_
      refine awp_ret ?_
      refine ends_ev rfl ?_
      simp only [go_sem]
      exact Co.of_eq (by simp [sameZ, n0])
  · have q0 : (e.kind = 0) = False := eq_false k0
    refine awp_plain 37 (by kernel_rfl) rfl (fun g1 hg1 => ?_)
    simp only [go_sem, zeroEx, q0, decide_false, Bool.not_true, Bool.not_false]
    refine hK3 _ ?_
    refine awp_t rfl ?_
    refine awp_seq_k (fun K13 hK13 => ?_)
    refine awp_plain 1 (by kernel_rfl) rfl (fun g2 hg2 => ?_)
    simp only [go_sem]
    refine hK13 _ ?_
    refine awp_ret ?_
    refine ends_ev rfl ?_
    simp only [go_sem]
    exact Co.of_eq (by simp [sameZ, k0])
end Go.Proofs.T


namespace Go.Proofs.T
open Go Go.Ab Go.RowKit

/-! ## Declarations and programs that are right: the third part -/

noncomputable def noneDe (d : Dec) : Bool := decide (d.recv = (⟨#[]⟩ : ByteArray)) && (decide ((d.vars.length : Int) = 0) && (refSi false d.sig zeroSi && sameZ d.body))
noncomputable def methDe (d : Dec) : Bool := nmOk d.recv && (decide ((d.formals.length : Int) + d.fields.length + d.sigs.length = 0) && (rightSi d.sig && rightEx d.body))
noncomputable def tailDe (d : Dec) : Bool := if d.kind = 3 then methDe d else noneDe d && ((decide (d.kind = 1) && decide ((d.sigs.length : Int) = 0)) || (decide (d.kind = 2) && decide ((d.fields.length : Int) = 0)))
noncomputable def rightDe (d : Dec) : Bool := nmOk d.name && (d.formals.all rightFm && (d.fields.all rightPa && (d.sigs.all rightSi && (d.vars.all nmOk && tailDe d))))

theorem siTys_len (s : Sig) : s.formals.length + s.params.length + 1 ≤ wN (siTys s) := by
  have h2 := wN_len (siTys s)
  have : (siTys s).length = s.formals.length + s.params.length + 1 := by simp [siTys]; omega
  omega
set_option maxRecDepth 100000 in
theorem rightDe_calls (d : Dec) (hd : smDe d) (hw : wN (deTys d) ≤ 1000000) (g q : Nat) : ACalls E 21 [encDe d] [] g q (dB (rightDe d)) [] := by
  obtain ⟨k1, ⟨k2, k3⟩, ⟨k4, k5⟩, ⟨k6, k7⟩, k8, ⟨k9, k10⟩, k11, k12⟩ := hd
  have w1 : ∀ t ∈ deTys d, (namesTy t).length ≤ 1000000 := fun t ht => Nat.le_trans (wN_mem ht) hw
  have w2 : ∀ f ∈ d.formals, (namesTy f.bound).length ≤ 1000000 := fun f hf => w1 _ (by unfold deTys; simp; exact .inl ⟨f, hf, rfl⟩)
  have w3 : ∀ f ∈ d.fields, (namesTy f.type).length ≤ 1000000 := fun f hf => w1 _ (by unfold deTys; simp; exact .inr (.inl ⟨f, hf, rfl⟩))
  have hw2 := hw
  unfold deTys at hw2
  rw [wN_app, wN_app, wN_app, wN_app, wN_flat] at hw2
  have w4 : ∀ s ∈ d.sigs, wN (siTys s) ≤ 1000000 := fun s hs => by
    have : wN (siTys s) ≤ (d.sigs.map (fun a => wN (siTys a))).sum := by
      clear hw2
      revert hs
      generalize d.sigs = l
      intro hs
      induction l with
      | nil => cases hs
      | cons x r ih =>
        rw [List.map_cons, List.sum_cons]
        rcases List.mem_cons.1 hs with rfl | h
        · omega
        · have := ih h; omega
    omega
  have w5 : wN (siTys d.sig) ≤ 1000000 := by omega
  have w6 : wN (exTys d.body) ≤ 1000000 := by omega
  have w7 : ∀ s ∈ d.sigs, s.formals.length ≤ 1000000 ∧ s.params.length ≤ 1000000 := fun s hs => by
    have := w4 s hs
    have h2 := siTys_len s
    omega
  have w8 : d.sig.formals.length ≤ 1000000 ∧ d.sig.params.length ≤ 1000000 := by
    have h2 := siTys_len d.sig
    omega
  refine acalls_of_awp (fn := Tryz.f21) (N := 124) Tryz.call21 Tryz.func21 rfl rfl (by simp) ?_
  simp only [go_sem]
  refine awp_seq_k (fun K1 hK1 => ?_)
  refine awp_plain 2 (by kernel_rfl) rfl (fun g0 hg0 => ?_)
  simp only [go_sem]
  refine hK1 _ ?_
  refine awp_seq_k (fun K2 hK2 => ?_)
  refine awp_seq_k (fun K3 hK3 => ?_)
  refine awp_ops (by kernel_rfl) rfl (fun g1 hg1 ops1 KR1 hops1 hKR1 => ?_)
  refine aops_eval 2 hops1 ?_
  simp only [go_sem]
  cases b1 : nmOk d.name with
  | false =>
    refine aops_pure hops1 rfl rfl rfl (is_calls d.name (by omega) _ _) (CoL.refl _) ?_
    refine aops_last 13 hops1 ?_
    simp only [go_sem, b1, Bool.not_false]
    refine hKR1 _ ?_
    refine hK3 _ ?_
    refine awp_t rfl ?_
    refine awp_seq_k (fun K4 hK4 => ?_)
    refine awp_plain 1 (by kernel_rfl) rfl (fun g2 hg2 => ?_)
    simp only [go_sem]
    refine hK4 _ ?_
    refine awp_ret ?_
    refine ends_ev rfl ?_
    simp only [go_sem]
    exact Co.of_eq (by simp only [rightDe, b1, Bool.false_and])
  | true =>
    refine aops_pure hops1 rfl rfl rfl (is_calls d.name (by omega) _ _) (CoL.refl _) ?_
    refine aops_eval 4 hops1 ?_
    simp only [go_sem, b1, Bool.not_true]
    cases b2 : d.formals.all rightFm with
    | false =>
      refine aops_pure hops1 rfl rfl rfl (rightFms_calls d.formals (by omega) (fun f hf => (k3 f hf).ok) w2 _ _) (CoL.refl _) ?_
      refine aops_last 8 hops1 ?_
      simp only [go_sem, b2, Bool.not_false]
      refine hKR1 _ ?_
      refine hK3 _ ?_
      refine awp_t rfl ?_
      refine awp_seq_k (fun K5 hK5 => ?_)
      refine awp_plain 1 (by kernel_rfl) rfl (fun g2 hg2 => ?_)
      simp only [go_sem]
      refine hK5 _ ?_
      refine awp_ret ?_
      refine ends_ev rfl ?_
      simp only [go_sem]
      exact Co.of_eq (by simp only [rightDe, b1, b2, Bool.false_and, Bool.and_false])
    | true =>
      refine aops_pure hops1 rfl rfl rfl (rightFms_calls d.formals (by omega) (fun f hf => (k3 f hf).ok) w2 _ _) (CoL.refl _) ?_
      refine aops_eval 5 hops1 ?_
      simp only [go_sem, b2, Bool.not_true]
      cases b3 : d.fields.all rightPa with
      | false =>
        refine aops_pure hops1 rfl rfl rfl (rightPas_calls d.fields k4 (fun f hf => (k5 f hf).ok) w3 _ _) (CoL.refl _) ?_
        refine aops_last 2 hops1 ?_
        simp only [go_sem, b3, Bool.not_false]
        refine hKR1 _ ?_
        refine hK3 _ ?_
        refine awp_t rfl ?_
        refine awp_seq_k (fun K6 hK6 => ?_)
        refine awp_plain 1 (by kernel_rfl) rfl (fun g2 hg2 => ?_)
        simp only [go_sem]
        refine hK6 _ ?_
        refine awp_ret ?_
        refine ends_ev rfl ?_
        simp only [go_sem]
        exact Co.of_eq (by simp only [rightDe, b1, b2, b3, Bool.false_and, Bool.and_false])
      | true =>
        refine aops_pure hops1 rfl rfl rfl (rightPas_calls d.fields k4 (fun f hf => (k5 f hf).ok) w3 _ _) (CoL.refl _) ?_
        refine aops_last 2 hops1 ?_
        simp only [go_sem, b3, Bool.not_true]
        refine hKR1 _ ?_
        refine hK3 _ ?_
        refine awp_f rfl ?_
        refine awp_skip ?_
        refine hK2 _ ?_
        refine awp_seq_k (fun K7 hK7 => ?_)
        refine awp_seq_k (fun K8 hK8 => ?_)
        refine awp_plain 1 (by kernel_rfl) rfl (fun g3 hg3 => ?_)
        simp only [go_sem]
        refine hK8 _ ?_
        refine awp_block ?_
        refine awp_loop (fun m s => ∃ k, k ≤ d.sigs.length ∧ m = d.sigs.length - k ∧ (d.sigs.take k).all rightSi = true ∧ Le { env := [(1, .ptr ⟨g0, 1, 0⟩ 0), (3, dN k)], σ := [(⟨g0, 1, 0⟩, .box 48 (deC d))] } s) d.sigs.length ?_ ?_
        · refine ⟨0, Nat.zero_le _, rfl, rfl, le_of ?_⟩
          simp only [go_sem]
          trivial
        · rintro m s ⟨k, hk, rfl, hall, hle⟩
          refine awp_keep hle ?_
          clear hle
          refine awp_seq_k (fun K9 hK9 => ?_)
          refine awp_seq_k (fun K10 hK10 => ?_)
          by_cases hlt : k < d.sigs.length
          · have htake : (d.sigs.take (k + 1)).all rightSi = rightSi d.sigs[k] := by
              rw [List.take_add_one, List.getElem?_eq_getElem hlt, List.all_append, hall]
              simp
            have hmem := List.getElem_mem hlt
            refine awp_plain 5 (by kernel_rfl) rfl (fun g4 hg4 => ?_)
            simp only [go_sem, hlt]
            refine hK10 _ ?_
            refine awp_t rfl ?_
            refine awp_skip ?_
            refine hK9 _ ?_
            refine awp_seq_k (fun K11 hK11 => ?_)
            refine awp_block ?_
            refine awp_seq_k (fun K12 hK12 => ?_)
            refine awp_ops (by kernel_rfl) rfl (fun g6 hg6 ops6 KR6 hops6 hKR6 => ?_)
            refine aops_eval 5 hops6 ?_
            simp only [go_sem, getM hlt]
            cases hb : rightSi d.sigs[k] with
            | false =>
              have b4 : d.sigs.all rightSi = false := by
                rw [List.all_eq_false]
                exact ⟨_, hmem, by rw [hb]; decide⟩
              refine aops_pure hops6 rfl rfl rfl (rightSi_calls _ (k7 _ hmem) (w7 _ hmem).1 (w7 _ hmem).2 (w4 _ hmem) _ _) (CoL.refl _) ?_
              refine aops_last 1 hops6 ?_
              simp only [go_sem, hb, Bool.not_false]
              refine hKR6 _ ?_
              refine hK12 _ ?_
              refine awp_t rfl ?_
              refine awp_seq_k (fun K13 hK13 => ?_)
              refine awp_plain 1 (by kernel_rfl) rfl (fun g7 hg7 => ?_)
              simp only [go_sem]
              refine hK13 _ ?_
              refine awp_ret ?_
              refine ends_ev rfl ?_
              simp only [go_sem]
              exact Co.of_eq (by simp only [rightDe, b1, b2, b3, b4, Bool.false_and, Bool.and_false])
            | true =>
              refine aops_pure hops6 rfl rfl rfl (rightSi_calls _ (k7 _ hmem) (w7 _ hmem).1 (w7 _ hmem).2 (w4 _ hmem) _ _) (CoL.refl _) ?_
              refine aops_last 1 hops6 ?_
              simp only [go_sem, hb, Bool.not_true]
              refine hKR6 _ ?_
              refine hK12 _ ?_
              refine awp_f rfl ?_
              refine awp_skip ?_
              refine hK11 _ ?_
              refine awp_plain 3 (by kernel_rfl) rfl (fun g5 hg5 => ?_)
              simp only [go_sem]
              try simp (disch := omega) only [wrapN]
              refine ⟨_, ?_, k + 1, hlt, rfl, by rw [htake, hb], le_of ?_⟩
              · omega
              simp only [go_sem]
              try omega
          · have : k = d.sigs.length := by omega
            subst this
            rw [List.take_length] at hall
            refine awp_plain 5 (by kernel_rfl) rfl (fun g4 hg4 => ?_)
            simp only [go_sem, hlt]
            refine hK10 _ ?_
            refine awp_f rfl ?_
            refine awp_exit ?_
            refine hK7 _ ?_
            refine awp_seq_k (fun K14 hK14 => ?_)
            refine awp_seq_k (fun K15 hK15 => ?_)
            refine awp_plain 1 (by kernel_rfl) rfl (fun g8 hg8 => ?_)
            simp only [go_sem]
            refine hK15 _ ?_
            refine awp_block ?_
            refine awp_loop (fun m s => ∃ k, k ≤ d.vars.length ∧ m = d.vars.length - k ∧ (d.vars.take k).all nmOk = true ∧ Le { env := [(1, .ptr ⟨g0, 1, 0⟩ 0), (4, dN k)], σ := [(⟨g0, 1, 0⟩, .box 48 (deC d))] } s) d.vars.length ?_ ?_
            · refine ⟨0, Nat.zero_le _, rfl, rfl, le_of ?_⟩
              simp only [go_sem]
              trivial
            · rintro m s ⟨k, hk, rfl, hall2, hle⟩
              refine awp_keep hle ?_
              clear hle
              refine awp_seq_k (fun K16 hK16 => ?_)
              refine awp_seq_k (fun K17 hK17 => ?_)
              by_cases hlt : k < d.vars.length
              · have htake : (d.vars.take (k + 1)).all nmOk = nmOk d.vars[k] := by
                  rw [List.take_add_one, List.getElem?_eq_getElem hlt, List.all_append, hall2]
                  simp
                have hmem := List.getElem_mem hlt
                have hvs : d.vars[k].size ≤ 9223372036854775807 := by have := k10 _ hmem; omega
                refine awp_plain 5 (by kernel_rfl) rfl (fun g9 hg9 => ?_)
                simp only [go_sem, hlt]
                refine hK17 _ ?_
                refine awp_t rfl ?_
                refine awp_skip ?_
                refine hK16 _ ?_
                refine awp_seq_k (fun K18 hK18 => ?_)
                refine awp_block ?_
                refine awp_seq_k (fun K19 hK19 => ?_)
                refine awp_ops (by kernel_rfl) rfl (fun g11 hg11 ops11 KR11 hops11 hKR11 => ?_)
                refine aops_eval 5 hops11 ?_
                simp only [go_sem, getM hlt]
                cases hb : nmOk d.vars[k] with
                | false =>
                  have b5 : d.vars.all nmOk = false := by
                    rw [List.all_eq_false]
                    exact ⟨_, hmem, by rw [hb]; decide⟩
                  refine aops_pure hops11 rfl rfl rfl (is_calls d.vars[k] hvs _ _) (CoL.refl _) ?_
                  refine aops_last 1 hops11 ?_
                  simp only [go_sem, hb, Bool.not_false]
                  refine hKR11 _ ?_
                  refine hK19 _ ?_
                  refine awp_t rfl ?_
                  refine awp_seq_k (fun K20 hK20 => ?_)
                  refine awp_plain 1 (by kernel_rfl) rfl (fun g12 hg12 => ?_)
                  simp only [go_sem]
                  refine hK20 _ ?_
                  refine awp_ret ?_
                  refine ends_ev rfl ?_
                  simp only [go_sem]
                  exact Co.of_eq (by simp only [rightDe, b1, b2, b3, hall, b5, Bool.false_and, Bool.and_false])
                | true =>
                  refine aops_pure hops11 rfl rfl rfl (is_calls d.vars[k] hvs _ _) (CoL.refl _) ?_
                  refine aops_last 1 hops11 ?_
                  simp only [go_sem, hb, Bool.not_true]
                  refine hKR11 _ ?_
                  refine hK19 _ ?_
                  refine awp_f rfl ?_
                  refine awp_skip ?_
                  refine hK18 _ ?_
                  refine awp_plain 3 (by kernel_rfl) rfl (fun g10 hg10 => ?_)
                  simp only [go_sem]
                  try simp (disch := omega) only [wrapN]
                  refine ⟨_, ?_, k + 1, hlt, rfl, by rw [htake, hb], le_of ?_⟩
                  · omega
                  simp only [go_sem]
                  try omega
              · have : k = d.vars.length := by omega
                subst this
                rw [List.take_length] at hall2
                refine awp_plain 5 (by kernel_rfl) rfl (fun g9 hg9 => ?_)
                simp only [go_sem, hlt]
                refine hK17 _ ?_
                refine awp_f rfl ?_
                refine awp_exit ?_
                refine hK14 _ ?_
                refine awp_seq_k (fun K21 hK21 => ?_)
                refine awp_seq_k (fun K22 hK22 => ?_)
                have hR : rightDe d = tailDe d := by
                  unfold rightDe
                  rw [b1, b2, b3, hall, hall2]
                  rfl
                by_cases q3 : d.kind = 3
                · refine awp_plain 3 (by kernel_rfl) rfl (fun g13 hg13 => ?_)
                  simp only [go_sem, q3, decide_true]
                  refine hK22 _ ?_
                  refine awp_t rfl ?_
                  refine awp_seq_k (fun K23 hK23 => ?_)
                  refine awp_ops (by kernel_rfl) rfl (fun g14 hg14 ops14 KR14 hops14 hKR14 => ?_)
                  refine aops_eval 2 hops14 ?_
                  simp only [go_sem]
                  cases c1 : nmOk d.recv with
                  | false =>
                    refine aops_pure hops14 rfl rfl rfl (is_calls d.recv (by omega) _ _) (CoL.refl _) ?_
                    refine aops_last 25 hops14 ?_
                    simp only [go_sem, c1]
                    try simp (disch := omega) only [wrapN, wrapB, Int.tdiv_eq_ediv_of_nonneg, Int.tmod_eq_emod_of_nonneg]
                    refine hKR14 _ ?_
                    refine hK23 _ ?_
                    refine awp_ret ?_
                    refine ends_ev rfl ?_
                    simp only [go_sem]
                    exact Co.of_eq (by rw [hR]; simp [tailDe, methDe, q3, c1])
                  | true =>
                    by_cases c2 : (d.formals.length : Int) + d.fields.length + d.sigs.length = 0
                    · have r2 := eq_true c2
                      refine aops_pure hops14 rfl rfl rfl (is_calls d.recv (by omega) _ _) (CoL.refl _) ?_
                      refine aops_eval 17 hops14 ?_
                      simp only [go_sem, c1]
                      try simp (disch := omega) only [wrapN]
                      try simp only [go_sem, r2, decide_true]
                      try simp (disch := omega) only [wrapN, wrapB, Int.tdiv_eq_ediv_of_nonneg, Int.tmod_eq_emod_of_nonneg]
                      cases c3 : rightSi d.sig with
                      | false =>
                        refine aops_pure hops14 rfl rfl rfl (rightSi_calls _ k11 w8.1 w8.2 w5 _ _) (CoL.refl _) ?_
                        refine aops_last 7 hops14 ?_
                        simp only [go_sem, c3]
                        refine hKR14 _ ?_
                        refine hK23 _ ?_
                        refine awp_ret ?_
                        refine ends_ev rfl ?_
                        simp only [go_sem]
                        exact Co.of_eq (by rw [hR]; simp [tailDe, methDe, q3, c1, c2, c3])
                      | true =>
                        refine aops_pure hops14 rfl rfl rfl (rightSi_calls _ k11 w8.1 w8.2 w5 _ _) (CoL.refl _) ?_
                        refine aops_eval 4 hops14 ?_
                        simp only [go_sem, c3]
                        refine aops_pure hops14 rfl rfl rfl (rightEx_calls _ (smEx.ok _ k12) w6 _ _) (CoL.refl _) ?_
                        refine aops_last 2 hops14 ?_
                        simp only [go_sem]
                        refine hKR14 _ ?_
                        refine hK23 _ ?_
                        refine awp_ret ?_
                        refine ends_ev rfl ?_
                        simp only [go_sem]
                        exact Co.of_eq (by rw [hR]; simp [tailDe, methDe, q3, c1, c2, c3])
                    · have r2 := eq_false c2
                      refine aops_pure hops14 rfl rfl rfl (is_calls d.recv (by omega) _ _) (CoL.refl _) ?_
                      refine aops_last 25 hops14 ?_
                      simp only [go_sem, c1]
                      try simp (disch := omega) only [wrapN]
                      try simp only [go_sem, r2, decide_false]
                      try simp (disch := omega) only [wrapN, wrapB, Int.tdiv_eq_ediv_of_nonneg, Int.tmod_eq_emod_of_nonneg]
                      refine hKR14 _ ?_
                      refine hK23 _ ?_
                      refine awp_ret ?_
                      refine ends_ev rfl ?_
                      simp only [go_sem]
                      exact Co.of_eq (by rw [hR]; simp [tailDe, methDe, q3, c1, c2])
                · have r3 : (d.kind = 3) = False := eq_false q3
                  refine awp_plain 3 (by kernel_rfl) rfl (fun g13 hg13 => ?_)
                  simp only [go_sem, r3, decide_false]
                  refine hK22 _ ?_
                  refine awp_f rfl ?_
                  refine awp_skip ?_
                  refine hK21 _ ?_
                  refine awp_seq_k (fun K24 hK24 => ?_)
                  have coZ : Co (.agg [dI 0, .val (.string ByteArray.empty), .val (.string ByteArray.empty), .val (.slice none 0 0), dI 0, .val (.slice none 0 0), .val (.slice none 0 0), dI 0]) (encEx zeroEx) := by
                    rw [encEx_agg]
                    exact .agg (.cons (.refl _) (.cons (.refl _) (.cons (.refl _) (.cons (.nil _) (.cons (.refl _) (.cons (.nil _) (.cons (.nil _) (.cons (.refl _) .nil))))))))
                  by_cases n1 : d.recv = (⟨#[]⟩ : ByteArray)
                  · have m1 := eq_true n1
                    by_cases n2 : (d.vars.length : Int) = 0
                    · have m2 := eq_true n2
                      have n3 : d.vars = [] := List.eq_nil_of_length_eq_zero (by omega)
                      refine awp_ops (by kernel_rfl) rfl (fun g15 hg15 ops15 KR15 hops15 hKR15 => ?_)
                      refine aops_eval 13 hops15 ?_
                      simp only [go_sem, m1, m2, decide_true]
                      cases hr : refSi false d.sig zeroSi with
                      | false =>
                        refine aops_pure hops15 rfl rfl rfl (refSig_calls false d.sig zeroSi k11.ok _ _) (.cons (.refl _) (.cons coZeroSi (.cons (.refl _) .nil))) ?_
                        refine aops_last 8 hops15 ?_
                        simp only [go_sem, hr]
                        refine hKR15 _ ?_
                        refine hK24 _ ?_
                        refine awp_seq_k (fun K25 hK25 => ?_)
                        refine awp_plain 24 (by kernel_rfl) rfl (fun g16 hg16 => ?_)
                        simp only [go_sem]
                        refine hK25 _ ?_
                        refine awp_ret ?_
                        refine ends_ev rfl ?_
                        simp only [go_sem]
                        exact Co.of_eq (by rw [hR]; simp [tailDe, noneDe, q3, n1, n3, hr])
                      | true =>
                        refine aops_pure hops15 rfl rfl rfl (refSig_calls false d.sig zeroSi k11.ok _ _) (.cons (.refl _) (.cons coZeroSi (.cons (.refl _) .nil))) ?_
                        refine aops_eval 5 hops15 ?_
                        simp only [go_sem, hr]
                        cases hz : sameZ d.body with
                        | false =>
                          refine aops_pure hops15 rfl rfl rfl (same05z d.body (smEx.ok _ k12) ((smEx_iff _).1 k12).2.2.1.1 _ _) (.cons (.refl _) (.cons coZ .nil)) ?_
                          refine aops_last 2 hops15 ?_
                          simp only [go_sem, hz]
                          refine hKR15 _ ?_
                          refine hK24 _ ?_
                          refine awp_seq_k (fun K26 hK26 => ?_)
                          refine awp_plain 24 (by kernel_rfl) rfl (fun g16 hg16 => ?_)
                          simp only [go_sem]
                          refine hK26 _ ?_
                          refine awp_ret ?_
                          refine ends_ev rfl ?_
                          simp only [go_sem]
                          exact Co.of_eq (by rw [hR]; simp [tailDe, noneDe, q3, n1, n3, hr, hz])
                        | true =>
                          refine aops_pure hops15 rfl rfl rfl (same05z d.body (smEx.ok _ k12) ((smEx_iff _).1 k12).2.2.1.1 _ _) (.cons (.refl _) (.cons coZ .nil)) ?_
                          refine aops_last 2 hops15 ?_
                          simp only [go_sem, hz]
                          refine hKR15 _ ?_
                          refine hK24 _ ?_
                          refine awp_seq_k (fun K27 hK27 => ?_)
                          by_cases q1 : d.kind = 1
                          · have r1 := eq_true q1
                            by_cases s1 : (d.sigs.length : Int) = 0
                            · have t1 := eq_true s1
                              have u1 : d.sigs = [] := List.eq_nil_of_length_eq_zero (by omega)
                              refine awp_plain 24 (by kernel_rfl) rfl (fun g16 hg16 => ?_)
                              simp only [go_sem, r1, t1, decide_true]
                              refine hK27 _ ?_
                              refine awp_ret ?_
                              refine ends_ev rfl ?_
                              simp only [go_sem]
                              exact Co.of_eq (by rw [hR]; simp [tailDe, noneDe, n1, n3, hr, hz, q1, u1])
                            · have t1 := eq_false s1
                              have r2 : (d.kind = 2) = False := eq_false (by omega)
                              have u1 : ¬ d.sigs = [] := fun h => by rw [h] at s1; exact s1 rfl
                              refine awp_plain 24 (by kernel_rfl) rfl (fun g16 hg16 => ?_)
                              simp only [go_sem, r1, t1, r2, decide_true, decide_false]
                              refine hK27 _ ?_
                              refine awp_ret ?_
                              refine ends_ev rfl ?_
                              simp only [go_sem]
                              exact Co.of_eq (by rw [hR]; simp [tailDe, noneDe, n1, n3, hr, hz, q1, u1])
                          · have r1 := eq_false q1
                            by_cases q2 : d.kind = 2
                            · have r2 := eq_true q2
                              refine awp_plain 24 (by kernel_rfl) rfl (fun g16 hg16 => ?_)
                              simp only [go_sem, r1, r2, decide_true, decide_false]
                              refine hK27 _ ?_
                              refine awp_ret ?_
                              refine ends_ev rfl ?_
                              simp only [go_sem]
                              exact Co.of_eq (by rw [hR]; simp [tailDe, noneDe, n1, n3, hr, hz, q2])
                            · have r2 := eq_false q2
                              refine awp_plain 24 (by kernel_rfl) rfl (fun g16 hg16 => ?_)
                              simp only [go_sem, r1, r2, decide_false]
                              refine hK27 _ ?_
                              refine awp_ret ?_
                              refine ends_ev rfl ?_
                              simp only [go_sem]
                              exact Co.of_eq (by rw [hR]; simp [tailDe, noneDe, q3, n1, n3, hr, hz, q1, q2])
                    · have m2 := eq_false n2
                      have n3 : ¬ d.vars = [] := fun h => by rw [h] at n2; exact n2 rfl
                      refine awp_plain 22 (by kernel_rfl) rfl (fun g15 hg15 => ?_)
                      simp only [go_sem, m1, m2, decide_true, decide_false]
                      refine hK24 _ ?_
                      refine awp_seq_k (fun K28 hK28 => ?_)
                      refine awp_plain 24 (by kernel_rfl) rfl (fun g16 hg16 => ?_)
                      simp only [go_sem]
                      refine hK28 _ ?_
                      refine awp_ret ?_
                      refine ends_ev rfl ?_
                      simp only [go_sem]
                      exact Co.of_eq (by rw [hR]; simp [tailDe, noneDe, q3, n1, n3])
                  · have m1 := eq_false n1
                    refine awp_plain 22 (by kernel_rfl) rfl (fun g15 hg15 => ?_)
                    simp only [go_sem, m1, decide_false]
                    refine hK24 _ ?_
                    refine awp_seq_k (fun K29 hK29 => ?_)
                    refine awp_plain 24 (by kernel_rfl) rfl (fun g16 hg16 => ?_)
                    simp only [go_sem]
                    refine hK29 _ ?_
                    refine awp_ret ?_
                    refine ends_ev rfl ?_
                    simp only [go_sem]
                    exact Co.of_eq (by rw [hR]; simp [tailDe, noneDe, q3, n1])
noncomputable def rightPr (p : Prg) : Bool := p.decls.all rightDe && rightEx p.main
theorem sum_mem {α : Type} (w : α → Nat) {a : α} : ∀ {l : List α}, a ∈ l → w a ≤ (l.map w).sum
  | [], h => by cases h
  | x :: l, h => by
    rw [List.map_cons, List.sum_cons]
    rcases List.mem_cons.1 h with rfl | h
    · omega
    · have := sum_mem w h; omega
theorem wN_dec {p : Prg} {d : Dec} (h : d ∈ p.decls) : wN (deTys d) ≤ wN (prTys p) := by
  unfold prTys
  rw [wN_app, wN_flat]
  have := sum_mem (fun a => wN (deTys a)) h
  omega
set_option maxRecDepth 100000 in
theorem rightPr_calls (p : Prg) (hp : smPr p) (hw : wN (prTys p) ≤ 1000000) (g q : Nat) : ACalls E 7 [encPr p] [] g q (dB (rightPr p)) [] := by
  obtain ⟨⟨k1, k2⟩, k3⟩ := hp
  have w2 : wN (exTys p.main) ≤ 1000000 := by
    unfold prTys at hw
    rw [wN_app] at hw
    omega
  refine acalls_of_awp (fn := Tryz.f7) (N := 21) Tryz.call7 Tryz.func7 rfl rfl (by simp) ?_
  simp only [go_sem]
  refine awp_seq_k (fun K1 hK1 => ?_)
  refine awp_plain 2 (by kernel_rfl) rfl (fun g0 hg0 => ?_)
  simp only [go_sem]
  refine hK1 _ ?_
  refine awp_seq_k (fun K2 hK2 => ?_)
  refine awp_seq_k (fun K3 hK3 => ?_)
  refine awp_plain 1 (by kernel_rfl) rfl (fun g1 hg1 => ?_)
  simp only [go_sem]
  refine hK3 _ ?_
  refine awp_block ?_
  refine awp_loop (fun m s => ∃ k, k ≤ p.decls.length ∧ m = p.decls.length - k ∧ (p.decls.take k).all rightDe = true ∧ Le { env := [(1, .ptr ⟨g0, 1, 0⟩ 0), (3, dN k)], σ := [(⟨g0, 1, 0⟩, .box 30 (prC p))] } s) p.decls.length ?_ ?_
  · refine ⟨0, Nat.zero_le _, rfl, rfl, le_of ?_⟩
    simp only [go_sem]
    trivial
  · rintro m s ⟨k, hk, rfl, hall, hle⟩
    refine awp_keep hle ?_
    clear hle
    refine awp_seq_k (fun K4 hK4 => ?_)
    refine awp_seq_k (fun K5 hK5 => ?_)
    by_cases hlt : k < p.decls.length
    · have htake : (p.decls.take (k + 1)).all rightDe = rightDe p.decls[k] := by
        rw [List.take_add_one, List.getElem?_eq_getElem hlt, List.all_append, hall]
        simp
      have hmem := List.getElem_mem hlt
      refine awp_plain 5 (by kernel_rfl) rfl (fun g2 hg2 => ?_)
      simp only [go_sem, hlt]
      refine hK5 _ ?_
      refine awp_t rfl ?_
      refine awp_skip ?_
      refine hK4 _ ?_
      refine awp_seq_k (fun K6 hK6 => ?_)
      refine awp_block ?_
      refine awp_seq_k (fun K7 hK7 => ?_)
      refine awp_ops (by kernel_rfl) rfl (fun g4 hg4 ops4 KR4 hops4 hKR4 => ?_)
      refine aops_eval 5 hops4 ?_
      simp only [go_sem, getM hlt]
      cases hb : rightDe p.decls[k] with
      | false =>
        have b4 : p.decls.all rightDe = false := by
          rw [List.all_eq_false]
          exact ⟨_, hmem, by rw [hb]; decide⟩
        refine aops_pure hops4 rfl rfl rfl (rightDe_calls _ (k2 _ hmem) (Nat.le_trans (wN_dec hmem) hw) _ _) (CoL.refl _) ?_
        refine aops_last 1 hops4 ?_
        simp only [go_sem, hb, Bool.not_false]
        refine hKR4 _ ?_
        refine hK7 _ ?_
        refine awp_t rfl ?_
        refine awp_seq_k (fun K8 hK8 => ?_)
        refine awp_plain 1 (by kernel_rfl) rfl (fun g5 hg5 => ?_)
        simp only [go_sem]
        refine hK8 _ ?_
        refine awp_ret ?_
        refine ends_ev rfl ?_
        simp only [go_sem]
        exact Co.of_eq (by unfold rightPr; rw [b4]; rfl)
      | true =>
        refine aops_pure hops4 rfl rfl rfl (rightDe_calls _ (k2 _ hmem) (Nat.le_trans (wN_dec hmem) hw) _ _) (CoL.refl _) ?_
        refine aops_last 1 hops4 ?_
        simp only [go_sem, hb, Bool.not_true]
        refine hKR4 _ ?_
        refine hK7 _ ?_
        refine awp_f rfl ?_
        refine awp_skip ?_
        refine hK6 _ ?_
        refine awp_plain 3 (by kernel_rfl) rfl (fun g3 hg3 => ?_)
        simp only [go_sem]
        try simp (disch := omega) only [wrapN]
        refine ⟨_, ?_, k + 1, hlt, rfl, by rw [htake, hb], le_of ?_⟩
        · omega
        simp only [go_sem]
        try omega
    · have : k = p.decls.length := by omega
      subst this
      rw [List.take_length] at hall
      refine awp_plain 5 (by kernel_rfl) rfl (fun g2 hg2 => ?_)
      simp only [go_sem, hlt]
      refine hK5 _ ?_
      refine awp_f rfl ?_
      refine awp_exit ?_
      refine hK2 _ ?_
      refine awp_seq_k (fun K9 hK9 => ?_)
      refine awp_ops (by kernel_rfl) rfl (fun g6 hg6 ops6 KR6 hops6 hKR6 => ?_)
      refine aops_eval 2 hops6 ?_
      simp only [go_sem]
      refine aops_pure hops6 rfl rfl rfl (rightEx_calls _ (smEx.ok _ k3) w2 _ _) (CoL.refl _) ?_
      refine aops_last 1 hops6 ?_
      simp only [go_sem]
      refine hKR6 _ ?_
      refine hK9 _ ?_
      refine awp_ret ?_
      refine ends_ev rfl ?_
      simp only [go_sem]
      exact Co.of_eq (by unfold rightPr; rw [hall]; rfl)
end Go.Proofs.T


namespace Go.Proofs.T
open Go Go.Ab Go.RowKit

/-! ## The nodes of an expression, as the reference lists them -/

theorem okRowsEx : ∀ l : List Ex, okRows 8 (l.map encEx) := fun l => okRows_map 8 encEx l fun e => by rw [encEx_agg]; exact ⟨rfl, rfl⟩
theorem nodesExs_len (c : List Ex) (i : Nat) : (nodesExs (c.take i)).length ≤ (nodesExs c).length := by
  have := congrArg (fun l => (nodesExs l).length) (List.take_append_drop i c)
  simp only [nodesExs_app, List.length_append] at this
  omega
theorem nodesEx_pos (t : Ex) : 0 < (nodesEx t).length := by rw [nodesEx_eq]; simp
theorem nodesExs_get1 (c : List Ex) (i : Nat) (h : i < c.length) : (nodesEx c[i]).length ≤ (nodesExs c).length := by
  have h1 := nodesExs_take c i h
  have h2 := nodesExs_len c (i + 1)
  rw [h1, List.length_append] at h2
  omega
set_option maxRecDepth 100000 in
theorem list05_calls : ∀ t : Ex, okEx t → (nodesEx t).length ≤ 1000000 → ∀ g d, ACalls E 27 [encEx t] [] g d (slEx (nodesEx t)) [] := by
  intro t
  induction t using Ex.ind with
  | h t ih =>
  intro hok0 hlen g d
  have hok := (okEx_iff t).1 hok0
  have hn := nodesEx_eq t
  have hl1 : (nodesExs t.kids).length + 1 ≤ 1000000 := by rw [hn] at hlen; simpa using hlen
  refine acalls_of_awp (fn := Tryz.f27) (N := 23) Tryz.call27 Tryz.func27 rfl rfl (by simp) ?_
  simp only [go_sem]
  refine awp_seq_k (fun K1 hK1 => ?_)
  refine awp_plain 2 (by kernel_rfl) rfl (fun g0 hg0 => ?_)
  simp only [go_sem]
  refine hK1 _ ?_
  refine awp_seq_k (fun K2 hK2 => ?_)
  refine awp_plain 3 (by kernel_rfl) rfl (fun g1 hg1 => ?_)
  simp only [go_sem]
  refine hK2 _ ?_
  refine awp_seq_k (fun K3 hK3 => ?_)
  refine awp_seq_k (fun K4 hK4 => ?_)
  refine awp_plain 1 (by kernel_rfl) rfl (fun g2 hg2 => ?_)
  simp only [go_sem]
  refine hK4 _ ?_
  refine awp_block ?_
  refine awp_loop (fun m s => ∃ k, k ≤ t.kids.length ∧ m = t.kids.length - k ∧ ((k = 0 ∧ Le { env := [(1, .ptr ⟨g0, 1, 0⟩ 0), (4, dN 0), (3, .sl true [encEx t])], σ := [(⟨g0, 1, 0⟩, .box 28 (exC t))] } s) ∨
      ∃ a i, a ≠ g0 ∧ Le { env := [(1, .ptr ⟨g0, 1, 0⟩ 0), (4, dN k), (3, .own ⟨a, i, 0⟩ (1 + (nodesExs (t.kids.take k)).length))], σ := [(⟨g0, 1, 0⟩, .box 28 (exC t)), (⟨a, i, 0⟩, .arr 28 8 (encEx t :: (nodesExs (t.kids.take k)).map encEx))] } s)) t.kids.length ?_ ?_
  · refine ⟨0, Nat.zero_le _, rfl, .inl ⟨rfl, le_of ?_⟩⟩
    simp only [go_sem, exC]
    all_goals first | exact rfl | exact ⟨rfl, rfl⟩ | trivial
  · rintro m s ⟨k, hk, rfl, ⟨rfl, hle⟩ | ⟨a, i, ha, hle⟩⟩
    · refine awp_keep hle ?_
      clear hle
      refine awp_seq_k (fun K5 hK5 => ?_)
      refine awp_seq_k (fun K6 hK6 => ?_)
      by_cases hlt : 0 < t.kids.length
      · have hlt' : (((0 : Nat) : Int) < (t.kids.length : Int)) = True := eq_true (by omega)
        have hb := nodesExs_get1 t.kids 0 hlt
        have hp := nodesEx_pos t.kids[0]
        refine awp_plain 5 (by kernel_rfl) rfl (fun g3 hg3 => ?_)
        simp only [go_sem, hlt', decide_true, exC]
        refine hK6 _ ?_
        refine awp_t rfl ?_
        refine awp_skip ?_
        refine hK5 _ ?_
        refine awp_seq_k (fun K7 hK7 => ?_)
        refine awp_block ?_
        refine awp_ops (by kernel_rfl) rfl (fun g5 hg5 ops5 KR5 hops5 hKR5 => ?_)
        refine aops_eval 6 hops5 ?_
        simp only [go_sem, getM hlt]
        have hn5_g0 : g5 ≠ g0 := fresh_g hg5 1 0 (by simp [go_sem])
        refine aops_pure hops5 rfl rfl rfl (ih _ (List.getElem_mem hlt) (hok.2.2.2.2 _ (List.getElem_mem hlt)) (by omega) _ _) (CoL.refl _) ?_
        refine aops_appx hops5 rfl rfl rfl rfl rfl es26 sz28 by28 ze28 rfl (by decide) ?_
        simp only [go_sem, okRowsEx]
        refine ⟨hp, ⟨by omega, by omega⟩, ?_⟩
        refine aops_last 1 hops5 ?_
        simp only [go_sem]
        refine hKR5 _ ?_
        refine hK7 _ ?_
        refine awp_plain 3 (by kernel_rfl) rfl (fun g4 hg4 => ?_)
        simp only [go_sem, exC]
        try simp (disch := omega) only [wrapN]
        refine ⟨_, ?_, 1, hlt, rfl, .inr ⟨g5, 21, hn5_g0, le_of ?_⟩⟩
        · omega
        have h1 := nodesExs_take t.kids 0 hlt
        rw [List.take_zero] at h1
        have h2 : nodesExs (t.kids.take 1) = nodesEx t.kids[0] := h1
        simp only [go_sem, h2, hn5_g0, Ne.symm hn5_g0]
        all_goals first | exact rfl | exact ⟨rfl, rfl⟩ | trivial
      · have h0 : t.kids = [] := List.eq_nil_of_length_eq_zero (by omega)
        have hlt' : (((0 : Nat) : Int) < (t.kids.length : Int)) = False := eq_false (by omega)
        refine awp_plain 5 (by kernel_rfl) rfl (fun g3 hg3 => ?_)
        simp only [go_sem, hlt', decide_false, exC]
        refine hK6 _ ?_
        refine awp_f rfl ?_
        refine awp_exit ?_
        refine hK3 _ ?_
        refine awp_seq_k (fun K8 hK8 => ?_)
        refine awp_plain 2 (by kernel_rfl) rfl (fun g6 hg6 => ?_)
        simp only [go_sem]
        refine hK8 _ ?_
        refine awp_ret ?_
        refine ends_ev rfl ?_
        simp only [go_sem]
        exact by rw [hn, h0]; exact Co.inexact _ _
    · refine awp_keep hle ?_
      clear hle
      refine awp_seq_k (fun K9 hK9 => ?_)
      refine awp_seq_k (fun K10 hK10 => ?_)
      by_cases hlt : k < t.kids.length
      · have hb := nodesExs_get1 t.kids k hlt
        have hc := nodesExs_len t.kids (k + 1)
        have h1 := nodesExs_take t.kids k hlt
        rw [h1, List.length_append] at hc
        refine awp_plain 5 (by kernel_rfl) rfl (fun g3 hg3 => ?_)
        simp only [go_sem, hlt, exC, ha]
        refine hK10 _ ?_
        refine awp_t rfl ?_
        refine awp_skip ?_
        refine hK9 _ ?_
        refine awp_seq_k (fun K11 hK11 => ?_)
        refine awp_block ?_
        refine awp_ops (by kernel_rfl) rfl (fun g5 hg5 ops5 KR5 hops5 hKR5 => ?_)
        refine aops_eval 6 hops5 ?_
        simp only [go_sem, getM hlt, ha]
        refine aops_pure hops5 rfl rfl rfl (ih _ (List.getElem_mem hlt) (hok.2.2.2.2 _ (List.getElem_mem hlt)) (by omega) _ _) (CoL.refl _) ?_
        refine aops_app hops5 rfl rfl rfl rfl rfl es26 sz28 by28 ze28 rfl (by decide) ?_
        simp only [go_sem, okRowsEx, Ne.symm ha]
        first | refine ⟨⟨by omega, by omega⟩, ?_⟩ | skip
        have hn5_g0 : g5 ≠ g0 := fresh_g hg5 1 0 (by simp [go_sem])
        refine aops_last 1 hops5 ?_
        simp only [go_sem]
        refine hKR5 _ ?_
        refine hK11 _ ?_
        refine awp_plain 3 (by kernel_rfl) rfl (fun g4 hg4 => ?_)
        simp only [go_sem, exC]
        try simp (disch := omega) only [wrapN]
        refine ⟨_, ?_, k + 1, hlt, rfl, .inr ⟨g5, 21, hn5_g0, le_of ?_⟩⟩
        · omega
        simp only [go_sem, h1, List.map_append, List.length_append, Nat.add_assoc, hn5_g0, Ne.symm hn5_g0]
        all_goals first | exact rfl | exact ⟨rfl, rfl⟩ | trivial | omega
      · have : k = t.kids.length := by omega
        subst this
        refine awp_plain 5 (by kernel_rfl) rfl (fun g3 hg3 => ?_)
        simp only [go_sem, hlt, exC, ha]
        refine hK10 _ ?_
        refine awp_f rfl ?_
        refine awp_exit ?_
        refine hK3 _ ?_
        refine awp_seq_k (fun K12 hK12 => ?_)
        refine awp_plain 2 (by kernel_rfl) rfl (fun g6 hg6 => ?_)
        simp only [go_sem]
        refine hK12 _ ?_
        refine awp_ret ?_
        refine ret_frz ⟨a, i, 0⟩ ?_
        simp only [go_sem, Ne.symm ha]
        refine ends_ev rfl ?_
        simp only [go_sem]
        exact Co.of_eq (by rw [hn]; rfl)
end Go.Proofs.T


namespace Go.Proofs.T
open Go Go.Ab Go.RowKit

/-! ## The types of a program, as the reference lists them -/

def bodyT (x : Ex) : List Ty := x.targs ++ (if x.kind = 3 ∨ x.kind = 5 then [x.type] else [])
def bodyTys (e : Ex) : List Ty := (nodesEx e).flatMap bodyT
def tyDe (d : Dec) : List Ty := d.formals.map (·.bound) ++ d.fields.map (·.type) ++ d.sigs.flatMap siTys ++ (if d.kind = 3 then siTys d.sig ++ bodyTys d.body else [])
def tyPr (p : Prg) : List Ty := p.decls.flatMap tyDe ++ bodyTys p.main

theorem okRowsTy : ∀ l : List Ty, okRows 3 (l.map encTy) := fun l => okRows_map 3 encTy l fun e => by rw [encTy_agg]; exact ⟨rfl, rfl⟩
theorem takeMB {α β : Type} (f : α → β) (g : β → D) {l : List α} {k : Nat} (h : k < l.length) : ((l.take (k + 1)).map f).map g = ((l.take k).map f).map g ++ [g (f l[k])] := by
  rw [List.take_add_one, List.getElem?_eq_getElem h, List.map_append, List.map_append]
  rfl
set_option maxRecDepth 100000 in
theorem sigT_calls (s : Sig) (h1 : s.formals.length ≤ 1000000) (h2 : s.params.length ≤ 1000000) (g d : Nat) : ACalls E 53 [encSi s] [] g d (slTy (siTys s)) [] := by
  refine acalls_of_awp (fn := Tryz.f53) (N := 43) Tryz.call53 Tryz.func53 rfl rfl (by simp) ?_
  simp only [go_sem]
  refine awp_seq_k (fun K1 hK1 => ?_)
  refine awp_plain 2 (by kernel_rfl) rfl (fun g0 hg0 => ?_)
  simp only [go_sem]
  refine hK1 _ ?_
  refine awp_seq_k (fun K2 hK2 => ?_)
  refine awp_plain 1 (by kernel_rfl) rfl (fun g1 hg1 => ?_)
  simp only [go_sem]
  refine hK2 _ ?_
  refine awp_seq_k (fun K3 hK3 => ?_)
  refine awp_seq_k (fun K4 hK4 => ?_)
  refine awp_plain 1 (by kernel_rfl) rfl (fun g2 hg2 => ?_)
  simp only [go_sem]
  refine hK4 _ ?_
  refine awp_block ?_
  refine awp_nil 3 25 3 rfl fun gn hgn => ?_
  have hn0 : gn ≠ g0 := fresh_g hgn 1 0 (by simp [go_sem])
  refine awp_loop (fun m st => ∃ k a i, k ≤ s.formals.length ∧ m = s.formals.length - k ∧ a ≠ g0 ∧
      Le { env := [(1, .ptr ⟨g0, 1, 0⟩ 0), (4, dN k), (3, .own ⟨a, i, 0⟩ k)], σ := [(⟨g0, 1, 0⟩, .box 46 (siC s)), (⟨a, i, 0⟩, .arr 25 3 (((s.formals.take k).map (·.bound)).map encTy))] } st) s.formals.length ?_ ?_
  · refine ⟨0, gn, 0, Nat.zero_le _, rfl, hn0, le_of ?_⟩
    simp only [go_sem, hn0, Ne.symm hn0, List.take_zero, List.map_nil]
    all_goals first | exact rfl | exact ⟨rfl, rfl⟩ | trivial
  · rintro m st ⟨k, a, i, hk, rfl, ha, hle⟩
    refine awp_keep hle ?_
    clear hle
    refine awp_seq_k (fun K5 hK5 => ?_)
    refine awp_seq_k (fun K6 hK6 => ?_)
    by_cases hlt : k < s.formals.length
    · refine awp_plain 5 (by kernel_rfl) rfl (fun g3 hg3 => ?_)
      simp only [go_sem, hlt, ha]
      refine hK6 _ ?_
      refine awp_t rfl ?_
      refine awp_skip ?_
      refine hK5 _ ?_
      refine awp_seq_k (fun K7 hK7 => ?_)
      refine awp_block ?_
      refine awp_ops (by kernel_rfl) rfl (fun g5 hg5 ops5 KR5 hops5 hKR5 => ?_)
      refine aops_eval 8 hops5 ?_
      simp only [go_sem, getM hlt, ha]
      refine aops_app hops5 rfl rfl rfl rfl rfl es23 sz25 by25 ze25 rfl (by decide) ?_
      simp only [go_sem, Ne.symm ha, List.length_take_of_le (Nat.le_of_lt hlt)]
      first | refine ⟨⟨by omega, by omega⟩, ?_⟩ | skip
      have hn5_g0 : g5 ≠ g0 := fresh_g hg5 1 0 (by simp [go_sem])
      refine aops_last 1 hops5 ?_
      simp only [go_sem]
      refine hKR5 _ ?_
      refine hK7 _ ?_
      refine awp_plain 3 (by kernel_rfl) rfl (fun g4 hg4 => ?_)
      simp only [go_sem]
      try simp (disch := omega) only [wrapN]
      refine ⟨_, ?_, k + 1, g5, 21, hlt, rfl, hn5_g0, le_of ?_⟩
      · omega
      simp only [go_sem, takeMB _ _ hlt, hn5_g0, Ne.symm hn5_g0]
      all_goals first | exact rfl | exact ⟨rfl, rfl⟩ | trivial | omega
    · have : k = s.formals.length := by omega
      subst this
      refine awp_plain 5 (by kernel_rfl) rfl (fun g3 hg3 => ?_)
      simp only [go_sem, hlt, ha]
      refine hK6 _ ?_
      refine awp_f rfl ?_
      refine awp_exit ?_
      refine hK3 _ ?_
      refine awp_seq_k (fun K8 hK8 => ?_)
      refine awp_seq_k (fun K9 hK9 => ?_)
      refine awp_plain 1 (by kernel_rfl) rfl (fun g6 hg6 => ?_)
      simp only [go_sem]
      refine hK9 _ ?_
      refine awp_block ?_
      refine awp_loop (fun m st => ∃ k a i, k ≤ s.params.length ∧ m = s.params.length - k ∧ a ≠ g0 ∧
          Le { env := [(1, .ptr ⟨g0, 1, 0⟩ 0), (5, dN k), (3, .own ⟨a, i, 0⟩ (s.formals.length + k))], σ := [(⟨g0, 1, 0⟩, .box 46 (siC s)), (⟨a, i, 0⟩, .arr 25 3 ((s.formals.map (·.bound)).map encTy ++ ((s.params.take k).map (·.type)).map encTy))] } st) s.params.length ?_ ?_
      · refine ⟨0, a, i, Nat.zero_le _, rfl, ha, le_of ?_⟩
        simp only [go_sem, List.take_zero, List.map_nil, List.append_nil, Nat.add_zero, ha, Ne.symm ha]
        all_goals first | exact rfl | exact ⟨rfl, rfl⟩ | trivial
      · rintro m st ⟨k, a, i, hk, rfl, ha, hle⟩
        refine awp_keep hle ?_
        clear hle
        refine awp_seq_k (fun K10 hK10 => ?_)
        refine awp_seq_k (fun K11 hK11 => ?_)
        by_cases hlt : k < s.params.length
        · refine awp_plain 5 (by kernel_rfl) rfl (fun g7 hg7 => ?_)
          simp only [go_sem, hlt, ha]
          refine hK11 _ ?_
          refine awp_t rfl ?_
          refine awp_skip ?_
          refine hK10 _ ?_
          refine awp_seq_k (fun K12 hK12 => ?_)
          refine awp_block ?_
          refine awp_ops (by kernel_rfl) rfl (fun g9 hg9 ops9 KR9 hops9 hKR9 => ?_)
          refine aops_eval 8 hops9 ?_
          simp only [go_sem, getM hlt, ha]
          refine aops_app hops9 rfl rfl rfl rfl rfl es23 sz25 by25 ze25 rfl (by decide) ?_
          simp only [go_sem, Ne.symm ha, List.length_take_of_le (Nat.le_of_lt hlt)]
          first | refine ⟨⟨by omega, by omega⟩, ?_⟩ | skip
          have hn9_g0 : g9 ≠ g0 := fresh_g hg9 1 0 (by simp [go_sem])
          refine aops_last 1 hops9 ?_
          simp only [go_sem]
          refine hKR9 _ ?_
          refine hK12 _ ?_
          refine awp_plain 3 (by kernel_rfl) rfl (fun g8 hg8 => ?_)
          simp only [go_sem]
          try simp (disch := omega) only [wrapN]
          refine ⟨_, ?_, k + 1, g9, 37, hlt, rfl, hn9_g0, le_of ?_⟩
          · omega
          simp only [go_sem, takeMB _ _ hlt, List.append_assoc, Nat.add_assoc, hn9_g0, Ne.symm hn9_g0]
          all_goals first | exact rfl | exact ⟨rfl, rfl⟩ | trivial | omega
        · have : k = s.params.length := by omega
          subst this
          refine awp_plain 5 (by kernel_rfl) rfl (fun g7 hg7 => ?_)
          simp only [go_sem, hlt, ha]
          refine hK11 _ ?_
          refine awp_f rfl ?_
          refine awp_exit ?_
          refine hK8 _ ?_
          refine awp_seq_k (fun K13 hK13 => ?_)
          refine awp_ops (by kernel_rfl) rfl (fun g10 hg10 ops10 KR10 hops10 hKR10 => ?_)
          refine aops_eval 4 hops10 ?_
          simp only [go_sem, ha]
          refine aops_app hops10 rfl rfl rfl rfl rfl es23 sz25 by25 ze25 rfl (by decide) ?_
          simp only [go_sem, Ne.symm ha]
          first | refine ⟨⟨by omega, by omega⟩, ?_⟩ | skip
          refine aops_last 1 hops10 ?_
          simp only [go_sem]
          refine hKR10 _ ?_
          refine hK13 _ ?_
          refine awp_ret ?_
          refine ret_frz ⟨g10, 42, 0⟩ ?_
          simp only [go_sem]
          refine ends_ev rfl ?_
          simp only [go_sem]
          exact Co.of_eq (by simp [siTys])
end Go.Proofs.T

