/- A part of the proof, under no conditions of its own: D16. -/
import Derived.Test.YtgclmhkkiafmjaaDoorD15
namespace Go.Proofs.T
open Go Go.Ab Go.RowKit Go.Extern.Stop Go.Stop Go.Extern

/-! ## fault.Shift, fault.Text, castingsref02.Told, errors.New, errors.Unwrap -/

def shiftE (e : Err) (n : Int) : Err := { nil := e.nil, parts := [], code := e.code, at' := atOf e + n, fault := true }
theorem shift_calls (e : Err) (n : Int) (h1 : -9223372036854775808 ≤ atOf e + n) (h2 : atOf e + n ≤ 9223372036854775807) (g d : Nat) : ACalls E 13 [errD e, dI n] [] g d (errD (shiftE e n)) [] := by
  refine acalls_of_awp (fn := Tryd.f13) (N := 26) Tryd.call13 Tryd.func13 rfl rfl (by simp) ?_
  simp only [go_sem]
  refine awp_seq_k (fun K1 hK1 => ?_)
  refine awp_plain 1 (by kernel_rfl) rfl (fun g0 hg0 => ?_)
  simp only [go_sem]
  refine hK1 _ ?_
  refine awp_seq_k (fun K2 hK2 => ?_)
  refine awp_ops (by kernel_rfl) rfl (fun g1 hg1 ops1 KR1 hops1 hKR1 => ?_)
  refine aops_eval 1 hops1 ?_
  simp only [go_sem]
  refine aops_pure hops1 rfl rfl rfl (code_calls e _ _) (CoL.refl _) ?_
  refine aops_last 5 hops1 ?_
  simp only [go_sem]
  refine hKR1 _ ?_
  refine hK2 _ ?_
  refine awp_seq_k (fun K3 hK3 => ?_)
  refine awp_seq_k (fun K4 hK4 => ?_)
  cases hn : e.nil with
  | true =>
    refine awp_plain 2 (by kernel_rfl) rfl (fun g2 hg2 => ?_)
    simp only [go_sem, Bool.not_true, Bool.not_false]
    refine hK4 _ ?_
    refine awp_t rfl ?_
    refine awp_seq_k (fun K5 hK5 => ?_)
    refine awp_plain 1 (by kernel_rfl) rfl (fun g3 hg3 => ?_)
    simp only [go_sem]
    refine hK5 _ ?_
    refine awp_ret ?_
    refine ends_ev rfl ?_
    simp only [go_sem]
    exact Co.of_eq (by simp [errD, shiftE, hn])
  | false =>
    refine awp_plain 2 (by kernel_rfl) rfl (fun g2 hg2 => ?_)
    simp only [go_sem, Bool.not_true, Bool.not_false]
    refine hK4 _ ?_
    refine awp_f rfl ?_
    refine awp_skip ?_
    refine hK3 _ ?_
    refine awp_seq_k (fun K6 hK6 => ?_)
    refine awp_ops (by kernel_rfl) rfl (fun g4 hg4 ops4 KR4 hops4 hKR4 => ?_)
    refine aops_eval 1 hops4 ?_
    simp only [go_sem]
    refine aops_pure hops4 rfl rfl rfl (at_calls e _ _) (CoL.refl _) ?_
    refine aops_last 5 hops4 ?_
    simp only [go_sem, hn, Bool.not_false]
    refine hKR4 _ ?_
    refine hK6 _ ?_
    refine awp_seq_k (fun K7 hK7 => ?_)
    refine awp_ops (by kernel_rfl) rfl (fun g5 hg5 ops5 KR5 hops5 hKR5 => ?_)
    refine aops_eval 4 hops5 ?_
    simp only [go_sem]
    try simp (disch := omega) only [wrapN]
    refine aops_pure hops5 rfl rfl rfl (newF_calls (codeOf e) (atOf e + n) _ _) (CoL.refl _) ?_
    refine aops_last 1 hops5 ?_
    simp only [go_sem]
    refine hKR5 _ ?_
    refine hK7 _ ?_
    refine awp_ret ?_
    refine ends_ev rfl ?_
    simp only [go_sem]
    exact Co.of_eq (by simp [errD, shiftE, hn, chain, baseE, codeOf])

def sOk : Str := ⟨#[111, 107]⟩
def sSp : Str := ⟨#[32]⟩
def toldS (e : Err) : Str := if e.nil = true then sOk else if e.fault = true then nmS e.code ++ sSp ++ decI e.at' else nmS e.code
theorem nmS_size (c : Int) : (nmS c).size ≤ 6 := by
  unfold nmS
  split
  · have hh : c = 0 ∨ c = 1 ∨ c = 2 ∨ c = 3 ∨ c = 4 ∨ c = 5 ∨ c = 6 := by omega
    rcases hh with rfl | rfl | rfl | rfl | rfl | rfl | rfl <;> decide
  · decide
theorem told_calls (e : Err) (h : okEr e) (g d : Nat) : ACalls E 17 [encEr e] [] g d (encS (toldS e)) [] := by
  obtain ⟨⟨h1, h2⟩, h3, h4⟩ := h
  have z1 := nmS_size e.code
  have z2 := decI_size h4
  have hz1 : (nmS e.code).size + 1 ≤ 9223372036854775807 := by omega
  have hz2 : (nmS e.code).size + 1 + (decI e.at').size ≤ 9223372036854775807 := by omega
  refine acalls_of_awp (fn := Tryd.f17) (N := 18) Tryd.call17 Tryd.func17 rfl rfl (by simp) ?_
  simp only [go_sem]
  refine awp_seq_k (fun K1 hK1 => ?_)
  refine awp_plain 2 (by kernel_rfl) rfl (fun g0 hg0 => ?_)
  simp only [go_sem, encEr, erC, List.all_cons, List.all_nil]
  refine hK1 _ ?_
  refine awp_seq_k (fun K2 hK2 => ?_)
  refine awp_seq_k (fun K3 hK3 => ?_)
  cases hn : e.nil with
  | true =>
    refine awp_plain 2 (by kernel_rfl) rfl (fun g1 hg1 => ?_)
    simp only [go_sem]
    refine hK3 _ ?_
    refine awp_t rfl ?_
    refine awp_seq_k (fun K4 hK4 => ?_)
    refine awp_plain 1 (by kernel_rfl) rfl (fun g2 hg2 => ?_)
    simp only [go_sem]
    refine hK4 _ ?_
    refine awp_ret ?_
    refine ends_ev rfl ?_
    simp only [go_sem]
    exact Co.of_eq (by simp [toldS, hn, sOk])
  | false =>
    refine awp_plain 2 (by kernel_rfl) rfl (fun g1 hg1 => ?_)
    simp only [go_sem]
    refine hK3 _ ?_
    refine awp_f rfl ?_
    refine awp_skip ?_
    refine hK2 _ ?_
    refine awp_seq_k (fun K5 hK5 => ?_)
    refine awp_seq_k (fun K6 hK6 => ?_)
    cases hf : e.fault with
    | true =>
      refine awp_plain 2 (by kernel_rfl) rfl (fun g3 hg3 => ?_)
      simp only [go_sem]
      refine hK6 _ ?_
      refine awp_t rfl ?_
      refine awp_seq_k (fun K7 hK7 => ?_)
      refine awp_any 8 (by kernel_rfl) (by kernel_rfl) rfl (fun g4 hg4 ops4 KR4 hops4 hKR4 => ?_)
      refine qrun_eval 2 hops4 ?_
      simp only [go_sem]
      refine qrun_pure hops4 rfl rfl rfl (refName_calls e.code _ _) (CoL.refl _) rfl ?_
      refine qrun_eval 3 hops4 ?_
      simp only [go_sem, hz1]
      try simp (disch := omega) only [wrapN, wrapB, Int.tdiv_eq_ediv_of_nonneg, Int.tmod_eq_emod_of_nonneg]
      refine qrun_pure hops4 rfl rfl rfl (decI_calls e.at' h4 _ _) (CoL.refl _) rfl ?_
      refine qrun_last 1 hops4 ?_
      simp only [go_sem, hz2]
      try simp (disch := omega) only [wrapN, wrapB, Int.tdiv_eq_ediv_of_nonneg, Int.tmod_eq_emod_of_nonneg]
      refine aops_last 1 hops4 ?_
      simp only [go_sem]
      refine hKR4 _ ?_
      refine hK7 _ ?_
      refine awp_ret ?_
      refine ends_ev rfl ?_
      simp only [go_sem]
      exact Co.of_eq (by simp [toldS, hn, hf, sSp])
    | false =>
      refine awp_plain 2 (by kernel_rfl) rfl (fun g3 hg3 => ?_)
      simp only [go_sem]
      refine hK6 _ ?_
      refine awp_f rfl ?_
      refine awp_skip ?_
      refine hK5 _ ?_
      refine awp_seq_k (fun K8 hK8 => ?_)
      refine awp_ops (by kernel_rfl) rfl (fun g5 hg5 ops5 KR5 hops5 hKR5 => ?_)
      refine aops_eval 2 hops5 ?_
      simp only [go_sem]
      refine aops_pure hops5 rfl rfl rfl (refName_calls e.code _ _) (CoL.refl _) ?_
      refine aops_last 1 hops5 ?_
      simp only [go_sem]
      refine hKR5 _ ?_
      refine hK8 _ ?_
      refine awp_ret ?_
      refine ends_ev rfl ?_
      simp only [go_sem]
      exact Co.of_eq (by simp [toldS, hn, hf])
theorem text_calls (e : Err) (h : okEr e) (g d : Nat) : ACalls E 16 [errD e] [] g d (encS (toldS e)) [] := by
  obtain ⟨⟨h1, h2⟩, h3, h4⟩ := h
  have z1 := nmS_size e.code
  have z2 := decI_size h4
  have hz1 : (nmS e.code).size + 1 ≤ 9223372036854775807 := by omega
  have hz2 : (nmS e.code).size + 1 + (decI e.at').size ≤ 9223372036854775807 := by omega
  refine acalls_of_awp (fn := Tryd.f16) (N := 33) Tryd.call16 Tryd.func16 rfl rfl (by simp) ?_
  simp only [go_sem]
  refine awp_seq_k (fun K1 hK1 => ?_)
  refine awp_plain 1 (by kernel_rfl) rfl (fun g0 hg0 => ?_)
  simp only [go_sem]
  refine hK1 _ ?_
  refine awp_seq_k (fun K2 hK2 => ?_)
  refine awp_ops (by kernel_rfl) rfl (fun g1 hg1 ops1 KR1 hops1 hKR1 => ?_)
  refine aops_eval 1 hops1 ?_
  simp only [go_sem]
  refine aops_pure hops1 rfl rfl rfl (code_calls e _ _) (CoL.refl _) ?_
  refine aops_last 5 hops1 ?_
  simp only [go_sem]
  refine hKR1 _ ?_
  refine hK2 _ ?_
  refine awp_seq_k (fun K3 hK3 => ?_)
  refine awp_ops (by kernel_rfl) rfl (fun g2 hg2 ops2 KR2 hops2 hKR2 => ?_)
  refine aops_eval 1 hops2 ?_
  simp only [go_sem]
  refine aops_pure hops2 rfl rfl rfl (at_calls e _ _) (CoL.refl _) ?_
  refine aops_last 5 hops2 ?_
  simp only [go_sem]
  refine hKR2 _ ?_
  refine hK3 _ ?_
  refine awp_seq_k (fun K4 hK4 => ?_)
  refine awp_block ?_
  refine awp_seq_k (fun K5 hK5 => ?_)
  cases hn : e.nil with
  | true =>
    refine awp_plain 3 (by kernel_rfl) rfl (fun g3 hg3 => ?_)
    simp only [go_sem, hn, Bool.not_true, errD, if_true]
    refine hK5 _ ?_
    refine awp_t rfl ?_
    refine awp_seq_k (fun K6 hK6 => ?_)
    refine awp_plain 1 (by kernel_rfl) rfl (fun g4 hg4 => ?_)
    simp only [go_sem]
    refine hK6 _ ?_
    refine awp_ret ?_
    refine ends_ev rfl ?_
    simp only [go_sem, if_true]
    exact Co.of_eq (by simp [toldS, hn, sOk])
  | false =>
    obtain ⟨t, y, hy⟩ := chain_iface e.fault e.code e.at' e.parts.reverse
    refine awp_plain 3 (by kernel_rfl) rfl (fun g3 hg3 => ?_)
    simp only [go_sem, hn, Bool.not_false, errD, Bool.false_eq_true, if_false, hy, codeOf, atOf]
    refine hK5 _ ?_
    refine awp_f rfl ?_
    refine awp_seq_k (fun K7 hK7 => ?_)
    refine awp_plain 3 (by kernel_rfl) rfl (fun g5 hg5 => ?_)
    simp only [go_sem, Bool.not_true, if_false]
    refine hK7 _ ?_
    refine awp_f rfl ?_
    refine awp_seq_k (fun K8 hK8 => ?_)
    cases hf : e.fault with
    | true =>
      refine awp_plain 2 (by kernel_rfl) rfl (fun g7 hg7 => ?_)
      simp only [go_sem, if_false]
      refine hK8 _ ?_
      refine awp_t rfl ?_
      refine awp_seq_k (fun K9 hK9 => ?_)
      refine awp_ops (by kernel_rfl) rfl (fun g8 hg8 ops8 KR8 hops8 hKR8 => ?_)
      refine aops_eval 1 hops8 ?_
      simp only [go_sem, if_false]
      refine aops_pure hops8 rfl rfl rfl (name_calls e.code _ _) (CoL.refl _) ?_
      refine aops_eval 2 hops8 ?_
      simp only [go_sem, hz1, if_false]
      try simp (disch := omega) only [wrapN, wrapB, Int.tdiv_eq_ediv_of_nonneg, Int.tmod_eq_emod_of_nonneg]
      refine aops_pure hops8 rfl rfl rfl (itoa2_calls e.at' h4 _ _) (CoL.refl _) ?_
      refine aops_last 2 hops8 ?_
      simp only [go_sem, hz2, if_false]
      try simp (disch := omega) only [wrapN, wrapB, Int.tdiv_eq_ediv_of_nonneg, Int.tmod_eq_emod_of_nonneg]
      refine hKR8 _ ?_
      refine hK9 _ ?_
      refine awp_ret ?_
      refine ends_ev rfl ?_
      simp only [go_sem, if_false]
      exact Co.of_eq (by simp [toldS, hn, hf, sSp])
    | false =>
      refine awp_plain 2 (by kernel_rfl) rfl (fun g7 hg7 => ?_)
      simp only [go_sem, Bool.false_eq_true, if_false]
      refine hK8 _ ?_
      refine awp_f rfl ?_
      refine awp_skip ?_
      refine hK4 _ ?_
      refine awp_seq_k (fun K10 hK10 => ?_)
      refine awp_ops (by kernel_rfl) rfl (fun g9 hg9 ops9 KR9 hops9 hKR9 => ?_)
      refine aops_eval 1 hops9 ?_
      simp only [go_sem, if_false]
      refine aops_pure hops9 rfl rfl rfl (name_calls e.code _ _) (CoL.refl _) ?_
      refine aops_last 1 hops9 ?_
      simp only [go_sem, if_false]
      refine hKR9 _ ?_
      refine hK10 _ ?_
      refine awp_ret ?_
      refine ends_ev rfl ?_
      simp only [go_sem, if_false]
      exact Co.of_eq (by simp [toldS, hn, hf])
def sError : Str := ⟨#[101, 114, 114, 111, 114]⟩
theorem textO_calls (X : D) (g d : Nat) : ACalls E 16 [.iface 55 X] [] g d (encS sError) [] := by
  refine acalls_of_awp (fn := Tryd.f16) (N := 33) Tryd.call16 Tryd.func16 rfl rfl (by simp) ?_
  simp only [go_sem]
  refine awp_seq_k (fun K1 hK1 => ?_)
  refine awp_plain 1 (by kernel_rfl) rfl (fun g0 hg0 => ?_)
  simp only [go_sem]
  refine hK1 _ ?_
  refine awp_seq_k (fun K2 hK2 => ?_)
  refine awp_ops (by kernel_rfl) rfl (fun g1 hg1 ops1 KR1 hops1 hKR1 => ?_)
  refine aops_eval 1 hops1 ?_
  simp only [go_sem]
  refine aops_pure hops1 rfl rfl rfl (code_other X _ _) (CoL.refl _) ?_
  refine aops_last 5 hops1 ?_
  simp only [go_sem]
  refine hKR1 _ ?_
  refine hK2 _ ?_
  refine awp_seq_k (fun K3 hK3 => ?_)
  refine awp_ops (by kernel_rfl) rfl (fun g2 hg2 ops2 KR2 hops2 hKR2 => ?_)
  refine aops_eval 1 hops2 ?_
  simp only [go_sem]
  refine aops_pure hops2 rfl rfl rfl (at_other X _ _) (CoL.refl _) ?_
  refine aops_last 5 hops2 ?_
  simp only [go_sem]
  refine hKR2 _ ?_
  refine hK3 _ ?_
  refine awp_seq_k (fun K4 hK4 => ?_)
  refine awp_block ?_
  refine awp_seq_k (fun K5 hK5 => ?_)
  refine awp_plain 3 (by kernel_rfl) rfl (fun g3 hg3 => ?_)
  simp only [go_sem]
  refine hK5 _ ?_
  refine awp_f rfl ?_
  refine awp_seq_k (fun K6 hK6 => ?_)
  refine awp_plain 3 (by kernel_rfl) rfl (fun g5 hg5 => ?_)
  simp only [go_sem]
  refine hK6 _ ?_
  refine awp_t rfl ?_
  refine awp_seq_k (fun K7 hK7 => ?_)
  refine awp_plain 1 (by kernel_rfl) rfl (fun g6 hg6 => ?_)
  simp only [go_sem]
  refine hK7 _ ?_
  refine awp_ret ?_
  refine ends_ev rfl ?_
  simp only [go_sem]
  exact Co.of_eq rfl
theorem Co.ifAny (t : TypeId) (d : D) : Co (.iface t d) (.iface t .any) := fun _ _ _ h => by
  cases h with
  | iface h1 => exact .iface (.any _)
theorem new_calls (s : Str) (g d : Nat) : ACalls E 18 [encS s] [] g d (.iface 55 .any) [] := by
  refine acalls_of_awp (fn := Tryd.f18) (N := 7) Tryd.call18 Tryd.func18 rfl rfl (by simp) ?_
  simp only [go_sem]
  refine awp_seq_k (fun K1 hK1 => ?_)
  refine awp_plain 1 (by kernel_rfl) rfl (fun g0 hg0 => ?_)
  simp only [go_sem]
  refine hK1 _ ?_
  refine awp_seq_k (fun K2 hK2 => ?_)
  refine awp_plain 5 (by kernel_rfl) rfl (fun g1 hg1 => ?_)
  simp only [go_sem]
  refine hK2 _ ?_
  refine awp_ret ?_
  refine ends_ev rfl ?_
  simp only [go_sem]
  exact Co.ifAny _ _
theorem unwrap_calls (p : Str) (x : D) (hx : D.one x = true) (g d : Nat) : ACalls E 20 [.iface 59 (.agg [encS p, x])] [] g d x [] := by
  refine acalls_of_awp (fn := Tryd.f20) (N := 14) Tryd.call20 Tryd.func20 rfl rfl (by simp) ?_
  simp only [go_sem]
  refine awp_seq_k (fun K1 hK1 => ?_)
  refine awp_plain 1 (by kernel_rfl) rfl (fun g0 hg0 => ?_)
  simp only [go_sem]
  refine hK1 _ ?_
  refine awp_seq_k (fun K2 hK2 => ?_)
  refine awp_ops (by kernel_rfl) rfl (fun g1 hg1 ops1 KR1 hops1 hKR1 => ?_)
  refine aops_eval 1 hops1 ?_
  simp only [go_sem]
  refine aops_has hops1 rfl rfl rfl rfl (hasUn59) ?_
  refine aops_last 5 hops1 ?_
  simp only [go_sem]
  refine hKR1 _ ?_
  refine hK2 _ ?_
  refine awp_seq_k (fun K3 hK3 => ?_)
  refine awp_seq_k (fun K4 hK4 => ?_)
  refine awp_plain 2 (by kernel_rfl) rfl (fun g2 hg2 => ?_)
  simp only [go_sem]
  refine hK4 _ ?_
  refine awp_f rfl ?_
  refine awp_skip ?_
  refine hK3 _ ?_
  refine awp_seq_k (fun K5 hK5 => ?_)
  refine awp_ops (by kernel_rfl) rfl (fun g4 hg4 ops4 KR4 hops4 hKR4 => ?_)
  refine aops_eval 1 hops4 ?_
  simp only [go_sem]
  refine aops_inv0 hops4 rfl rfl (leads_method rfl rfl rfl (Recv.same u59 _)) (unwrapI_calls p x hx _ _) (CoL.refl _) ?_
  refine aops_last 1 hops4 ?_
  simp only [go_sem]
  refine hKR4 _ ?_
  refine hK5 _ ?_
  refine awp_ret ?_
  refine ends_ev rfl ?_
  simp only [go_sem]
  exact Co.refl _
end Go.Proofs.T

