/- A part of the proof, under no conditions of its own: D15. -/
import Derived.Test.YtgclmhkkiafmjaaDoorD14
namespace Go.Proofs.T
open Go Go.Ab Go.RowKit Go.Extern.Stop Go.Stop Go.Extern

theorem at6_0 (a b c d e f : D) : at? [a, b, c, d, e, f] (1 - 1) = some a := rfl
theorem at6_1 (a b c d e f : D) : at? [a, b, c, d, e, f] (2 - 1) = some b := rfl
theorem at6_2 (a b c d e f : D) : at? [a, b, c, d, e, f] (3 - 1) = some c := rfl
theorem at6_3 (a b c d e f : D) : at? [a, b, c, d, e, f] (4 - 1) = some d := rfl
theorem at6_4 (a b c d e f : D) : at? [a, b, c, d, e, f] (5 - 1) = some e := rfl
theorem at6_5 (a b c d e f : D) : at? [a, b, c, d, e, f] (6 - 1) = some f := rfl
/-! ## fault.Code, fault.At, fault.Name, fault.Shift -/

def codeOf (e : Err) : Int := if e.nil = true then 0 else e.code
def atOf (e : Err) : Int := if e.nil = true then 0 else if e.fault = true then e.at' else 0

theorem codeK_calls (f : Bool) (c a : Int) (l : List Str) (g d : Nat) : ACalls E 10 [chain f c a l] [] g d (.tup [dI c, dB true]) [] := by
  refine acalls_of_awp (fn := Tryd.f10) (N := 11) Tryd.call10 Tryd.func10 rfl rfl (by simp) ?_
  simp only [go_sem]
  refine awp_seq_k (fun K1 hK1 => ?_)
  refine awp_plain 2 (by kernel_rfl) rfl (fun g0 hg0 => ?_)
  simp only [go_sem]
  refine hK1 _ ?_
  refine awp_seq_k (fun K2 hK2 => ?_)
  refine awp_plain 1 (by kernel_rfl) rfl (fun g1 hg1 => ?_)
  simp only [go_sem]
  refine hK2 _ ?_
  refine awp_seq_k (fun K3 hK3 => ?_)
  refine awp_ops (by kernel_rfl) rfl (fun g2 hg2 ops2 KR2 hops2 hKR2 => ?_)
  refine aops_eval 2 hops2 ?_
  simp only [go_sem]
  cases f with
  | false =>
    refine aops_call hops2 rfl rfl rfl (As_C c a g1 l _ _) (CoL.refl _) (by simp [go_sem]) ?_
    refine aops_last 1 hops2 ?_
    simp only [go_sem]
    refine hKR2 _ ?_
    refine hK3 _ ?_
    refine awp_seq_k (fun K4 hK4 => ?_)
    refine awp_plain 4 (by kernel_rfl) rfl (fun g3 hg3 => ?_)
    simp only [go_sem]
    refine hK4 _ ?_
    refine awp_ret ?_
    refine ends_ev rfl ?_
    simp only [go_sem]
    exact Co.refl _
  | true =>
    refine aops_call hops2 rfl rfl rfl (As_CF c a g1 l _ _) (CoL.refl _) (by simp [go_sem]) ?_
    refine aops_last 1 hops2 ?_
    simp only [go_sem]
    refine hKR2 _ ?_
    refine hK3 _ ?_
    refine awp_seq_k (fun K5 hK5 => ?_)
    refine awp_plain 4 (by kernel_rfl) rfl (fun g3 hg3 => ?_)
    simp only [go_sem]
    refine hK5 _ ?_
    refine awp_ret ?_
    refine ends_ev rfl ?_
    simp only [go_sem]
    exact Co.refl _
theorem code_nil (g d : Nat) : ACalls E 10 [.val .nilIface] [] g d (.tup [dI 0, dB false]) [] := by
  refine acalls_of_awp (fn := Tryd.f10) (N := 11) Tryd.call10 Tryd.func10 rfl rfl (by simp) ?_
  simp only [go_sem]
  refine awp_seq_k (fun K1 hK1 => ?_)
  refine awp_plain 2 (by kernel_rfl) rfl (fun g0 hg0 => ?_)
  simp only [go_sem]
  refine hK1 _ ?_
  refine awp_seq_k (fun K2 hK2 => ?_)
  refine awp_plain 1 (by kernel_rfl) rfl (fun g1 hg1 => ?_)
  simp only [go_sem]
  refine hK2 _ ?_
  refine awp_seq_k (fun K3 hK3 => ?_)
  refine awp_ops (by kernel_rfl) rfl (fun g2 hg2 ops2 KR2 hops2 hKR2 => ?_)
  refine aops_eval 2 hops2 ?_
  simp only [go_sem]
  refine aops_pure hops2 rfl rfl rfl (As_nil _ _ _) (CoL.refl _) ?_
  refine aops_last 1 hops2 ?_
  simp only [go_sem]
  refine hKR2 _ ?_
  refine hK3 _ ?_
  refine awp_seq_k (fun K4 hK4 => ?_)
  refine awp_plain 4 (by kernel_rfl) rfl (fun g3 hg3 => ?_)
  simp only [go_sem]
  refine hK4 _ ?_
  refine awp_ret ?_
  refine ends_ev rfl ?_
  simp only [go_sem]
  exact Co.refl _
theorem code_other (X : D) (g d : Nat) : ACalls E 10 [.iface 55 X] [] g d (.tup [dI 0, dB false]) [] := by
  refine acalls_of_awp (fn := Tryd.f10) (N := 11) Tryd.call10 Tryd.func10 rfl rfl (by simp) ?_
  simp only [go_sem]
  refine awp_seq_k (fun K1 hK1 => ?_)
  refine awp_plain 2 (by kernel_rfl) rfl (fun g0 hg0 => ?_)
  simp only [go_sem]
  refine hK1 _ ?_
  refine awp_seq_k (fun K2 hK2 => ?_)
  refine awp_plain 1 (by kernel_rfl) rfl (fun g1 hg1 => ?_)
  simp only [go_sem]
  refine hK2 _ ?_
  refine awp_seq_k (fun K3 hK3 => ?_)
  refine awp_ops (by kernel_rfl) rfl (fun g2 hg2 ops2 KR2 hops2 hKR2 => ?_)
  refine aops_eval 2 hops2 ?_
  simp only [go_sem]
  refine aops_pure hops2 rfl rfl rfl (As_otherC X g1 _ _) (CoL.refl _) ?_
  refine aops_last 1 hops2 ?_
  simp only [go_sem]
  refine hKR2 _ ?_
  refine hK3 _ ?_
  refine awp_seq_k (fun K4 hK4 => ?_)
  refine awp_plain 4 (by kernel_rfl) rfl (fun g3 hg3 => ?_)
  simp only [go_sem]
  refine hK4 _ ?_
  refine awp_ret ?_
  refine ends_ev rfl ?_
  simp only [go_sem]
  exact Co.refl _
theorem atF_calls (c a : Int) (l : List Str) (g d : Nat) : ACalls E 11 [chain true c a l] [] g d (.tup [dI a, dB true]) [] := by
  refine acalls_of_awp (fn := Tryd.f11) (N := 12) Tryd.call11 Tryd.func11 rfl rfl (by simp) ?_
  simp only [go_sem]
  refine awp_seq_k (fun K1 hK1 => ?_)
  refine awp_plain 2 (by kernel_rfl) rfl (fun g0 hg0 => ?_)
  simp only [go_sem]
  refine hK1 _ ?_
  refine awp_seq_k (fun K2 hK2 => ?_)
  refine awp_plain 1 (by kernel_rfl) rfl (fun g1 hg1 => ?_)
  simp only [go_sem]
  refine hK2 _ ?_
  refine awp_seq_k (fun K3 hK3 => ?_)
  refine awp_ops (by kernel_rfl) rfl (fun g2 hg2 ops2 KR2 hops2 hKR2 => ?_)
  refine aops_eval 2 hops2 ?_
  simp only [go_sem]
  refine aops_call hops2 rfl rfl rfl (As_F c a g1 l _ _) (CoL.refl _) (by simp [go_sem]) ?_
  refine aops_last 1 hops2 ?_
  simp only [go_sem]
  refine hKR2 _ ?_
  refine hK3 _ ?_
  refine awp_seq_k (fun K4 hK4 => ?_)
  refine awp_plain 5 (by kernel_rfl) rfl (fun g3 hg3 => ?_)
  simp only [go_sem]
  refine hK4 _ ?_
  refine awp_ret ?_
  refine ends_ev rfl ?_
  simp only [go_sem]
  exact Co.refl _
theorem atC_calls (c a : Int) (l : List Str) (g d : Nat) : ACalls E 11 [chain false c a l] [] g d (.tup [dI 0, dB false]) [] := by
  refine acalls_of_awp (fn := Tryd.f11) (N := 12) Tryd.call11 Tryd.func11 rfl rfl (by simp) ?_
  simp only [go_sem]
  refine awp_seq_k (fun K1 hK1 => ?_)
  refine awp_plain 2 (by kernel_rfl) rfl (fun g0 hg0 => ?_)
  simp only [go_sem]
  refine hK1 _ ?_
  refine awp_seq_k (fun K2 hK2 => ?_)
  refine awp_plain 1 (by kernel_rfl) rfl (fun g1 hg1 => ?_)
  simp only [go_sem]
  refine hK2 _ ?_
  refine awp_seq_k (fun K3 hK3 => ?_)
  refine awp_ops (by kernel_rfl) rfl (fun g2 hg2 ops2 KR2 hops2 hKR2 => ?_)
  refine aops_eval 2 hops2 ?_
  simp only [go_sem]
  refine aops_pure hops2 rfl rfl rfl (As_miss c a g1 l _ _) (CoL.refl _) ?_
  refine aops_last 1 hops2 ?_
  simp only [go_sem]
  refine hKR2 _ ?_
  refine hK3 _ ?_
  refine awp_seq_k (fun K4 hK4 => ?_)
  refine awp_plain 5 (by kernel_rfl) rfl (fun g3 hg3 => ?_)
  simp only [go_sem]
  refine hK4 _ ?_
  refine awp_ret ?_
  refine ends_ev rfl ?_
  simp only [go_sem]
  exact Co.refl _
theorem at_nil (g d : Nat) : ACalls E 11 [.val .nilIface] [] g d (.tup [dI 0, dB false]) [] := by
  refine acalls_of_awp (fn := Tryd.f11) (N := 12) Tryd.call11 Tryd.func11 rfl rfl (by simp) ?_
  simp only [go_sem]
  refine awp_seq_k (fun K1 hK1 => ?_)
  refine awp_plain 2 (by kernel_rfl) rfl (fun g0 hg0 => ?_)
  simp only [go_sem]
  refine hK1 _ ?_
  refine awp_seq_k (fun K2 hK2 => ?_)
  refine awp_plain 1 (by kernel_rfl) rfl (fun g1 hg1 => ?_)
  simp only [go_sem]
  refine hK2 _ ?_
  refine awp_seq_k (fun K3 hK3 => ?_)
  refine awp_ops (by kernel_rfl) rfl (fun g2 hg2 ops2 KR2 hops2 hKR2 => ?_)
  refine aops_eval 2 hops2 ?_
  simp only [go_sem]
  refine aops_pure hops2 rfl rfl rfl (As_nil _ _ _) (CoL.refl _) ?_
  refine aops_last 1 hops2 ?_
  simp only [go_sem]
  refine hKR2 _ ?_
  refine hK3 _ ?_
  refine awp_seq_k (fun K4 hK4 => ?_)
  refine awp_plain 5 (by kernel_rfl) rfl (fun g3 hg3 => ?_)
  simp only [go_sem]
  refine hK4 _ ?_
  refine awp_ret ?_
  refine ends_ev rfl ?_
  simp only [go_sem]
  exact Co.refl _
theorem at_other (X : D) (g d : Nat) : ACalls E 11 [.iface 55 X] [] g d (.tup [dI 0, dB false]) [] := by
  refine acalls_of_awp (fn := Tryd.f11) (N := 12) Tryd.call11 Tryd.func11 rfl rfl (by simp) ?_
  simp only [go_sem]
  refine awp_seq_k (fun K1 hK1 => ?_)
  refine awp_plain 2 (by kernel_rfl) rfl (fun g0 hg0 => ?_)
  simp only [go_sem]
  refine hK1 _ ?_
  refine awp_seq_k (fun K2 hK2 => ?_)
  refine awp_plain 1 (by kernel_rfl) rfl (fun g1 hg1 => ?_)
  simp only [go_sem]
  refine hK2 _ ?_
  refine awp_seq_k (fun K3 hK3 => ?_)
  refine awp_ops (by kernel_rfl) rfl (fun g2 hg2 ops2 KR2 hops2 hKR2 => ?_)
  refine aops_eval 2 hops2 ?_
  simp only [go_sem]
  refine aops_pure hops2 rfl rfl rfl (As_otherF X g1 _ _) (CoL.refl _) ?_
  refine aops_last 1 hops2 ?_
  simp only [go_sem]
  refine hKR2 _ ?_
  refine hK3 _ ?_
  refine awp_seq_k (fun K4 hK4 => ?_)
  refine awp_plain 5 (by kernel_rfl) rfl (fun g3 hg3 => ?_)
  simp only [go_sem]
  refine hK4 _ ?_
  refine awp_ret ?_
  refine ends_ev rfl ?_
  simp only [go_sem]
  exact Co.refl _
theorem code_calls (e : Err) (g d : Nat) : ACalls E 10 [errD e] [] g d (.tup [dI (codeOf e), dB (!e.nil)]) [] := by
  unfold errD codeOf
  cases e.nil with
  | true => exact code_nil g d
  | false => exact codeK_calls _ _ _ _ g d
theorem at_calls (e : Err) (g d : Nat) : ACalls E 11 [errD e] [] g d (.tup [dI (atOf e), dB (!e.nil && e.fault)]) [] := by
  unfold errD atOf
  cases e.nil with
  | true => exact at_nil g d
  | false =>
    cases e.fault with
    | true => exact atF_calls _ _ _ g d
    | false => exact atC_calls _ _ _ g d

/-- The name of a code. -/
def nmS (c : Int) : Str := if 0 ≤ c ∧ c < 7 then nameS.getD c.toNat ⟨#[]⟩ else ⟨#[]⟩
set_option maxRecDepth 100000 in
theorem name_calls (c : Int) (g d : Nat) : ACalls E 14 [dI c] [] g d (encS (nmS c)) [] := by
  refine acalls_of_awp (fn := Tryd.f14) (N := 12) Tryd.call14 Tryd.func14 rfl rfl (by simp) ?_
  simp only [go_sem]
  refine awp_seq_k (fun K1 hK1 => ?_)
  refine awp_plain 1 (by kernel_rfl) rfl (fun g0 hg0 => ?_)
  simp only [go_sem]
  refine hK1 _ ?_
  refine awp_seq_k (fun K2 hK2 => ?_)
  refine awp_seq_k (fun K3 hK3 => ?_)
  by_cases h0 : c < 0
  · have hn : nmS c = ⟨#[]⟩ := by unfold nmS; rw [if_neg (by omega)]
    refine awp_plain 6 (by kernel_rfl) rfl (fun g1 hg1 => ?_)
    simp only [go_sem, h0, decide_true]
    refine hK3 _ ?_
    refine awp_t rfl ?_
    refine awp_seq_k (fun K4 hK4 => ?_)
    refine awp_plain 1 (by kernel_rfl) rfl (fun g2 hg2 => ?_)
    simp only [go_sem]
    refine hK4 _ ?_
    refine awp_ret ?_
    refine ends_ev rfl ?_
    simp only [go_sem]
    exact Co.of_eq (by rw [hn])
  · by_cases h7 : c < 7
    · have hh : c = 0 ∨ c = 1 ∨ c = 2 ∨ c = 3 ∨ c = 4 ∨ c = 5 ∨ c = 6 := by omega
      rcases hh with rfl | rfl | rfl | rfl | rfl | rfl | rfl
      · refine awp_plain 6 (by kernel_rfl) rfl (fun g1 hg1 => ?_)
        simp only [go_sem]
        refine hK3 _ ?_
        refine awp_f rfl ?_
        refine awp_skip ?_
        refine hK2 _ ?_
        refine awp_seq_k (fun K5 hK5 => ?_)
        refine awp_plain 4 (by kernel_rfl) rfl (fun g3 hg3 => ?_)
        simp only [go_sem, nameD, nameS, show ((7 : Nat) : Int) = 7 from rfl]
        refine hK5 _ ?_
        refine awp_ret ?_
        refine ends_ev rfl ?_
        simp only [go_sem]
        exact Co.refl _
      · refine awp_plain 6 (by kernel_rfl) rfl (fun g1 hg1 => ?_)
        simp only [go_sem]
        refine hK3 _ ?_
        refine awp_f rfl ?_
        refine awp_skip ?_
        refine hK2 _ ?_
        refine awp_seq_k (fun K6 hK6 => ?_)
        refine awp_plain 4 (by kernel_rfl) rfl (fun g3 hg3 => ?_)
        simp only [go_sem, nameD, nameS, show ((7 : Nat) : Int) = 7 from rfl]
        refine hK6 _ ?_
        refine awp_ret ?_
        refine ends_ev rfl ?_
        simp only [go_sem]
        exact Co.refl _
      · refine awp_plain 6 (by kernel_rfl) rfl (fun g1 hg1 => ?_)
        simp only [go_sem]
        refine hK3 _ ?_
        refine awp_f rfl ?_
        refine awp_skip ?_
        refine hK2 _ ?_
        refine awp_seq_k (fun K7 hK7 => ?_)
        refine awp_plain 4 (by kernel_rfl) rfl (fun g3 hg3 => ?_)
        simp only [go_sem, nameD, nameS, show ((7 : Nat) : Int) = 7 from rfl]
        refine hK7 _ ?_
        refine awp_ret ?_
        refine ends_ev rfl ?_
        simp only [go_sem]
        exact Co.refl _
      · refine awp_plain 6 (by kernel_rfl) rfl (fun g1 hg1 => ?_)
        simp only [go_sem]
        refine hK3 _ ?_
        refine awp_f rfl ?_
        refine awp_skip ?_
        refine hK2 _ ?_
        refine awp_seq_k (fun K8 hK8 => ?_)
        refine awp_plain 4 (by kernel_rfl) rfl (fun g3 hg3 => ?_)
        simp only [go_sem, nameD, nameS, show ((7 : Nat) : Int) = 7 from rfl]
        refine hK8 _ ?_
        refine awp_ret ?_
        refine ends_ev rfl ?_
        simp only [go_sem]
        exact Co.refl _
      · refine awp_plain 6 (by kernel_rfl) rfl (fun g1 hg1 => ?_)
        simp only [go_sem]
        refine hK3 _ ?_
        refine awp_f rfl ?_
        refine awp_skip ?_
        refine hK2 _ ?_
        refine awp_seq_k (fun K9 hK9 => ?_)
        refine awp_plain 4 (by kernel_rfl) rfl (fun g3 hg3 => ?_)
        simp only [go_sem, nameD, nameS, show ((7 : Nat) : Int) = 7 from rfl]
        refine hK9 _ ?_
        refine awp_ret ?_
        refine ends_ev rfl ?_
        simp only [go_sem]
        exact Co.refl _
      · refine awp_plain 6 (by kernel_rfl) rfl (fun g1 hg1 => ?_)
        simp only [go_sem]
        refine hK3 _ ?_
        refine awp_f rfl ?_
        refine awp_skip ?_
        refine hK2 _ ?_
        refine awp_seq_k (fun K10 hK10 => ?_)
        refine awp_plain 4 (by kernel_rfl) rfl (fun g3 hg3 => ?_)
        simp only [go_sem, nameD, nameS, show ((7 : Nat) : Int) = 7 from rfl]
        refine hK10 _ ?_
        refine awp_ret ?_
        refine ends_ev rfl ?_
        simp only [go_sem]
        exact Co.refl _
      · refine awp_plain 6 (by kernel_rfl) rfl (fun g1 hg1 => ?_)
        simp only [go_sem]
        refine hK3 _ ?_
        refine awp_f rfl ?_
        refine awp_skip ?_
        refine hK2 _ ?_
        refine awp_seq_k (fun K11 hK11 => ?_)
        refine awp_plain 4 (by kernel_rfl) rfl (fun g3 hg3 => ?_)
        simp only [go_sem, nameD, nameS, show ((7 : Nat) : Int) = 7 from rfl]
        refine hK11 _ ?_
        refine awp_ret ?_
        refine ends_ev rfl ?_
        simp only [go_sem]
        exact Co.refl _
    · have hn : nmS c = ⟨#[]⟩ := by unfold nmS; rw [if_neg (by omega)]
      have h7' : (7 : Int) ≤ c := by omega
      refine awp_plain 6 (by kernel_rfl) rfl (fun g1 hg1 => ?_)
      simp only [go_sem, h0, h7', decide_true, decide_false]
      refine hK3 _ ?_
      refine awp_t rfl ?_
      refine awp_seq_k (fun K12 hK12 => ?_)
      refine awp_plain 1 (by kernel_rfl) rfl (fun g2 hg2 => ?_)
      simp only [go_sem]
      refine hK12 _ ?_
      refine awp_ret ?_
      refine ends_ev rfl ?_
      simp only [go_sem]
      exact Co.of_eq (by rw [hn])
set_option maxRecDepth 100000 in
theorem refName_calls (c : Int) (g d : Nat) : ACalls E 15 [dI c] [] g d (encS (nmS c)) [] := by
  refine acalls_of_awp (fn := Tryd.f15) (N := 14) Tryd.call15 Tryd.func15 rfl rfl (by simp) ?_
  simp only [go_sem]
  refine awp_seq_k (fun K1 hK1 => ?_)
  refine awp_plain 1 (by kernel_rfl) rfl (fun g0 hg0 => ?_)
  simp only [go_sem]
  refine hK1 _ ?_
  refine awp_seq_k (fun K2 hK2 => ?_)
  refine awp_seq_k (fun K3 hK3 => ?_)
  by_cases h0 : c < 1
  · have hn : nmS c = ⟨#[]⟩ := by
      unfold nmS
      split
      · have : c = 0 := by omega
        subst this
        rfl
      · rfl
    refine awp_plain 6 (by kernel_rfl) rfl (fun g1 hg1 => ?_)
    simp only [go_sem, h0, decide_true]
    refine hK3 _ ?_
    refine awp_t rfl ?_
    refine awp_seq_k (fun K4 hK4 => ?_)
    refine awp_plain 1 (by kernel_rfl) rfl (fun g2 hg2 => ?_)
    simp only [go_sem]
    refine hK4 _ ?_
    refine awp_ret ?_
    refine ends_ev rfl ?_
    simp only [go_sem]
    exact Co.of_eq (by rw [hn])
  · by_cases h7 : (6 : Int) < c
    · have hn : nmS c = ⟨#[]⟩ := by unfold nmS; rw [if_neg (by omega)]
      refine awp_plain 6 (by kernel_rfl) rfl (fun g1 hg1 => ?_)
      simp only [go_sem, h0, h7, decide_true, decide_false]
      refine hK3 _ ?_
      refine awp_t rfl ?_
      refine awp_seq_k (fun K5 hK5 => ?_)
      refine awp_plain 1 (by kernel_rfl) rfl (fun g2 hg2 => ?_)
      simp only [go_sem]
      refine hK5 _ ?_
      refine awp_ret ?_
      refine ends_ev rfl ?_
      simp only [go_sem]
      exact Co.of_eq (by rw [hn])
    · have hh : c = 1 ∨ c = 2 ∨ c = 3 ∨ c = 4 ∨ c = 5 ∨ c = 6 := by omega
      rcases hh with rfl | rfl | rfl | rfl | rfl | rfl
      · refine awp_plain 6 (by kernel_rfl) rfl (fun g1 hg1 => ?_)
        simp only [go_sem]
        refine hK3 _ ?_
        refine awp_f rfl ?_
        refine awp_skip ?_
        refine hK2 _ ?_
        refine awp_seq_k (fun K6 hK6 => ?_)
        refine awp_plain 6 (by kernel_rfl) rfl (fun g3 hg3 => ?_)
        simp only [go_sem]
        try simp (disch := omega) only [wrapN]
        try simp only [go_sem, at6_0]
        try simp (disch := omega) only [wrapN, wrapB, Int.tdiv_eq_ediv_of_nonneg, Int.tmod_eq_emod_of_nonneg]
        refine hK6 _ ?_
        refine awp_ret ?_
        refine ends_ev rfl ?_
        simp only [go_sem]
        exact Co.refl _
      · refine awp_plain 6 (by kernel_rfl) rfl (fun g1 hg1 => ?_)
        simp only [go_sem]
        refine hK3 _ ?_
        refine awp_f rfl ?_
        refine awp_skip ?_
        refine hK2 _ ?_
        refine awp_seq_k (fun K7 hK7 => ?_)
        refine awp_plain 6 (by kernel_rfl) rfl (fun g3 hg3 => ?_)
        simp only [go_sem]
        try simp (disch := omega) only [wrapN]
        try simp only [go_sem, at6_1]
        try simp (disch := omega) only [wrapN, wrapB, Int.tdiv_eq_ediv_of_nonneg, Int.tmod_eq_emod_of_nonneg]
        refine hK7 _ ?_
        refine awp_ret ?_
        refine ends_ev rfl ?_
        simp only [go_sem]
        exact Co.refl _
      · refine awp_plain 6 (by kernel_rfl) rfl (fun g1 hg1 => ?_)
        simp only [go_sem]
        refine hK3 _ ?_
        refine awp_f rfl ?_
        refine awp_skip ?_
        refine hK2 _ ?_
        refine awp_seq_k (fun K8 hK8 => ?_)
        refine awp_plain 6 (by kernel_rfl) rfl (fun g3 hg3 => ?_)
        simp only [go_sem]
        try simp (disch := omega) only [wrapN]
        try simp only [go_sem, at6_2]
        try simp (disch := omega) only [wrapN, wrapB, Int.tdiv_eq_ediv_of_nonneg, Int.tmod_eq_emod_of_nonneg]
        refine hK8 _ ?_
        refine awp_ret ?_
        refine ends_ev rfl ?_
        simp only [go_sem]
        exact Co.refl _
      · refine awp_plain 6 (by kernel_rfl) rfl (fun g1 hg1 => ?_)
        simp only [go_sem]
        refine hK3 _ ?_
        refine awp_f rfl ?_
        refine awp_skip ?_
        refine hK2 _ ?_
        refine awp_seq_k (fun K9 hK9 => ?_)
        refine awp_plain 6 (by kernel_rfl) rfl (fun g3 hg3 => ?_)
        simp only [go_sem]
        try simp (disch := omega) only [wrapN]
        try simp only [go_sem, at6_3]
        try simp (disch := omega) only [wrapN, wrapB, Int.tdiv_eq_ediv_of_nonneg, Int.tmod_eq_emod_of_nonneg]
        refine hK9 _ ?_
        refine awp_ret ?_
        refine ends_ev rfl ?_
        simp only [go_sem]
        exact Co.refl _
      · refine awp_plain 6 (by kernel_rfl) rfl (fun g1 hg1 => ?_)
        simp only [go_sem]
        refine hK3 _ ?_
        refine awp_f rfl ?_
        refine awp_skip ?_
        refine hK2 _ ?_
        refine awp_seq_k (fun K10 hK10 => ?_)
        refine awp_plain 6 (by kernel_rfl) rfl (fun g3 hg3 => ?_)
        simp only [go_sem]
        try simp (disch := omega) only [wrapN]
        try simp only [go_sem, at6_4]
        try simp (disch := omega) only [wrapN, wrapB, Int.tdiv_eq_ediv_of_nonneg, Int.tmod_eq_emod_of_nonneg]
        refine hK10 _ ?_
        refine awp_ret ?_
        refine ends_ev rfl ?_
        simp only [go_sem]
        exact Co.refl _
      · refine awp_plain 6 (by kernel_rfl) rfl (fun g1 hg1 => ?_)
        simp only [go_sem]
        refine hK3 _ ?_
        refine awp_f rfl ?_
        refine awp_skip ?_
        refine hK2 _ ?_
        refine awp_seq_k (fun K11 hK11 => ?_)
        refine awp_plain 6 (by kernel_rfl) rfl (fun g3 hg3 => ?_)
        simp only [go_sem]
        try simp (disch := omega) only [wrapN]
        try simp only [go_sem, at6_5]
        try simp (disch := omega) only [wrapN, wrapB, Int.tdiv_eq_ediv_of_nonneg, Int.tmod_eq_emod_of_nonneg]
        refine hK11 _ ?_
        refine awp_ret ?_
        refine ends_ev rfl ?_
        simp only [go_sem]
        exact Co.refl _
end Go.Proofs.T

