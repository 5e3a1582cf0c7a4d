/- A part of the proof, under no conditions of its own: B14. -/
import Derived.Test.YtkddeobmfhchfaaDoorB13
namespace Go.Proofs.T
open Go Go.Ab Go.RowKit

/-! ## A nil table -/

def zeroPr : Prg := ⟨[], zeroEx⟩
def noTb : D := .val (.pointer none)
theorem getNil (a b : Str) (g d : Nat) : ACalls E 38 [noTb, .agg [.val (.string a), .val (.string b)]] [] g d (.tup [encDe zeroDe, dB false]) [] := by
  refine acalls_of_awp (fn := Tryd.f38) (N := 31) Tryd.call38 Tryd.func38 rfl rfl (by simp) ?_
  simp only [go_sem]
  refine awp_seq_k (fun K1 hK1 => ?_)
  refine awp_plain 3 (by kernel_rfl) rfl (fun g0 hg0 => ?_)
  simp only [go_sem, noTb]
  refine hK1 _ ?_
  refine awp_seq_k (fun K2 hK2 => ?_)
  refine awp_seq_k (fun K3 hK3 => ?_)
  refine awp_plain 2 (by kernel_rfl) rfl (fun g1 hg1 => ?_)
  simp only [go_sem]
  refine hK3 _ ?_
  refine awp_t rfl ?_
  refine awp_seq_k (fun K4 hK4 => ?_)
  refine awp_plain 3 (by kernel_rfl) rfl (fun g2 hg2 => ?_)
  simp only [go_sem]
  refine hK4 _ ?_
  refine awp_ret ?_
  refine ends_ev rfl ?_
  simp only [go_sem]
  exact Co.tup (.cons coZeroDe (.cons (.refl _) .nil))
theorem kindNil (n : Str) (g d : Nat) : ACalls E 14 [noTb, encS n] [] g d (dI 0) [] := by
  refine acalls_of_awp (fn := Tryd.f14) (N := 16) Tryd.call14 Tryd.func14 rfl rfl (by simp) ?_
  simp only [go_sem]
  refine awp_seq_k (fun K1 hK1 => ?_)
  refine awp_plain 1 (by kernel_rfl) rfl (fun g0 hg0 => ?_)
  simp only [go_sem]
  refine hK1 _ ?_
  refine awp_seq_k (fun K2 hK2 => ?_)
  refine awp_ops (by kernel_rfl) rfl (fun g1 hg1 ops1 KR1 hops1 hKR1 => ?_)
  refine aops_eval 3 hops1 ?_
  simp only [go_sem]
  refine aops_pure hops1 rfl rfl rfl (getNil _ _ _ _) (CoL.refl _) ?_
  refine aops_last 6 hops1 ?_
  simp only [go_sem]
  refine hKR1 _ ?_
  refine hK2 _ ?_
  refine awp_seq_k (fun K3 hK3 => ?_)
  refine awp_plain 3 (by kernel_rfl) rfl (fun g2 hg2 => ?_)
  simp only [go_sem, List.nil_append]
  refine hK3 _ ?_
  refine awp_ret ?_
  refine ends_ev rfl ?_
  simp only [go_sem]
  exact Co.of_eq (by simp [zeroDe])
theorem fmsNil (n : Str) (g d : Nat) : ACalls E 18 [noTb, encS n] [] g d (slFm []) [] := by
  have hj := join_calls [] [] (by simp) (by simp) (by simp) (by simp)
  have hz : zeroDe.formals = [] := rfl
  refine acalls_of_awp (fn := Tryd.f18) (N := 17) Tryd.call18 Tryd.func18 rfl rfl (by simp) ?_
  simp only [go_sem]
  refine awp_seq_k (fun K1 hK1 => ?_)
  refine awp_plain 1 (by kernel_rfl) rfl (fun g0 hg0 => ?_)
  simp only [go_sem]
  refine hK1 _ ?_
  refine awp_seq_k (fun K2 hK2 => ?_)
  refine awp_ops (by kernel_rfl) rfl (fun g1 hg1 ops1 KR1 hops1 hKR1 => ?_)
  refine aops_eval 3 hops1 ?_
  simp only [go_sem]
  refine aops_pure hops1 rfl rfl rfl (getNil _ _ _ _) (CoL.refl _) ?_
  refine aops_last 6 hops1 ?_
  simp only [go_sem]
  refine hKR1 _ ?_
  refine hK2 _ ?_
  refine awp_seq_k (fun K3 hK3 => ?_)
  refine awp_ops (by kernel_rfl) rfl (fun g2 hg2 ops2 KR2 hops2 hKR2 => ?_)
  refine aops_eval 2 hops2 ?_
  simp only [go_sem, List.nil_append, hz]
  refine aops_pure hops2 rfl rfl rfl (hj _ _) (.cons (.refl _) (.cons (.nil _) .nil)) ?_
  refine aops_last 1 hops2 ?_
  simp only [go_sem, List.nil_append]
  refine hKR2 _ ?_
  refine hK3 _ ?_
  refine awp_ret ?_
  refine ends_ev rfl ?_
  simp only [go_sem]
  exact Co.refl _
theorem instNil (x : Ty) (k : Int) (g d : Nat) : ACalls E 33 [noTb, encTy x, dI k] [] g d (.tup [encDe zeroDe, dB false]) [] := by
  refine acalls_of_awp (fn := Tryd.f33) (N := 35) Tryd.call33 Tryd.func33 rfl rfl (by simp) ?_
  simp only [go_sem]
  refine awp_seq_k (fun K1 hK1 => ?_)
  refine awp_plain 3 (by kernel_rfl) rfl (fun g0 hg0 => ?_)
  simp only [go_sem]
  refine hK1 _ ?_
  refine awp_seq_k (fun K2 hK2 => ?_)
  refine awp_ops (by kernel_rfl) rfl (fun g1 hg1 ops1 KR1 hops1 hKR1 => ?_)
  refine aops_eval 4 hops1 ?_
  simp only [go_sem]
  refine aops_pure hops1 rfl rfl rfl (getNil _ _ _ _) (CoL.refl _) ?_
  refine aops_last 6 hops1 ?_
  simp only [go_sem, deC, siC, exC, List.cons_append, List.nil_append]
  refine hKR1 _ ?_
  refine hK2 _ ?_
  refine awp_seq_k (fun K3 hK3 => ?_)
  refine awp_lateq 17 ⟨g0, 6, 0⟩ rfl rfl rfl rfl (by kernel_rfl) rfl ?_
  simp only [go_sem]
  intro g2 hg2 ops2 KR2 hops2 hKR2
  refine qrun_last 17 hops2 ?_
  simp only [go_sem, List.cons_append, List.nil_append]
  refine aops_last 1 hops2 ?_
  simp only [go_sem, List.nil_append]
  refine hKR2 _ ?_
  refine hK3 _ ?_
  refine awp_ret ?_
  refine ends_ev rfl ?_
  simp only [go_sem]
  exact Co.refl _
theorem fieldsNil (x : Ty) (g d : Nat) : ACalls E 12 [noTb, encTy x] [] g d (.tup [slPa [], dB false]) [] := by
  refine acalls_of_awp (fn := Tryd.f12) (N := 44) Tryd.call12 Tryd.func12 rfl rfl (by simp) ?_
  simp only [go_sem]
  refine awp_seq_k (fun K1 hK1 => ?_)
  refine awp_plain 3 (by kernel_rfl) rfl (fun g0 hg0 => ?_)
  simp only [go_sem, List.nil_append]
  refine hK1 _ ?_
  refine awp_seq_k (fun K2 hK2 => ?_)
  refine awp_ops (by kernel_rfl) rfl (fun g1 hg1 ops1 KR1 hops1 hKR1 => ?_)
  refine aops_eval 2 hops1 ?_
  simp only [go_sem, List.nil_append]
  refine aops_pure hops1 rfl rfl rfl (instNil x 1 _ _) (CoL.refl _) ?_
  refine aops_last 6 hops1 ?_
  simp only [go_sem, deC, siC, exC, List.cons_append, List.nil_append]
  refine hKR1 _ ?_
  refine hK2 _ ?_
  refine awp_seq_k (fun K3 hK3 => ?_)
  refine awp_seq_k (fun K4 hK4 => ?_)
  refine awp_plain 2 (by kernel_rfl) rfl (fun g2 hg2 => ?_)
  simp only [go_sem, Bool.not_false, List.nil_append]
  refine hK4 _ ?_
  refine awp_t rfl ?_
  refine awp_seq_k (fun K5 hK5 => ?_)
  refine awp_plain 2 (by kernel_rfl) rfl (fun g3 hg3 => ?_)
  simp only [go_sem, List.nil_append]
  refine hK5 _ ?_
  refine awp_ret ?_
  refine ends_ev rfl ?_
  simp only [go_sem]
  exact Co.tup (.cons (.nil _) (.cons (.refl _) .nil))
theorem specsNil (x : Ty) (g d : Nat) : ACalls E 13 [noTb, encTy x] [] g d (.tup [slSi [], dB false]) [] := by
  refine acalls_of_awp (fn := Tryd.f13) (N := 49) Tryd.call13 Tryd.func13 rfl rfl (by simp) ?_
  simp only [go_sem]
  refine awp_seq_k (fun K1 hK1 => ?_)
  refine awp_plain 3 (by kernel_rfl) rfl (fun g0 hg0 => ?_)
  simp only [go_sem, List.nil_append]
  refine hK1 _ ?_
  refine awp_seq_k (fun K2 hK2 => ?_)
  refine awp_ops (by kernel_rfl) rfl (fun g1 hg1 ops1 KR1 hops1 hKR1 => ?_)
  refine aops_eval 2 hops1 ?_
  simp only [go_sem, List.nil_append]
  refine aops_pure hops1 rfl rfl rfl (instNil x 2 _ _) (CoL.refl _) ?_
  refine aops_last 6 hops1 ?_
  simp only [go_sem, deC, siC, exC, List.cons_append, List.nil_append]
  refine hKR1 _ ?_
  refine hK2 _ ?_
  refine awp_seq_k (fun K3 hK3 => ?_)
  refine awp_seq_k (fun K4 hK4 => ?_)
  refine awp_plain 2 (by kernel_rfl) rfl (fun g2 hg2 => ?_)
  simp only [go_sem, Bool.not_false, List.nil_append]
  refine hK4 _ ?_
  refine awp_t rfl ?_
  refine awp_seq_k (fun K5 hK5 => ?_)
  refine awp_plain 2 (by kernel_rfl) rfl (fun g3 hg3 => ?_)
  simp only [go_sem, List.nil_append]
  refine hK5 _ ?_
  refine awp_ret ?_
  refine ends_ev rfl ?_
  simp only [go_sem]
  exact Co.tup (.cons (.nil _) (.cons (.refl _) .nil))
theorem methodNil (x : Ty) (m : Str) (hm : m.size ≤ 1000000) (g d : Nat) : ACalls E 27 [noTb, encTy x, encS m] [] g d (.tup [encDe zeroDe, dB false]) [] := by
  have hs0 : 1 + m.size ≤ 9223372036854775807 := by omega
  refine acalls_of_awp (fn := Tryd.f27) (N := 46) Tryd.call27 Tryd.func27 rfl rfl (by simp) ?_
  simp only [go_sem]
  refine awp_seq_k (fun K1 hK1 => ?_)
  refine awp_plain 3 (by kernel_rfl) rfl (fun g0 hg0 => ?_)
  simp only [go_sem, List.cons_append, List.nil_append]
  refine hK1 _ ?_
  refine awp_seq_k (fun K2 hK2 => ?_)
  refine awp_ops (by kernel_rfl) rfl (fun g1 hg1 ops1 KR1 hops1 hKR1 => ?_)
  refine aops_eval 6 hops1 ?_
  simp only [go_sem, hs0, List.cons_append, List.nil_append]
  try simp (disch := omega) only [wrapN, wrapB, Int.tdiv_eq_ediv_of_nonneg, Int.tmod_eq_emod_of_nonneg]
  refine aops_pure hops1 rfl rfl rfl (getNil _ _ _ _) (CoL.refl _) ?_
  refine aops_last 6 hops1 ?_
  simp only [go_sem, deC, siC, exC, List.cons_append, List.nil_append]
  refine hKR1 _ ?_
  refine hK2 _ ?_
  refine awp_seq_k (fun K3 hK3 => ?_)
  refine awp_seq_k (fun K4 hK4 => ?_)
  refine awp_ops (by kernel_rfl) rfl (fun g2 hg2 ops2 KR2 hops2 hKR2 => ?_)
  refine aops_eval 2 hops2 ?_
  simp only [go_sem, List.nil_append]
  refine aops_pure hops2 rfl rfl rfl (instNil x 1 _ _) (CoL.refl _) ?_
  refine aops_last 6 hops2 ?_
  simp only [go_sem, deC, siC, exC, List.cons_append, List.nil_append]
  refine hKR2 _ ?_
  refine hK4 _ ?_
  refine awp_seq_k (fun K5 hK5 => ?_)
  refine awp_plain 15 (by kernel_rfl) rfl (fun g3 hg3 => ?_)
  simp only [go_sem, Bool.not_false, List.nil_append]
  refine hK5 _ ?_
  refine awp_t rfl ?_
  refine awp_seq_k (fun K6 hK6 => ?_)
  refine awp_plain 3 (by kernel_rfl) rfl (fun g4 hg4 => ?_)
  simp only [go_sem, List.cons_append, List.nil_append]
  refine hK6 _ ?_
  refine awp_ret ?_
  refine ends_ev rfl ?_
  simp only [go_sem]
  exact Co.tup (.cons coZeroDe (.cons (.refl _) .nil))
theorem methodsNil (x : Ty) (g d : Nat) : ACalls E 25 [noTb, encTy x] [] g d (slSi []) [] := by
  refine acalls_of_awp (fn := Tryd.f25) (N := 74) Tryd.call25 Tryd.func25 rfl rfl (by simp) ?_
  simp only [go_sem]
  refine awp_seq_k (fun K1 hK1 => ?_)
  refine awp_plain 2 (by kernel_rfl) rfl (fun g0 hg0 => ?_)
  simp only [go_sem, List.nil_append]
  refine hK1 _ ?_
  refine awp_seq_k (fun K2 hK2 => ?_)
  refine awp_seq_k (fun K3 hK3 => ?_)
  refine awp_ops (by kernel_rfl) rfl (fun g1 hg1 ops1 KR1 hops1 hKR1 => ?_)
  refine aops_eval 2 hops1 ?_
  simp only [go_sem, List.nil_append]
  refine aops_pure hops1 rfl rfl rfl (instNil x 1 _ _) (CoL.refl _) ?_
  refine aops_last 6 hops1 ?_
  simp only [go_sem, deC, siC, exC, List.cons_append, List.nil_append]
  refine hKR1 _ ?_
  refine hK3 _ ?_
  refine awp_seq_k (fun K4 hK4 => ?_)
  refine awp_plain 2 (by kernel_rfl) rfl (fun g2 hg2 => ?_)
  simp only [go_sem, Bool.not_false, List.nil_append]
  refine hK4 _ ?_
  refine awp_t rfl ?_
  refine awp_seq_k (fun K5 hK5 => ?_)
  refine awp_plain 1 (by kernel_rfl) rfl (fun g3 hg3 => ?_)
  simp only [go_sem, List.nil_append]
  refine hK5 _ ?_
  refine awp_ret ?_
  refine ends_ev rfl ?_
  simp only [go_sem]
  exact .nil _
theorem progNil (g d : Nat) : ACalls E 23 [noTb] [] g d (encPr zeroPr) [] := by
  refine acalls_of_awp (fn := Tryd.f23) (N := 11) Tryd.call23 Tryd.func23 rfl rfl (by simp) ?_
  simp only [go_sem]
  refine awp_seq_k (fun K1 hK1 => ?_)
  refine awp_plain 1 (by kernel_rfl) rfl (fun g0 hg0 => ?_)
  simp only [go_sem, noTb]
  refine hK1 _ ?_
  refine awp_seq_k (fun K2 hK2 => ?_)
  refine awp_seq_k (fun K3 hK3 => ?_)
  refine awp_plain 2 (by kernel_rfl) rfl (fun g1 hg1 => ?_)
  simp only [go_sem]
  refine hK3 _ ?_
  refine awp_t rfl ?_
  refine awp_seq_k (fun K4 hK4 => ?_)
  refine awp_plain 2 (by kernel_rfl) rfl (fun g2 hg2 => ?_)
  simp only [go_sem]
  refine hK4 _ ?_
  refine awp_ret ?_
  refine ends_ev rfl ?_
  simp only [go_sem]
  exact .agg (.cons (.nil _) (.cons (.refl _) (.cons (.refl _) (.cons (.refl _) (.cons (.nil _) (.cons (.refl _) (.cons (.nil _) (.cons (.nil _) (.cons (.refl _) .nil)))))))))
end Go.Proofs.T

