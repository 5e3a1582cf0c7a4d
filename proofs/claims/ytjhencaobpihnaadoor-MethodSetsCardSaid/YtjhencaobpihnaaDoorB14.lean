/- A part of the proof, under no conditions of its own: B14. -/
import Derived.Test.YtjhencaobpihnaaDoorB13
namespace Go.Proofs.T
open Go Go.Ab Go.RowKit

/-! ## A nil table -/

def zeroPr : Prg := ⟨[], zeroEx⟩
def noTb : D := .val (.pointer none)
theorem getNil (a b : Str) (g d : Nat) : ACalls E 45 [noTb, .agg [.val (.string a), .val (.string b)]] [] g d (.tup [encDe zeroDe, dB false]) [] := by
  refine acalls_of_awp (fn := Tryd.f45) (N := 31) Tryd.call45 Tryd.func45 rfl rfl (by simp) ?_
  simp only [go_sem]
  refine awp_seq_k (fun K1 hK1 => ?_)
  refine awp_plain 3 (by kernel_rfl) rfl (fun g0 hg0 => ?_)
  simp only [go_sem, noTb]
  refine hK1 _ ?_
  refine awp_seq_k (fun K2 hK2 => ?_)
  refine awp_seq_k (fun K3 hK3 => ?_)
  refine awp_plain 2 (by kernel_rfl) rfl (fun g1 hg1 => ?_)
  simp only [go_sem]
  refine hK3 _ ?_
  refine awp_t rfl ?_
  refine awp_seq_k (fun K4 hK4 => ?_)
  refine awp_plain 3 (by kernel_rfl) rfl (fun g2 hg2 => ?_)
  simp only [go_sem]
  refine hK4 _ ?_
  refine awp_ret ?_
  refine ends_ev rfl ?_
  simp only [go_sem]
  exact Co.tup (.cons coZeroDe (.cons (.refl _) .nil))
theorem instNil (x : Ty) (k : Int) (g d : Nat) : ACalls E 31 [noTb, encTy x, dI k] [] g d (.tup [encDe zeroDe, dB false]) [] := by
  refine acalls_of_awp (fn := Tryd.f31) (N := 35) Tryd.call31 Tryd.func31 rfl rfl (by simp) ?_
  simp only [go_sem]
  refine awp_seq_k (fun K1 hK1 => ?_)
  refine awp_plain 3 (by kernel_rfl) rfl (fun g0 hg0 => ?_)
  simp only [go_sem]
  refine hK1 _ ?_
  refine awp_seq_k (fun K2 hK2 => ?_)
  refine awp_ops (by kernel_rfl) rfl (fun g1 hg1 ops1 KR1 hops1 hKR1 => ?_)
  refine aops_eval 4 hops1 ?_
  simp only [go_sem]
  refine aops_pure hops1 rfl rfl rfl (getNil _ _ _ _) (CoL.refl _) ?_
  refine aops_last 6 hops1 ?_
  simp only [go_sem, deC, siC, exC, List.cons_append, List.nil_append]
  refine hKR1 _ ?_
  refine hK2 _ ?_
  refine awp_seq_k (fun K3 hK3 => ?_)
  refine awp_lateq 17 ⟨g0, 6, 0⟩ rfl rfl rfl rfl (by kernel_rfl) rfl ?_
  simp only [go_sem]
  intro g2 hg2 ops2 KR2 hops2 hKR2
  refine qrun_last 17 hops2 ?_
  simp only [go_sem, List.cons_append, List.nil_append]
  refine aops_last 1 hops2 ?_
  simp only [go_sem, List.nil_append]
  refine hKR2 _ ?_
  refine hK3 _ ?_
  refine awp_ret ?_
  refine ends_ev rfl ?_
  simp only [go_sem]
  exact Co.refl _
theorem specsNil (x : Ty) (g d : Nat) : ACalls E 16 [noTb, encTy x] [] g d (.tup [slSi [], dB false]) [] := by
  refine acalls_of_awp (fn := Tryd.f16) (N := 49) Tryd.call16 Tryd.func16 rfl rfl (by simp) ?_
  simp only [go_sem]
  refine awp_seq_k (fun K1 hK1 => ?_)
  refine awp_plain 3 (by kernel_rfl) rfl (fun g0 hg0 => ?_)
  simp only [go_sem, List.nil_append]
  refine hK1 _ ?_
  refine awp_seq_k (fun K2 hK2 => ?_)
  refine awp_ops (by kernel_rfl) rfl (fun g1 hg1 ops1 KR1 hops1 hKR1 => ?_)
  refine aops_eval 2 hops1 ?_
  simp only [go_sem, List.nil_append]
  refine aops_pure hops1 rfl rfl rfl (instNil x 2 _ _) (CoL.refl _) ?_
  refine aops_last 6 hops1 ?_
  simp only [go_sem, deC, siC, exC, List.cons_append, List.nil_append]
  refine hKR1 _ ?_
  refine hK2 _ ?_
  refine awp_seq_k (fun K3 hK3 => ?_)
  refine awp_seq_k (fun K4 hK4 => ?_)
  refine awp_plain 2 (by kernel_rfl) rfl (fun g2 hg2 => ?_)
  simp only [go_sem, Bool.not_false, List.nil_append]
  refine hK4 _ ?_
  refine awp_t rfl ?_
  refine awp_seq_k (fun K5 hK5 => ?_)
  refine awp_plain 2 (by kernel_rfl) rfl (fun g3 hg3 => ?_)
  simp only [go_sem, List.nil_append]
  refine hK5 _ ?_
  refine awp_ret ?_
  refine ends_ev rfl ?_
  simp only [go_sem]
  exact Co.tup (.cons (.nil _) (.cons (.refl _) .nil))
theorem methodsNil (x : Ty) (g d : Nat) : ACalls E 17 [noTb, encTy x] [] g d (slSi []) [] := by
  refine acalls_of_awp (fn := Tryd.f17) (N := 74) Tryd.call17 Tryd.func17 rfl rfl (by simp) ?_
  simp only [go_sem]
  refine awp_seq_k (fun K1 hK1 => ?_)
  refine awp_plain 2 (by kernel_rfl) rfl (fun g0 hg0 => ?_)
  simp only [go_sem, List.nil_append]
  refine hK1 _ ?_
  refine awp_seq_k (fun K2 hK2 => ?_)
  refine awp_seq_k (fun K3 hK3 => ?_)
  refine awp_ops (by kernel_rfl) rfl (fun g1 hg1 ops1 KR1 hops1 hKR1 => ?_)
  refine aops_eval 2 hops1 ?_
  simp only [go_sem, List.nil_append]
  refine aops_pure hops1 rfl rfl rfl (instNil x 1 _ _) (CoL.refl _) ?_
  refine aops_last 6 hops1 ?_
  simp only [go_sem, deC, siC, exC, List.cons_append, List.nil_append]
  refine hKR1 _ ?_
  refine hK3 _ ?_
  refine awp_seq_k (fun K4 hK4 => ?_)
  refine awp_plain 2 (by kernel_rfl) rfl (fun g2 hg2 => ?_)
  simp only [go_sem, Bool.not_false, List.nil_append]
  refine hK4 _ ?_
  refine awp_t rfl ?_
  refine awp_seq_k (fun K5 hK5 => ?_)
  refine awp_plain 1 (by kernel_rfl) rfl (fun g3 hg3 => ?_)
  simp only [go_sem, List.nil_append]
  refine hK5 _ ?_
  refine awp_ret ?_
  refine ends_ev rfl ?_
  simp only [go_sem]
  exact .nil _
end Go.Proofs.T

