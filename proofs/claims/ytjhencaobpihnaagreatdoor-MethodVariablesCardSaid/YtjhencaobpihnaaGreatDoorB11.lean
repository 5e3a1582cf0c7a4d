/- A part of the proof, under no conditions of its own: B11. -/
import Derived.Test.YtjhencaobpihnaaGreatDoorB10
namespace Go.Proofs.T
open Go Go.Ab Go.RowKit

/-! ## Methods -/

def meDe (p : Prg) (n m : Str) : Option Dec := (meFind p n m).bind fun i => p.decls[i]?
theorem getDe_me (p : Prg) (n m : Str) : getDe p (n, ⟨#[46]⟩ ++ m) = meDe p n m := by simp [getDe, meDe, tfind_me]
theorem meFind_some {p : Prg} {n m : Str} {i : Nat} (h : meFind p n m = some i) : ∃ hi : i < p.decls.length, meDe p n m = some p.decls[i] := by
  obtain ⟨hi, _⟩ := List.findIdx?_eq_some_iff_getElem.1 h
  exact ⟨hi, by simp [meDe, h, hi]⟩
theorem smDe_me {p : Prg} (h : smPr p) (n m : Str) : smDe ((meDe p n m).getD zeroDe) := by
  cases hm : meFind p n m with
  | none => simpa [meDe, hm] using smDe_zero
  | some i =>
    obtain ⟨hi, hd⟩ := meFind_some hm
    rw [hd]
    exact h.1.2 _ (List.getElem_mem hi)
/-- The index of the method that an instance has by a name. -/
def mthIdx (p : Prg) (x : Ty) (m : Str) : Option Nat := if instOf p x 1 = true then (meFind p x.name m).filter fun i => decide ((((p.decls[i]?).getD zeroDe).vars.length : Int) = x.args.length) else none
def mthDe (p : Prg) (x : Ty) (m : Str) : Option Dec := (mthIdx p x m).bind fun i => p.decls[i]?

theorem refMethod_calls (p : Prg) (x : Ty) (m : Str) (hl : p.decls.length ≤ 2000) (g d : Nat) :
    ACalls E 58 [encPr p, encTy x, encS m] [] g d (dI (optI (mthIdx p x m))) [] := by
  have hi := refInst_calls p x 1 hl
  have hF := findMe_calls p x.name m hl
  refine acalls_of_awp (fn := Tryz.f58) (N := 35) Tryz.call58 Tryz.func58 rfl rfl (by simp) ?_
  simp only [go_sem]
  refine awp_seq_k (fun K1 hK1 => ?_)
  refine awp_plain 3 (by kernel_rfl) rfl (fun g0 hg0 => ?_)
  simp only [go_sem, List.cons_append, List.nil_append]
  refine hK1 _ ?_
  refine awp_seq_k (fun K2 hK2 => ?_)
  refine awp_ops (by kernel_rfl) rfl (fun g1 hg1 ops1 KR1 hops1 hKR1 => ?_)
  refine aops_eval 4 hops1 ?_
  simp only [go_sem, List.nil_append]
  cases hins : instOf p x 1 with
  | false =>
    have he : mthIdx p x m = none := by simp [mthIdx, hins]
    refine aops_pure hops1 rfl rfl rfl (hF _ _) (CoL.refl _) ?_
    refine aops_last 1 hops1 ?_
    simp only [go_sem, List.nil_append]
    refine hKR1 _ ?_
    refine hK2 _ ?_
    refine awp_seq_k (fun K3 hK3 => ?_)
    refine awp_seq_k (fun K4 hK4 => ?_)
    refine awp_anyq (by kernel_rfl) rfl (fun g2 hg2 ops2 KR2 hops2 hKR2 => ?_)
    refine qrun_eval 2 hops2 ?_
    simp only [go_sem, List.nil_append]
    refine qrun_pure hops2 rfl rfl rfl (hi _ _) (CoL.refl _) rfl ?_
    refine qrun_last 18 hops2 ?_
    simp only [go_sem, hins, Bool.not_false, List.nil_append]
    refine hKR2 _ ?_
    refine hK4 _ ?_
    refine awp_t rfl ?_
    refine awp_seq_k (fun K5 hK5 => ?_)
    refine awp_plain 1 (by kernel_rfl) rfl (fun g3 hg3 => ?_)
    simp only [go_sem, List.nil_append]
    refine hK5 _ ?_
    refine awp_ret ?_
    rw [he]
    refine ends_ev rfl ?_
    simp only [go_sem]
    exact Co.refl _
  | true =>
    cases hf : meFind p x.name m with
    | none =>
      have he : mthIdx p x m = none := by simp [mthIdx, hins, hf]
      have h0 : ((-1 : Int) < 0) = True := by simp
      refine aops_pure hops1 rfl rfl rfl (hF _ _) (CoL.refl _) ?_
      refine aops_last 1 hops1 ?_
      simp only [go_sem, hf, optI, List.nil_append]
      refine hKR1 _ ?_
      refine hK2 _ ?_
      refine awp_seq_k (fun K6 hK6 => ?_)
      refine awp_seq_k (fun K7 hK7 => ?_)
      refine awp_anyq (by kernel_rfl) rfl (fun g2 hg2 ops2 KR2 hops2 hKR2 => ?_)
      refine qrun_eval 2 hops2 ?_
      simp only [go_sem, List.nil_append]
      refine qrun_pure hops2 rfl rfl rfl (hi _ _) (CoL.refl _) rfl ?_
      refine qrun_last 18 hops2 ?_
      simp only [go_sem, hins, Bool.not_true, h0, decide_true, List.nil_append]
      refine hKR2 _ ?_
      refine hK7 _ ?_
      refine awp_t rfl ?_
      refine awp_seq_k (fun K8 hK8 => ?_)
      refine awp_plain 1 (by kernel_rfl) rfl (fun g3 hg3 => ?_)
      simp only [go_sem, List.nil_append]
      refine hK8 _ ?_
      refine awp_ret ?_
      rw [he]
      refine ends_ev rfl ?_
      simp only [go_sem]
      exact Co.refl _
    | some i =>
      obtain ⟨hil, hd⟩ := meFind_some hf
      have hgm := getM (f := encDe) hil
      have h0 : ¬ (i : Int) < 0 := by omega
      by_cases hv : (p.decls[i].vars.length : Int) = x.args.length
      · have he : mthIdx p x m = some i := by simp [mthIdx, hins, hf, Option.filter, hil, hv]
        refine aops_pure hops1 rfl rfl rfl (hF _ _) (CoL.refl _) ?_
        refine aops_last 1 hops1 ?_
        simp only [go_sem, hf, optI, List.nil_append]
        refine hKR1 _ ?_
        refine hK2 _ ?_
        refine awp_seq_k (fun K9 hK9 => ?_)
        refine awp_seq_k (fun K10 hK10 => ?_)
        refine awp_anyq (by kernel_rfl) rfl (fun g2 hg2 ops2 KR2 hops2 hKR2 => ?_)
        refine qrun_eval 2 hops2 ?_
        simp only [go_sem, List.nil_append]
        refine qrun_pure hops2 rfl rfl rfl (hi _ _) (CoL.refl _) rfl ?_
        refine qrun_last 18 hops2 ?_
        simp only [go_sem, hins, Bool.not_true, h0, decide_true, decide_false, hgm, encDe, hv, List.length_map, deC, siC, exC, List.cons_append, List.nil_append]
        refine hKR2 _ ?_
        refine hK10 _ ?_
        refine awp_f rfl ?_
        refine awp_skip ?_
        refine hK9 _ ?_
        refine awp_seq_k (fun K11 hK11 => ?_)
        refine awp_plain 2 (by kernel_rfl) rfl (fun g4 hg4 => ?_)
        simp only [go_sem, List.nil_append]
        refine hK11 _ ?_
        refine awp_ret ?_
        rw [he]
        refine ends_ev rfl ?_
        simp only [go_sem]
        exact Co.refl _
      · have he : mthIdx p x m = none := by simp [mthIdx, hins, hf, Option.filter, hil, hv]
        refine aops_pure hops1 rfl rfl rfl (hF _ _) (CoL.refl _) ?_
        refine aops_last 1 hops1 ?_
        simp only [go_sem, hf, optI, List.nil_append]
        refine hKR1 _ ?_
        refine hK2 _ ?_
        refine awp_seq_k (fun K12 hK12 => ?_)
        refine awp_seq_k (fun K13 hK13 => ?_)
        refine awp_anyq (by kernel_rfl) rfl (fun g2 hg2 ops2 KR2 hops2 hKR2 => ?_)
        refine qrun_eval 2 hops2 ?_
        simp only [go_sem, List.nil_append]
        refine qrun_pure hops2 rfl rfl rfl (hi _ _) (CoL.refl _) rfl ?_
        refine qrun_last 18 hops2 ?_
        simp only [go_sem, hins, Bool.not_true, h0, decide_false, hgm, encDe, hv, List.length_map, Bool.not_false, deC, siC, exC, List.cons_append, List.nil_append]
        refine hKR2 _ ?_
        refine hK13 _ ?_
        refine awp_t rfl ?_
        refine awp_seq_k (fun K14 hK14 => ?_)
        refine awp_plain 1 (by kernel_rfl) rfl (fun g3 hg3 => ?_)
        simp only [go_sem, List.nil_append]
        refine hK14 _ ?_
        refine awp_ret ?_
        rw [he]
        refine ends_ev rfl ?_
        simp only [go_sem]
        exact Co.refl _
end Go.Proofs.T

