/- A part of the proof, under no conditions of its own: B11. -/
import Derived.Test.YtkddeobmfhchfaaDoorB10
namespace Go.Proofs.T
open Go Go.Ab Go.RowKit

/-! ## Methods -/

def meDe (p : Prg) (n m : Str) : Option Dec := (meFind p n m).bind fun i => p.decls[i]?
theorem getDe_me (p : Prg) (n m : Str) : getDe p (n, ⟨#[46]⟩ ++ m) = meDe p n m := by simp [getDe, meDe, tfind_me]
theorem meFind_some {p : Prg} {n m : Str} {i : Nat} (h : meFind p n m = some i) : ∃ hi : i < p.decls.length, meDe p n m = some p.decls[i] := by
  obtain ⟨hi, _⟩ := List.findIdx?_eq_some_iff_getElem.1 h
  exact ⟨hi, by simp [meDe, h, hi]⟩
theorem smDe_me {p : Prg} (h : smPr p) (n m : Str) : smDe ((meDe p n m).getD zeroDe) := by
  cases hm : meFind p n m with
  | none => simpa [meDe, hm] using smDe_zero
  | some i =>
    obtain ⟨hi, hd⟩ := meFind_some hm
    rw [hd]
    exact h.1.2 _ (List.getElem_mem hi)
/-- The index of the method that an instance has by a name. -/
def mthIdx (p : Prg) (x : Ty) (m : Str) : Option Nat := if instOf p x 1 = true then (meFind p x.name m).filter fun i => decide ((((p.decls[i]?).getD zeroDe).vars.length : Int) = x.args.length) else none
def mthDe (p : Prg) (x : Ty) (m : Str) : Option Dec := (mthIdx p x m).bind fun i => p.decls[i]?

theorem tbMethod_calls (p : Prg) (h : smPr p) (x : Ty) (hx : smTy x) (m : Str) (hm : m.size ≤ 1000000) (g d : Nat) :
    ACalls E 27 [encTb p, encTy x, encS m] [] g d (.tup [encDe ((mthDe p x m).getD zeroDe), dB (mthDe p x m).isSome]) [] := by
  have hi := tbInst_calls p x 1 (by decide)
  have hg := get_calls p x.name (⟨#[46]⟩ ++ m)
  rw [getDe_me] at hg
  have hs0 : 1 + m.size ≤ 9223372036854775807 := by omega
  have hsm := smDe_me h x.name m
  refine acalls_of_awp (fn := Tryd.f27) (N := 46) Tryd.call27 Tryd.func27 rfl rfl (by simp) ?_
  simp only [go_sem]
  refine awp_seq_k (fun K1 hK1 => ?_)
  refine awp_plain 3 (by kernel_rfl) rfl (fun g0 hg0 => ?_)
  simp only [go_sem, List.cons_append, List.nil_append]
  refine hK1 _ ?_
  refine awp_seq_k (fun K2 hK2 => ?_)
  refine awp_ops (by kernel_rfl) rfl (fun g1 hg1 ops1 KR1 hops1 hKR1 => ?_)
  refine aops_eval 6 hops1 ?_
  simp only [go_sem, hs0, List.cons_append, List.nil_append]
  try simp (disch := omega) only [wrapN, wrapB, Int.tdiv_eq_ediv_of_nonneg, Int.tmod_eq_emod_of_nonneg]
  refine aops_pure hops1 rfl rfl rfl (hg _ _) (CoL.refl _) ?_
  refine aops_last 6 hops1 ?_
  simp only [go_sem, deC, siC, exC, List.cons_append, List.nil_append]
  refine hKR1 _ ?_
  refine hK2 _ ?_
  refine awp_seq_k (fun K3 hK3 => ?_)
  refine awp_seq_k (fun K4 hK4 => ?_)
  refine awp_ops (by kernel_rfl) rfl (fun g2 hg2 ops2 KR2 hops2 hKR2 => ?_)
  refine aops_eval 2 hops2 ?_
  simp only [go_sem, List.nil_append]
  cases hins : instOf p x 1 with
  | false =>
    have he : mthDe p x m = none := by simp [mthDe, mthIdx, hins]
    refine aops_pure hops2 rfl rfl rfl (hi _ _) (CoL.refl _) ?_
    refine aops_last 6 hops2 ?_
    simp only [go_sem, hins, deC, siC, exC, List.cons_append, List.nil_append]
    refine hKR2 _ ?_
    refine hK4 _ ?_
    refine awp_seq_k (fun K5 hK5 => ?_)
    refine awp_plain 15 (by kernel_rfl) rfl (fun g3 hg3 => ?_)
    simp only [go_sem, Bool.not_false, List.nil_append]
    refine hK5 _ ?_
    refine awp_t rfl ?_
    refine awp_seq_k (fun K6 hK6 => ?_)
    refine awp_plain 3 (by kernel_rfl) rfl (fun g4 hg4 => ?_)
    simp only [go_sem, List.cons_append, List.nil_append]
    refine hK6 _ ?_
    refine awp_ret ?_
    rw [he]
    refine ends_ev rfl ?_
    simp only [go_sem]
    exact Co.tup (.cons coZeroDe (.cons (.refl _) .nil))
  | true =>
    cases hf : meFind p x.name m with
    | none =>
      have he : mthDe p x m = none := by simp [mthDe, mthIdx, hins, hf]
      have hd : (meDe p x.name m).isSome = false := by simp [meDe, hf]
      refine aops_pure hops2 rfl rfl rfl (hi _ _) (CoL.refl _) ?_
      refine aops_last 6 hops2 ?_
      simp only [go_sem, hins, deC, siC, exC, List.cons_append, List.nil_append]
      refine hKR2 _ ?_
      refine hK4 _ ?_
      refine awp_seq_k (fun K7 hK7 => ?_)
      refine awp_plain 15 (by kernel_rfl) rfl (fun g3 hg3 => ?_)
      simp only [go_sem, Bool.not_true, Bool.not_false, hd, List.nil_append]
      refine hK7 _ ?_
      refine awp_t rfl ?_
      refine awp_seq_k (fun K8 hK8 => ?_)
      refine awp_plain 3 (by kernel_rfl) rfl (fun g4 hg4 => ?_)
      simp only [go_sem, List.cons_append, List.nil_append]
      refine hK8 _ ?_
      refine awp_ret ?_
      rw [he]
      refine ends_ev rfl ?_
      simp only [go_sem]
      exact Co.tup (.cons coZeroDe (.cons (.refl _) .nil))
    | some i =>
      obtain ⟨hil, hd⟩ := meFind_some hf
      have hd2 : (meDe p x.name m).isSome = true := by simp [hd]
      have hde : (meDe p x.name m).getD zeroDe = p.decls[i] := by simp [hd]
      rw [hd] at hsm
      simp only [Option.getD_some] at hsm
      by_cases hv : (p.decls[i].vars.length : Int) = x.args.length
      · have he : mthDe p x m = some p.decls[i] := by simp [mthDe, mthIdx, hins, hf, Option.filter, hil, hv]
        refine aops_pure hops2 rfl rfl rfl (hi _ _) (CoL.refl _) ?_
        refine aops_last 6 hops2 ?_
        simp only [go_sem, hins, deC, siC, exC, List.cons_append, List.nil_append]
        refine hKR2 _ ?_
        refine hK4 _ ?_
        refine awp_seq_k (fun K9 hK9 => ?_)
        refine awp_plain 15 (by kernel_rfl) rfl (fun g3 hg3 => ?_)
        simp only [go_sem, Bool.not_true, hd2, hde, hv, List.length_map, decide_true, List.nil_append]
        refine hK9 _ ?_
        refine awp_f rfl ?_
        refine awp_skip ?_
        refine hK3 _ ?_
        refine awp_seq_k (fun K10 hK10 => ?_)
        refine awp_ops (by kernel_rfl) rfl (fun g5 hg5 ops5 KR5 hops5 hKR5 => ?_)
        refine aops_eval 1 hops5 ?_
        simp only [go_sem, List.nil_append]
        refine aops_pure hops5 rfl rfl rfl (copied_calls p.decls[i] hsm _ _) (CoL.refl _) ?_
        refine aops_last 2 hops5 ?_
        simp only [go_sem, deC, siC, exC, List.cons_append, List.nil_append]
        refine hKR5 _ ?_
        refine hK10 _ ?_
        refine awp_ret ?_
        rw [he]
        refine ends_ev rfl ?_
        simp only [go_sem]
        exact Co.refl _
      · have he : mthDe p x m = none := by simp [mthDe, mthIdx, hins, hf, Option.filter, hil, hv]
        refine aops_pure hops2 rfl rfl rfl (hi _ _) (CoL.refl _) ?_
        refine aops_last 6 hops2 ?_
        simp only [go_sem, hins, deC, siC, exC, List.cons_append, List.nil_append]
        refine hKR2 _ ?_
        refine hK4 _ ?_
        refine awp_seq_k (fun K11 hK11 => ?_)
        refine awp_plain 15 (by kernel_rfl) rfl (fun g3 hg3 => ?_)
        simp only [go_sem, Bool.not_true, Bool.not_false, hd2, hde, hv, List.length_map, decide_false, List.nil_append]
        refine hK11 _ ?_
        refine awp_t rfl ?_
        refine awp_seq_k (fun K12 hK12 => ?_)
        refine awp_plain 3 (by kernel_rfl) rfl (fun g4 hg4 => ?_)
        simp only [go_sem, List.cons_append, List.nil_append]
        refine hK12 _ ?_
        refine awp_ret ?_
        rw [he]
        refine ends_ev rfl ?_
        simp only [go_sem]
        exact Co.tup (.cons coZeroDe (.cons (.refl _) .nil))

theorem refMethod_calls (p : Prg) (x : Ty) (m : Str) (hl : p.decls.length ≤ 2000) (g d : Nat) :
    ACalls E 28 [encPr p, encTy x, encS m] [] g d (dI (optI (mthIdx p x m))) [] := by
  have hi := refInst_calls p x 1 hl
  have hF := findMe_calls p x.name m hl
  refine acalls_of_awp (fn := Tryd.f28) (N := 35) Tryd.call28 Tryd.func28 rfl rfl (by simp) ?_
  simp only [go_sem]
  refine awp_seq_k (fun K1 hK1 => ?_)
  refine awp_plain 3 (by kernel_rfl) rfl (fun g0 hg0 => ?_)
  simp only [go_sem, List.cons_append, List.nil_append]
  refine hK1 _ ?_
  refine awp_seq_k (fun K2 hK2 => ?_)
  refine awp_ops (by kernel_rfl) rfl (fun g1 hg1 ops1 KR1 hops1 hKR1 => ?_)
  refine aops_eval 4 hops1 ?_
  simp only [go_sem, List.nil_append]
  cases hins : instOf p x 1 with
  | false =>
    have he : mthIdx p x m = none := by simp [mthIdx, hins]
    refine aops_pure hops1 rfl rfl rfl (hF _ _) (CoL.refl _) ?_
    refine aops_last 1 hops1 ?_
    simp only [go_sem, List.nil_append]
    refine hKR1 _ ?_
    refine hK2 _ ?_
    refine awp_seq_k (fun K3 hK3 => ?_)
    refine awp_seq_k (fun K4 hK4 => ?_)
    refine awp_anyq (by kernel_rfl) rfl (fun g2 hg2 ops2 KR2 hops2 hKR2 => ?_)
    refine qrun_eval 2 hops2 ?_
    simp only [go_sem, List.nil_append]
    refine qrun_pure hops2 rfl rfl rfl (hi _ _) (CoL.refl _) rfl ?_
    refine qrun_last 18 hops2 ?_
    simp only [go_sem, hins, Bool.not_false, List.nil_append]
    refine hKR2 _ ?_
    refine hK4 _ ?_
    refine awp_t rfl ?_
    refine awp_seq_k (fun K5 hK5 => ?_)
    refine awp_plain 1 (by kernel_rfl) rfl (fun g3 hg3 => ?_)
    simp only [go_sem, List.nil_append]
    refine hK5 _ ?_
    refine awp_ret ?_
    rw [he]
    refine ends_ev rfl ?_
    simp only [go_sem]
    exact Co.refl _
  | true =>
    cases hf : meFind p x.name m with
    | none =>
      have he : mthIdx p x m = none := by simp [mthIdx, hins, hf]
      have h0 : ((-1 : Int) < 0) = True := by simp
      refine aops_pure hops1 rfl rfl rfl (hF _ _) (CoL.refl _) ?_
      refine aops_last 1 hops1 ?_
      simp only [go_sem, hf, optI, List.nil_append]
      refine hKR1 _ ?_
      refine hK2 _ ?_
      refine awp_seq_k (fun K6 hK6 => ?_)
      refine awp_seq_k (fun K7 hK7 => ?_)
      refine awp_anyq (by kernel_rfl) rfl (fun g2 hg2 ops2 KR2 hops2 hKR2 => ?_)
      refine qrun_eval 2 hops2 ?_
      simp only [go_sem, List.nil_append]
      refine qrun_pure hops2 rfl rfl rfl (hi _ _) (CoL.refl _) rfl ?_
      refine qrun_last 18 hops2 ?_
      simp only [go_sem, hins, Bool.not_true, h0, decide_true, List.nil_append]
      refine hKR2 _ ?_
      refine hK7 _ ?_
      refine awp_t rfl ?_
      refine awp_seq_k (fun K8 hK8 => ?_)
      refine awp_plain 1 (by kernel_rfl) rfl (fun g3 hg3 => ?_)
      simp only [go_sem, List.nil_append]
      refine hK8 _ ?_
      refine awp_ret ?_
      rw [he]
      refine ends_ev rfl ?_
      simp only [go_sem]
      exact Co.refl _
    | some i =>
      obtain ⟨hil, hd⟩ := meFind_some hf
      have hgm := getM (f := encDe) hil
      have h0 : ¬ (i : Int) < 0 := by omega
      by_cases hv : (p.decls[i].vars.length : Int) = x.args.length
      · have he : mthIdx p x m = some i := by simp [mthIdx, hins, hf, Option.filter, hil, hv]
        refine aops_pure hops1 rfl rfl rfl (hF _ _) (CoL.refl _) ?_
        refine aops_last 1 hops1 ?_
        simp only [go_sem, hf, optI, List.nil_append]
        refine hKR1 _ ?_
        refine hK2 _ ?_
        refine awp_seq_k (fun K9 hK9 => ?_)
        refine awp_seq_k (fun K10 hK10 => ?_)
        refine awp_anyq (by kernel_rfl) rfl (fun g2 hg2 ops2 KR2 hops2 hKR2 => ?_)
        refine qrun_eval 2 hops2 ?_
        simp only [go_sem, List.nil_append]
        refine qrun_pure hops2 rfl rfl rfl (hi _ _) (CoL.refl _) rfl ?_
        refine qrun_last 18 hops2 ?_
        simp only [go_sem, hins, Bool.not_true, h0, decide_true, decide_false, hgm, encDe, hv, List.length_map, deC, siC, exC, List.cons_append, List.nil_append]
        refine hKR2 _ ?_
        refine hK10 _ ?_
        refine awp_f rfl ?_
        refine awp_skip ?_
        refine hK9 _ ?_
        refine awp_seq_k (fun K11 hK11 => ?_)
        refine awp_plain 2 (by kernel_rfl) rfl (fun g4 hg4 => ?_)
        simp only [go_sem, List.nil_append]
        refine hK11 _ ?_
        refine awp_ret ?_
        rw [he]
        refine ends_ev rfl ?_
        simp only [go_sem]
        exact Co.refl _
      · have he : mthIdx p x m = none := by simp [mthIdx, hins, hf, Option.filter, hil, hv]
        refine aops_pure hops1 rfl rfl rfl (hF _ _) (CoL.refl _) ?_
        refine aops_last 1 hops1 ?_
        simp only [go_sem, hf, optI, List.nil_append]
        refine hKR1 _ ?_
        refine hK2 _ ?_
        refine awp_seq_k (fun K12 hK12 => ?_)
        refine awp_seq_k (fun K13 hK13 => ?_)
        refine awp_anyq (by kernel_rfl) rfl (fun g2 hg2 ops2 KR2 hops2 hKR2 => ?_)
        refine qrun_eval 2 hops2 ?_
        simp only [go_sem, List.nil_append]
        refine qrun_pure hops2 rfl rfl rfl (hi _ _) (CoL.refl _) rfl ?_
        refine qrun_last 18 hops2 ?_
        simp only [go_sem, hins, Bool.not_true, h0, decide_false, hgm, encDe, hv, List.length_map, Bool.not_false, deC, siC, exC, List.cons_append, List.nil_append]
        refine hKR2 _ ?_
        refine hK13 _ ?_
        refine awp_t rfl ?_
        refine awp_seq_k (fun K14 hK14 => ?_)
        refine awp_plain 1 (by kernel_rfl) rfl (fun g3 hg3 => ?_)
        simp only [go_sem, List.nil_append]
        refine hK14 _ ?_
        refine awp_ret ?_
        rw [he]
        refine ends_ev rfl ?_
        simp only [go_sem]
        exact Co.refl _
end Go.Proofs.T

