/- A part of the proof, under no conditions of its own: B7. -/
import Derived.Test.YtjhencaobpihnaaDoorB6
import Derived.Test.YtjhencaobpihnaaDoorXE
namespace Go.Proofs.T
open Go Go.Ab Go.RowKit

def tyDe (p : Prg) (n : Str) : Option Dec := (tyFind p n).bind fun i => p.decls[i]?
theorem getDe_ty (p : Prg) (n : Str) : getDe p (n, ByteArray.empty) = tyDe p n := by simp [getDe, tyDe, tfind_ty]
def kindOf (p : Prg) (n : Str) : Int := ((tyDe p n).getD zeroDe).kind
def fmsOf (p : Prg) (n : Str) : List Formal := ((tyDe p n).getD zeroDe).formals
def instOf (p : Prg) (x : Ty) (k : Int) : Bool := decide (kindOf p x.name = k) && decide ((fmsOf p x.name).length = x.args.length)
theorem tyFind_none {p : Prg} {n : Str} (h : tyFind p n = none) : tyDe p n = none := by simp [tyDe, h]
theorem tyFind_some {p : Prg} {n : Str} {i : Nat} (h : tyFind p n = some i) : ∃ hi : i < p.decls.length, tyDe p n = some p.decls[i] := by
  obtain ⟨hi, _⟩ := List.findIdx?_eq_some_iff_getElem.1 h
  exact ⟨hi, by simp [tyDe, h, hi]⟩
theorem tyDe_mem {p : Prg} {n : Str} {d : Dec} (h : tyDe p n = some d) : d ∈ p.decls := by
  unfold tyDe at h
  obtain ⟨i, _, hi⟩ := Option.bind_eq_some_iff.1 h
  exact List.mem_of_getElem? hi
theorem smDe_zero : smDe zeroDe := by
  have ht : smTy zeroTy := (smTy_iff _).2 ⟨by simp [zeroTy], by simp [zeroTy], by simp [zeroTy]⟩
  have hs : smSi zeroSi := ⟨by simp [zeroSi], ⟨by simp [zeroSi], by simp [zeroSi]⟩, ⟨by simp [zeroSi], by simp [zeroSi]⟩, ht⟩
  have he : smEx zeroEx := (smEx_iff _).2 ⟨by simp [zeroEx], ht, ⟨by simp [zeroEx], by simp [zeroEx]⟩, by simp [zeroEx], by simp [zeroEx]⟩
  exact ⟨by simp [zeroDe], ⟨by simp [zeroDe], by simp [zeroDe]⟩, ⟨by simp [zeroDe], by simp [zeroDe]⟩, ⟨by simp [zeroDe], by simp [zeroDe]⟩, by simp [zeroDe], ⟨by simp [zeroDe], by simp [zeroDe]⟩, hs, he⟩
theorem smDe_get {p : Prg} (h : smPr p) (n : Str) : smDe ((tyDe p n).getD zeroDe) := by
  cases hd : tyDe p n with
  | none => exact smDe_zero
  | some d => exact h.1.2 d (tyDe_mem hd)

/-! The reference. -/
/-! The table. -/
theorem tbInst_calls (p : Prg) (x : Ty) (k : Int) (hk : k ≠ 0) (g d : Nat) : ACalls E 31 [encTb p, encTy x, dI k] [] g d (.tup [encDe ((tyDe p x.name).getD zeroDe), dB (instOf p x k)]) [] := by
  have hg := get_calls p x.name ByteArray.empty
  rw [getDe_ty] at hg
  cases hs : (tyDe p x.name).isSome with
  | false =>
    have h0 : tyDe p x.name = none := by simpa using hs
    have e : instOf p x k = false := by simp [instOf, kindOf, h0, zeroDe, Ne.symm hk]
    rw [hs] at hg
    refine acalls_of_awp (fn := Tryd.f31) (N := 35) Tryd.call31 Tryd.func31 rfl rfl (by simp) ?_
    simp only [go_sem]
    refine awp_seq_k (fun K1 hK1 => ?_)
    refine awp_plain 3 (by kernel_rfl) rfl (fun g0 hg0 => ?_)
    simp only [go_sem]
    refine hK1 _ ?_
    refine awp_seq_k (fun K2 hK2 => ?_)
    refine awp_ops (by kernel_rfl) rfl (fun g1 hg1 ops1 KR1 hops1 hKR1 => ?_)
    refine aops_eval 4 hops1 ?_
    simp only [go_sem]
    refine aops_pure hops1 rfl rfl rfl (hg _ _) (CoL.refl _) ?_
    refine aops_last 6 hops1 ?_
    simp only [go_sem, deC, siC, exC, List.cons_append, List.nil_append]
    refine hKR1 _ ?_
    refine hK2 _ ?_
    refine awp_seq_k (fun K3 hK3 => ?_)
    refine awp_lateq 17 ⟨g0, 6, 0⟩ rfl rfl rfl rfl (by kernel_rfl) rfl ?_
    simp only [go_sem]
    intro g2 hg2 ops2 KR2 hops2 hKR2
    refine qrun_last 17 hops2 ?_
    simp only [go_sem, List.cons_append, List.nil_append]
    refine aops_last 1 hops2 ?_
    simp only [go_sem, List.nil_append]
    refine hKR2 _ ?_
    refine hK3 _ ?_
    refine awp_ret ?_
    rw [e]
    refine ends_ev rfl ?_
    simp only [go_sem]
    exact Co.refl _
  | true =>
    rw [hs] at hg
    by_cases h1 : ((tyDe p x.name).getD zeroDe).kind = k
    · subst h1
      have e : instOf p x ((tyDe p x.name).getD zeroDe).kind = decide ((((tyDe p x.name).getD zeroDe).formals.length : Int) = x.args.length) := by
        by_cases hl : ((tyDe p x.name).getD zeroDe).formals.length = x.args.length
        · simp [instOf, kindOf, fmsOf, hl]
        · have hl2 : ¬ ((((tyDe p x.name).getD zeroDe).formals.length : Int) = x.args.length) := by omega
          simp only [instOf, kindOf, fmsOf, hl, hl2, decide_false, Bool.and_false]
      refine acalls_of_awp (fn := Tryd.f31) (N := 35) Tryd.call31 Tryd.func31 rfl rfl (by simp) ?_
      simp only [go_sem]
      refine awp_seq_k (fun K1 hK1 => ?_)
      refine awp_plain 3 (by kernel_rfl) rfl (fun g0 hg0 => ?_)
      simp only [go_sem]
      refine hK1 _ ?_
      refine awp_seq_k (fun K2 hK2 => ?_)
      refine awp_ops (by kernel_rfl) rfl (fun g1 hg1 ops1 KR1 hops1 hKR1 => ?_)
      refine aops_eval 4 hops1 ?_
      simp only [go_sem]
      refine aops_pure hops1 rfl rfl rfl (hg _ _) (CoL.refl _) ?_
      refine aops_last 6 hops1 ?_
      simp only [go_sem, deC, siC, exC, List.cons_append, List.nil_append]
      refine hKR1 _ ?_
      refine hK2 _ ?_
      refine awp_seq_k (fun K3 hK3 => ?_)
      refine awp_lateq 17 ⟨g0, 6, 0⟩ rfl rfl rfl rfl (by kernel_rfl) rfl ?_
      simp only [go_sem]
      intro g2 hg2 ops2 KR2 hops2 hKR2
      refine qrun_last 17 hops2 ?_
      simp only [go_sem, decide_true, List.length_map, List.cons_append, List.nil_append]
      refine aops_last 1 hops2 ?_
      simp only [go_sem, List.nil_append]
      refine hKR2 _ ?_
      refine hK3 _ ?_
      refine awp_ret ?_
      rw [e]
      refine ends_ev rfl ?_
      simp only [go_sem]
      exact Co.refl _
    · have e : instOf p x k = false := by simp [instOf, kindOf, h1]
      refine acalls_of_awp (fn := Tryd.f31) (N := 35) Tryd.call31 Tryd.func31 rfl rfl (by simp) ?_
      simp only [go_sem]
      refine awp_seq_k (fun K1 hK1 => ?_)
      refine awp_plain 3 (by kernel_rfl) rfl (fun g0 hg0 => ?_)
      simp only [go_sem]
      refine hK1 _ ?_
      refine awp_seq_k (fun K2 hK2 => ?_)
      refine awp_ops (by kernel_rfl) rfl (fun g1 hg1 ops1 KR1 hops1 hKR1 => ?_)
      refine aops_eval 4 hops1 ?_
      simp only [go_sem]
      refine aops_pure hops1 rfl rfl rfl (hg _ _) (CoL.refl _) ?_
      refine aops_last 6 hops1 ?_
      simp only [go_sem, deC, siC, exC, List.cons_append, List.nil_append]
      refine hKR1 _ ?_
      refine hK2 _ ?_
      refine awp_seq_k (fun K3 hK3 => ?_)
      refine awp_lateq 17 ⟨g0, 6, 0⟩ rfl rfl rfl rfl (by kernel_rfl) rfl ?_
      simp only [go_sem]
      intro g2 hg2 ops2 KR2 hops2 hKR2
      refine qrun_last 17 hops2 ?_
      simp only [go_sem, h1, decide_false, List.cons_append, List.nil_append]
      refine aops_last 1 hops2 ?_
      simp only [go_sem, List.nil_append]
      refine hKR2 _ ?_
      refine hK3 _ ?_
      refine awp_ret ?_
      rw [e]
      refine ends_ev rfl ?_
      simp only [go_sem]
      exact Co.refl _

theorem at_zero' (a : D) (rows : List D) : at? (a :: rows) 0 = some a := rfl
end Go.Proofs.T

