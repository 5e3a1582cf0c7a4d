/- A part of the proof, under no conditions of its own: B20. -/
import Derived.Test.YtkddeobmfhchfaaDoorB16
import Derived.Test.YtkddeobmfhchfaaDoorXF
namespace Go.Proofs.T
open Go Go.Ab Go.RowKit

/-! ## The declarations twice -/

def twice (p : Prg) : Prg := ⟨p.decls ++ p.decls, p.main⟩
theorem find_twice {α : Type} (l : List α) (f : α → Bool) : (l ++ l).findIdx? f = l.findIdx? f := by
  rw [List.findIdx?_append]
  cases l.findIdx? f <;> simp
theorem tyFind_twice (p : Prg) (n : Str) : tyFind (twice p) n = tyFind p n := find_twice _ _
theorem meFind_twice (p : Prg) (n m : Str) : meFind (twice p) n m = meFind p n m := find_twice _ _
theorem tyDe_twice (p : Prg) (n : Str) : tyDe (twice p) n = tyDe p n := by
  unfold tyDe
  rw [tyFind_twice]
  cases h : tyFind p n with
  | none => rfl
  | some i =>
    obtain ⟨hi, _⟩ := tyFind_some h
    simp [twice, List.getElem?_append_left hi]
theorem kindOf_twice (p : Prg) (n : Str) : kindOf (twice p) n = kindOf p n := by simp only [kindOf, tyDe_twice]
theorem instOf_twice (p : Prg) (x : Ty) (k : Int) : instOf (twice p) x k = instOf p x k := by unfold instOf kindOf fmsOf; rw [tyDe_twice]
theorem meFind_lt {p : Prg} {n m : Str} {k : Nat} (h : meFind p n m = some k) : k < p.decls.length := (meFind_some h).1
theorem mthTo_twice1 (p : Prg) (x : Ty) : ∀ k, k ≤ p.decls.length → mthTo (twice p) x k = mthTo p x k
  | 0, _ => rfl
  | k + 1, h => by
    have ih := mthTo_twice1 p x k (by omega)
    have h1 : k < (twice p).decls.length := by simp [twice]; omega
    have hg : (twice p).decls[k] = p.decls[k] := by simp [twice, List.getElem_append_left (show k < p.decls.length by omega)]
    rw [mthTo_succ _ _ _ h1, mthTo_succ p x k (by omega), ih, hg]
    have hm : mPick (twice p) x k p.decls[k] = mPick p x k p.decls[k] := by unfold mPick; rw [meFind_twice]
    rw [hm]
theorem mthTo_twice2 (p : Prg) (x : Ty) : ∀ k, k ≤ p.decls.length → mthTo (twice p) x (p.decls.length + k) = mthTo p x p.decls.length
  | 0, _ => mthTo_twice1 p x _ (Nat.le_refl _)
  | k + 1, h => by
    have ih := mthTo_twice2 p x k (by omega)
    have h1 : p.decls.length + k < (twice p).decls.length := by simp [twice]; omega
    have hp : mPick (twice p) x (p.decls.length + k) (twice p).decls[p.decls.length + k] = false := by
      unfold mPick
      rw [meFind_twice]
      have : ¬ meFind p x.name (twice p).decls[p.decls.length + k].sig.name = some (p.decls.length + k) := fun e => by
        have := meFind_lt e
        omega
      simp [this]
    rw [← Nat.add_assoc, mthTo_succ _ _ _ h1, hp, ih]
    simp
theorem mthsOf_twice (p : Prg) (x : Ty) : mthsOf (twice p) x = mthsOf p x := by
  unfold mthsOf
  rw [instOf_twice]
  have : (twice p).decls.length = p.decls.length + p.decls.length := by simp [twice]
  rw [this, mthTo_twice2 p x _ (Nat.le_refl _)]
theorem smPr_twice {p : Prg} (h : smPr p) (hl : p.decls.length ≤ 30) : smPr (twice p) :=
  ⟨⟨by simp [twice]; omega, fun f hf => by simp [twice] at hf; exact h.1.2 f hf⟩, h.2⟩


theorem okRowsDe : ∀ l : List Dec, okRows 23 (l.map encDe) := fun l => okRows_map 23 encDe l fun _ => ⟨rfl, rfl⟩
set_option maxHeartbeats 1000000 in
theorem tableFirst_calls (p : Prg) (x : Ty) (hp : okPr p) (hx : okTy x) (g d : Nat) : ACalls E 5 [encPr p, encTy x] [] g d (dB true) [] := by
  refine acalls_of_awp (fn := Tryd.f5) (N := 117) Tryd.call5 Tryd.func5 rfl rfl (by simp) ?_
  simp only [go_sem]
  refine awp_seq_k (fun K1 hK1 => ?_)
  refine awp_plain 3 (by kernel_rfl) rfl (fun g0 hg0 => ?_)
  simp only [go_sem]
  refine hK1 _ ?_
  refine awp_seq_k (fun K2 hK2 => ?_)
  refine awp_seq_k (fun K3 hK3 => ?_)
  refine awp_ops (by kernel_rfl) rfl (fun g1 hg1 ops1 KR1 hops1 hKR1 => ?_)
  refine aops_eval 0 hops1 ?_
  simp only [go_sem]
  refine aops_pure hops1 rfl rfl rfl (awake_calls _ _) (CoL.refl _) ?_
  refine aops_eval 3 hops1 ?_
  simp only [go_sem]
  cases hfa : decide (cntPr p ≤ 600) with
  | false =>
    refine aops_pure hops1 rfl rfl rfl (few06_calls p hp _ _) (CoL.refl _) ?_
    refine aops_last 13 hops1 ?_
    simp only [go_sem, hfa]
    refine hKR1 _ ?_
    refine hK3 _ ?_
    refine awp_t rfl ?_
    refine awp_seq_k (fun K4 hK4 => ?_)
    refine awp_ops (by kernel_rfl) rfl (fun g2 hg2 ops2 KR2 hops2 hKR2 => ?_)
    refine aops_eval 0 hops2 ?_
    simp only [go_sem]
    refine aops_pure hops2 rfl rfl rfl (awake_calls _ _) (CoL.refl _) ?_
    refine aops_last 1 hops2 ?_
    simp only [go_sem]
    refine hKR2 _ ?_
    refine hK4 _ ?_
    refine awp_ret ?_
    refine ends_ev rfl ?_
    simp only [go_sem]
    exact Co.refl _
  | true =>
    refine aops_pure hops1 rfl rfl rfl (few06_calls p hp _ _) (CoL.refl _) ?_
    refine aops_eval 4 hops1 ?_
    simp only [go_sem, hfa]
    cases hfb : decide (count x 0 ≤ 200) with
    | false =>
      refine aops_pure hops1 rfl rfl rfl (few04_calls x hx _ _) (CoL.refl _) ?_
      refine aops_last 8 hops1 ?_
      simp only [go_sem, hfb]
      refine hKR1 _ ?_
      refine hK3 _ ?_
      refine awp_t rfl ?_
      refine awp_seq_k (fun K5 hK5 => ?_)
      refine awp_ops (by kernel_rfl) rfl (fun g2 hg2 ops2 KR2 hops2 hKR2 => ?_)
      refine aops_eval 0 hops2 ?_
      simp only [go_sem]
      refine aops_pure hops2 rfl rfl rfl (awake_calls _ _) (CoL.refl _) ?_
      refine aops_last 1 hops2 ?_
      simp only [go_sem]
      refine hKR2 _ ?_
      refine hK5 _ ?_
      refine awp_ret ?_
      refine ends_ev rfl ?_
      simp only [go_sem]
      exact Co.refl _
    | true =>
      by_cases h30 : 30 < (p.decls.length : Int)
      · refine aops_pure hops1 rfl rfl rfl (few04_calls x hx _ _) (CoL.refl _) ?_
        refine aops_last 8 hops1 ?_
        simp only [go_sem, hfb, List.length_map, h30, decide_true, List.nil_append]
        refine hKR1 _ ?_
        refine hK3 _ ?_
        refine awp_t rfl ?_
        refine awp_seq_k (fun K6 hK6 => ?_)
        refine awp_ops (by kernel_rfl) rfl (fun g2 hg2 ops2 KR2 hops2 hKR2 => ?_)
        refine aops_eval 0 hops2 ?_
        simp only [go_sem]
        refine aops_pure hops2 rfl rfl rfl (awake_calls _ _) (CoL.refl _) ?_
        refine aops_last 1 hops2 ?_
        simp only [go_sem, List.nil_append]
        refine hKR2 _ ?_
        refine hK6 _ ?_
        refine awp_ret ?_
        refine ends_ev rfl ?_
        simp only [go_sem]
        exact Co.refl _
      · refine aops_pure hops1 rfl rfl rfl (few04_calls x hx _ _) (CoL.refl _) ?_
        refine aops_last 8 hops1 ?_
        simp only [go_sem, hfb, List.length_map, h30, decide_false, List.nil_append]
        refine hKR1 _ ?_
        refine hK3 _ ?_
        refine awp_f rfl ?_
        refine awp_skip ?_
        refine hK2 _ ?_
        refine awp_seq_k (fun K7 hK7 => ?_)
        have mp := (cntPr_sm p (of_decide_eq_true hfa)).1
        have mp2 := smPr_twice mp (by omega)
        have mx := count_sm x 0 (by have := of_decide_eq_true hfb; omega)
        have mu := ((smTy_iff x).1 mx).2.2
        have hl := mp.1.1
        have mt := smDe_get mp x.name
        have c3 := smMths mp mu
        have k1 := instOf_twice p x
        have k2 := mthsOf_twice p x
        have k3 := tyDe_twice p x.name
        have k4 := kindOf_twice p x.name
        have hF : (∀ F : List Param, F = (if instOf p x 1 = true then fldsOf ((tyDe p x.name).getD zeroDe) x.args else []) → F.length ≤ 1000000 ∧ ∀ f ∈ F, smPa f) := by
          rintro F rfl
          split
          · exact ⟨by have := mt.2.2.1.1; simpa [fldsOf] using this, smFlds mt mu⟩
          · simp
        have hS : (∀ F : List Sig, F = (if instOf p x 2 = true then specsOf ((tyDe p x.name).getD zeroDe) x.args else []) → F.length ≤ 1000000 ∧ ∀ f ∈ F, smSi f) := by
          rintro F rfl
          split
          · exact smSpecs mt mu
          · simp
        have c0 := tbFields_calls (twice p) mp2 x mx
        have c1 := tbSpecs_calls (twice p) mp2 x mx
        rw [k1, k3] at c0 c1
        have c2 := tbMethods_calls (twice p) mp2 x mx
        rw [k2] at c2
        have c4 := tbKind_calls (twice p) x.name
        rw [k4] at c4
        have d0 := tbFields_calls p mp x mx
        have d1 := tbSpecs_calls p mp x mx
        generalize hF' : (if instOf p x 1 = true then fldsOf ((tyDe p x.name).getD zeroDe) x.args else []) = F at c0 d0 hF
        generalize hS' : (if instOf p x 2 = true then specsOf ((tyDe p x.name).getD zeroDe) x.args else []) = S at c1 d1 hS
        have mF := hF F rfl
        have mS := hS S rfl
        have okd : okDe { zeroDe with fields := F, sigs := S } := smDe.ok ⟨smDe_zero.1, smDe_zero.2.1, mF, mS, smDe_zero.2.2.2.2⟩
        refine awp_ops (by kernel_rfl) rfl (fun g3 hg3 ops3 KR3 hops3 hKR3 => ?_)
        refine aops_eval 1 hops3 ?_
        simp only [go_sem, List.nil_append]
        refine aops_pure hops3 rfl rfl rfl (tableNew_calls p mp _ _) (CoL.refl _) ?_
        refine aops_last 1 hops3 ?_
        simp only [go_sem, List.nil_append]
        refine hKR3 _ ?_
        refine hK7 _ ?_
        refine awp_seq_k (fun K8 hK8 => ?_)
        have hT : ∀ n rows, (encTb p).sub (frzD n rows) = encTb p := fun _ _ => rfl
        refine awp_anyT 9 [0, 0, 2, 7, 0, 16, 63, 0, 128, 511, 1023, 2047] (by kernel_rfl) (by kernel_rfl) (by kernel_rfl) rfl (fun g4 hg4 ops4 KR4 hops4 hKR4 => ?_)
        refine qrunT_eval 3 hops4 rfl ?_
        simp only [go_sem, List.cons_append, List.nil_append]
        refine qrunT_app hops4 rfl rfl rfl rfl rfl es22 sz52 by52 ze52 rfl (by decide) rfl rfl ?_
        simp only [go_sem, List.nil_append, okRowsDe]
        first | refine ⟨⟨by omega, by omega⟩, ?_⟩ | skip
        refine qrunT_eval 2 hops4 rfl ?_
        simp only [go_sem, List.nil_append, List.nil_append]
        refine qrunT_app hops4 rfl rfl rfl rfl rfl es22 sz52 by52 ze52 rfl (by decide) rfl rfl ?_
        simp only [go_sem, okRowsDe]
        first | refine ⟨⟨by omega, by omega⟩, ?_⟩ | skip
        refine qrunT_last 2 hops4 rfl ?_
        simp only [go_sem, List.nil_append]
        refine aops_eval 1 hops4 ?_
        simp only [go_sem, List.cons_append, List.nil_append]
        refine aops_frz ⟨g4, 42, 0⟩ ?_
        simp only [go_sem, hT]
        refine aops_pure hops4 rfl rfl rfl (tableNew_calls (twice p) mp2 _ _) (.cons (.of_eq (by simp [go_sem, encPr, prC, exC, twice])) .nil) ?_
        refine aops_last 1 hops4 ?_
        simp only [go_sem, List.nil_append]
        refine hKR4 _ ?_
        refine hK8 _ ?_
        refine awp_seq_k (fun K9 hK9 => ?_)
        refine awp_ops (by kernel_rfl) rfl (fun g5 hg5 ops5 KR5 hops5 hKR5 => ?_)
        refine aops_eval 2 hops5 ?_
        simp only [go_sem, List.nil_append]
        refine aops_pure hops5 rfl rfl rfl (d0 _ _) (CoL.refl _) ?_
        refine aops_last 5 hops5 ?_
        simp only [go_sem, List.nil_append]
        refine hKR5 _ ?_
        refine hK9 _ ?_
        refine awp_seq_k (fun K10 hK10 => ?_)
        refine awp_ops (by kernel_rfl) rfl (fun g6 hg6 ops6 KR6 hops6 hKR6 => ?_)
        refine aops_eval 2 hops6 ?_
        simp only [go_sem, List.nil_append]
        refine aops_pure hops6 rfl rfl rfl (c0 _ _) (CoL.refl _) ?_
        refine aops_last 5 hops6 ?_
        simp only [go_sem, List.nil_append]
        refine hKR6 _ ?_
        refine hK10 _ ?_
        refine awp_seq_k (fun K11 hK11 => ?_)
        refine awp_ops (by kernel_rfl) rfl (fun g7 hg7 ops7 KR7 hops7 hKR7 => ?_)
        refine aops_eval 2 hops7 ?_
        simp only [go_sem, List.nil_append]
        refine aops_pure hops7 rfl rfl rfl (d1 _ _) (CoL.refl _) ?_
        refine aops_last 5 hops7 ?_
        simp only [go_sem, List.nil_append]
        refine hKR7 _ ?_
        refine hK11 _ ?_
        refine awp_seq_k (fun K12 hK12 => ?_)
        refine awp_ops (by kernel_rfl) rfl (fun g8 hg8 ops8 KR8 hops8 hKR8 => ?_)
        refine aops_eval 2 hops8 ?_
        simp only [go_sem, List.nil_append]
        refine aops_pure hops8 rfl rfl rfl (c1 _ _) (CoL.refl _) ?_
        refine aops_last 5 hops8 ?_
        simp only [go_sem, List.nil_append]
        refine hKR8 _ ?_
        refine hK12 _ ?_
        refine awp_seq_k (fun K13 hK13 => ?_)
        refine awp_any 46 (by kernel_rfl) (by kernel_rfl) rfl (fun g9 hg9 ops9 KR9 hops9 hKR9 => ?_)
        refine qrun_eval 15 hops9 ?_
        simp only [go_sem, decide_true, List.cons_append, List.nil_append]
        refine qrun_pure hops9 rfl rfl rfl (decl06 true { zeroDe with fields := F, sigs := S } okd _ _) (.cons (.agg (.cons (.refl _) (.cons (.refl _) (.cons (.nil _) (.cons (.refl _) (.cons (.refl _) (.cons (.refl _) (.cons (.nil _) (.cons (.refl _) (.cons (.nil _) (.cons (.nil _) (.cons (.refl _) (.cons (.nil _) (.cons (.refl _) (.cons (.refl _) (.cons (.refl _) (.cons (.refl _) (.cons (.refl _) (.cons (.nil _) (.cons (.refl _) (.cons (.nil _) (.cons (.nil _) (.cons (.refl _) (.cons (.refl _) .nil)))))))))))))))))))))))) (.cons (.agg (.cons (.refl _) (.cons (.refl _) (.cons (.nil _) (.cons (.refl _) (.cons (.refl _) (.cons (.refl _) (.cons (.nil _) (.cons (.refl _) (.cons (.nil _) (.cons (.nil _) (.cons (.refl _) (.cons (.nil _) (.cons (.refl _) (.cons (.refl _) (.cons (.refl _) (.cons (.refl _) (.cons (.refl _) (.cons (.nil _) (.cons (.refl _) (.cons (.nil _) (.cons (.nil _) (.cons (.refl _) (.cons (.refl _) .nil)))))))))))))))))))))))) (.cons (.refl _) .nil))) rfl ?_
        refine qrun_eval 4 hops9 ?_
        simp only [go_sem, List.nil_append]
        refine qrun_pure hops9 rfl rfl rfl (tbMethods_calls p mp x mx _ _) (CoL.refl _) rfl ?_
        refine qrun_eval 2 hops9 ?_
        simp only [go_sem, List.nil_append]
        refine qrun_pure hops9 rfl rfl rfl (c2 _ _) (CoL.refl _) rfl ?_
        refine qrun_pure hops9 rfl rfl rfl (sigs_calls _ (by have := c3.1; omega) (fun s hs => (c3.2 s hs).ok) _ _) (CoL.refl _) rfl ?_
        refine qrun_eval 5 hops9 ?_
        simp only [go_sem, List.nil_append]
        refine qrun_pure hops9 rfl rfl rfl (tbKind_calls p x.name _ _) (CoL.refl _) rfl ?_
        refine qrun_eval 3 hops9 ?_
        simp only [go_sem, List.nil_append]
        refine qrun_pure hops9 rfl rfl rfl (c4 _ _) (CoL.refl _) rfl ?_
        refine qrun_eval 5 hops9 ?_
        simp only [go_sem, decide_true, List.nil_append]
        refine qrun_pure hops9 rfl rfl rfl (c2 _ _) (CoL.refl _) rfl ?_
        refine qrun_eval 2 hops9 ?_
        simp only [go_sem, List.nil_append]
        refine qrun_pure hops9 rfl rfl rfl (refMethods_calls p mp x mx _ _) (CoL.refl _) rfl ?_
        refine qrun_pure hops9 rfl rfl rfl (sigs_calls _ (by have := c3.1; omega) (fun s hs => (c3.2 s hs).ok) _ _) (CoL.refl _) rfl ?_
        refine qrun_last 1 hops9 ?_
        simp only [go_sem, List.nil_append]
        refine aops_last 1 hops9 ?_
        simp only [go_sem, List.nil_append]
        refine hKR9 _ ?_
        refine hK13 _ ?_
        refine awp_ret ?_
        refine ends_ev rfl ?_
        simp only [go_sem]
        exact Co.refl _
end Go.Proofs.T

