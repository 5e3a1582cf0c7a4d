/- A part of the proof, under no conditions of its own: B12. -/
import Derived.Test.YtjhencaobpihnaaDoorB11
namespace Go.Proofs.T
open Go Go.Ab Go.RowKit

/-! ## The methods of a type -/

def mPick (p : Prg) (x : Ty) (k : Nat) (e : Dec) : Bool := decide (meFind p x.name e.sig.name = some k) && decide ((e.vars.length : Int) = x.args.length)
def mSig (x : Ty) (e : Dec) : Sig := mapSi (substTy e.vars x.args) (canonSi e.sig)
def mthTo (p : Prg) (x : Ty) : Nat → List Sig
  | 0 => []
  | k + 1 => match p.decls[k]? with
    | some e => if mPick p x k e = true then mthTo p x k ++ [mSig x e] else mthTo p x k
    | none => mthTo p x k
def mthsOf (p : Prg) (x : Ty) : List Sig := if instOf p x 1 = true then mthTo p x p.decls.length else []
theorem mthTo_succ (p : Prg) (x : Ty) (k : Nat) (h : k < p.decls.length) : mthTo p x (k + 1) = if mPick p x k p.decls[k] = true then mthTo p x k ++ [mSig x p.decls[k]] else mthTo p x k := by
  simp only [mthTo, List.getElem?_eq_getElem h]
theorem mthTo_len (p : Prg) (x : Ty) : ∀ k, (mthTo p x k).length ≤ k
  | 0 => Nat.le_refl _
  | k + 1 => by
    have := mthTo_len p x k
    simp only [mthTo]
    split
    · split
      · simp; omega
      · omega
    · omega
theorem meFind_at {p : Prg} {n m : Str} {k : Nat} (hk : k < p.decls.length) (h : meFind p n m = some k) : p.decls[k].kind = 3 ∧ p.decls[k].name = n ∧ p.decls[k].sig.name = m := by
  obtain ⟨_, h2, _⟩ := List.findIdx?_eq_some_iff_getElem.1 h
  exact of_decide_eq_true h2
theorem smSi_of {p : Prg} (h : smPr p) {k : Nat} (hk : k < p.decls.length) : smSi p.decls[k].sig ∧ p.decls[k].vars.length ≤ 1000000 := by
  have := h.1.2 _ (List.getElem_mem hk)
  exact ⟨this.2.2.2.2.2.2.1, this.2.2.2.2.2.1.1⟩

theorem tbMethods_calls (p : Prg) (h : smPr p) (x : Ty) (hx : smTy x) (g d : Nat) :
    ACalls E 17 [encTb p, encTy x] [] g d (slSi (mthsOf p x)) [] := by
  have hi := tbInst_calls p x 1 (by decide)
  have hxa := ((smTy_iff x).1 hx)
  have hlen := h.1.1
  refine acalls_of_awp (fn := Tryd.f17) (N := 74) Tryd.call17 Tryd.func17 rfl rfl (by simp) ?_
  simp only [go_sem]
  refine awp_seq_k (fun K1 hK1 => ?_)
  refine awp_plain 2 (by kernel_rfl) rfl (fun g0 hg0 => ?_)
  simp only [go_sem, encTb, tbC, prC, exC, List.cons_append, List.nil_append]
  refine hK1 _ ?_
  refine awp_seq_k (fun K2 hK2 => ?_)
  refine awp_seq_k (fun K3 hK3 => ?_)
  refine awp_ops (by kernel_rfl) rfl (fun g1 hg1 ops1 KR1 hops1 hKR1 => ?_)
  refine aops_eval 2 hops1 ?_
  simp only [go_sem, List.nil_append]
  cases hins : instOf p x 1 with
  | false =>
    have he : mthsOf p x = [] := by simp [mthsOf, hins]
    refine aops_pure hops1 rfl rfl rfl (hi _ _) (CoL.refl _) ?_
    refine aops_last 6 hops1 ?_
    simp only [go_sem, hins, deC, siC, exC, List.cons_append, List.nil_append]
    refine hKR1 _ ?_
    refine hK3 _ ?_
    refine awp_seq_k (fun K4 hK4 => ?_)
    refine awp_plain 2 (by kernel_rfl) rfl (fun g2 hg2 => ?_)
    simp only [go_sem, Bool.not_false, List.nil_append]
    refine hK4 _ ?_
    refine awp_t rfl ?_
    refine awp_seq_k (fun K5 hK5 => ?_)
    refine awp_plain 1 (by kernel_rfl) rfl (fun g3 hg3 => ?_)
    simp only [go_sem, List.nil_append]
    refine hK5 _ ?_
    refine awp_ret ?_
    rw [he]
    refine ends_ev rfl ?_
    simp only [go_sem]
    exact .nil _
  | true =>
    refine aops_pure hops1 rfl rfl rfl (hi _ _) (CoL.refl _) ?_
    refine aops_last 6 hops1 ?_
    simp only [go_sem, hins, deC, siC, exC, List.cons_append, List.nil_append]
    refine hKR1 _ ?_
    refine hK3 _ ?_
    refine awp_seq_k (fun K6 hK6 => ?_)
    refine awp_plain 2 (by kernel_rfl) rfl (fun g2 hg2 => ?_)
    simp only [go_sem, Bool.not_true, List.nil_append]
    refine hK6 _ ?_
    refine awp_f rfl ?_
    refine awp_skip ?_
    refine hK2 _ ?_
    refine awp_seq_k (fun K7 hK7 => ?_)
    refine awp_plain 1 (by kernel_rfl) rfl (fun g4 hg4 => ?_)
    simp only [go_sem, List.nil_append]
    refine hK7 _ ?_
    refine awp_seq_k (fun K8 hK8 => ?_)
    refine awp_seq_k (fun K9 hK9 => ?_)
    refine awp_plain 7 (by kernel_rfl) rfl (fun g5 hg5 => ?_)
    simp only [go_sem, List.nil_append]
    refine hK9 _ ?_
    refine awp_block ?_
    refine awp_nil 7 42 7 rfl fun gn hgn => ?_
    have hn0 : gn ≠ g0 := fresh_g hgn 3 0 (by simp [go_sem])
    have hn1 : gn ≠ g1 := fresh_g hgn 5 0 (by simp [go_sem])
    refine awp_loop (fun m s => ∃ k a i n, k ≤ p.decls.length ∧ m = p.decls.length - k ∧ n = (mthTo p x k).length ∧ a ≠ g0 ∧
        Le { env := [(0, encTb p), (3, .ptr ⟨g0, 3, 0⟩ 0), (24, slDe p.decls), (25, dN p.decls.length), (26, dN k), (7, .own ⟨a, i, 0⟩ n)],
             σ := [(⟨g0, 3, 0⟩, .box 25 (tyC x)), (⟨a, i, 0⟩, .arr 42 7 ((mthTo p x k).map encSi))] } s) p.decls.length ?_ ?_
    · refine ⟨0, gn, 0, 0, Nat.zero_le _, rfl, rfl, hn0, le_of ?_⟩
      simp only [go_sem, slDe, mthTo, List.map_nil, hn0, Ne.symm hn0, Ne.symm hn1, encTb, tbC, prC, exC, List.cons_append, List.nil_append, tyC]
      trivial
    · rintro m s ⟨k, a, i, n, hk, rfl, hn, ha0, hle⟩
      refine awp_keep hle ?_
      clear hle
      by_cases hlt : k < p.decls.length
      · have hsl := mthTo_len p x k
        have hss := mthTo_succ p x k hlt
        obtain ⟨hsg, hvl⟩ := smSi_of h hlt
        have hlk := tab_find p.decls (x.name, ⟨#[46]⟩ ++ p.decls[k].sig.name)
        rw [tfind_me] at hlk
        have hs0 : 1 + p.decls[k].sig.name.size ≤ 9223372036854775807 := by have := hsg.1; omega
        refine awp_seq_k (fun K10 hK10 => ?_)
        refine awp_plain 1 (by kernel_rfl) rfl (fun g6 hg6 => ?_)
        simp only [go_sem, encTb, tbC, prC, exC, List.cons_append, List.nil_append, tyC, slDe, hlt]
        refine hK10 _ ?_
        refine awp_seq_k (fun K11 hK11 => ?_)
        refine awp_t rfl ?_
        refine awp_skip ?_
        refine hK11 _ ?_
        refine awp_seq_k (fun K12 hK12 => ?_)
        refine awp_block ?_
        refine awp_seq_k (fun K13 hK13 => ?_)
        refine awp_plain 6 (by kernel_rfl) rfl (fun g7 hg7 => ?_)
        simp only [go_sem, getM hlt, deC, siC, exC, List.cons_append, List.nil_append]
        refine hK13 _ ?_
        refine awp_seq_k (fun K14 hK14 => ?_)
        have hn7_a : g7 ≠ a := fresh_g hg7 i 0 (by simp [go_sem, Ne.symm ha0])
        have hn7_g0 : g7 ≠ g0 := fresh_g hg7 3 0 (by simp [go_sem])
        cases hf : meFind p x.name p.decls[k].sig.name with
        | none =>
          rw [hf] at hlk
          rw [show mPick p x k p.decls[k] = false by simp [mPick, hf], if_neg (by simp)] at hss
          refine awp_any 16 (by kernel_rfl) (by kernel_rfl) rfl (fun g8 hg8 ops8 KR8 hops8 hKR8 => ?_)
          refine qrun_last 16 hops8 ?_
          simp only [go_sem, hs0, mget_tab', KS.fits, KC.fitsL, KC.fits, ksK, Bool.and_self, List.toList_toArray, hlk, List.cons_append, List.nil_append, ha0, Ne.symm hn7_a, hn7_g0, Ne.symm hn7_g0]
          try simp (disch := omega) only [wrapN, wrapB, Int.tdiv_eq_ediv_of_nonneg, Int.tmod_eq_emod_of_nonneg]
          refine aops_last 1 hops8 ?_
          simp only [go_sem, List.nil_append]
          refine hKR8 _ ?_
          refine hK14 _ ?_
          refine awp_seq_k (fun K15 hK15 => ?_)
          refine awp_plain 15 (by kernel_rfl) rfl (fun g9 hg9 => ?_)
          simp only [go_sem, List.nil_append]
          refine hK15 _ ?_
          refine awp_f rfl ?_
          refine awp_skip ?_
          refine hK12 _ ?_
          refine awp_plain 2 (by kernel_rfl) rfl (fun g11 hg11 => ?_)
          simp only [go_sem, encTb, tbC, prC, exC, List.cons_append, List.nil_append, tyC, slDe]
          try simp (disch := omega) only [wrapN]
          refine ⟨_, ?_, k + 1, a, i, n, hlt, rfl, by rw [hss]; exact hn, ha0, le_of ?_⟩
          · omega
          simp only [go_sem, hss, ksK, ha0, Ne.symm ha0, hn7_a, hn7_g0]
          trivial
        | some q =>
          rw [hf] at hlk
          refine awp_any 16 (by kernel_rfl) (by kernel_rfl) rfl (fun g8 hg8 ops8 KR8 hops8 hKR8 => ?_)
          refine qrun_last 16 hops8 ?_
          simp only [go_sem, hs0, mget_tab', KS.fits, KC.fitsL, KC.fits, ksK, Bool.and_self, List.toList_toArray, hlk, List.cons_append, List.nil_append, ha0, Ne.symm hn7_a, hn7_g0, Ne.symm hn7_g0]
          try simp (disch := omega) only [wrapN, wrapB, Int.tdiv_eq_ediv_of_nonneg, Int.tmod_eq_emod_of_nonneg]
          refine aops_last 1 hops8 ?_
          simp only [go_sem, List.nil_append]
          refine hKR8 _ ?_
          refine hK14 _ ?_
          refine awp_seq_k (fun K16 hK16 => ?_)
          by_cases hq : (q : Int) = k
          · have hqk : k = q := by omega
            subst hqk
            by_cases hv : (p.decls[k].vars.length : Int) = x.args.length
            · rw [show mPick p x k p.decls[k] = true by simp [mPick, hf]; omega, if_pos rfl] at hss
              refine awp_plain 15 (by kernel_rfl) rfl (fun g9 hg9 => ?_)
              simp only [go_sem, decide_true, hv, List.length_map, List.nil_append, ha0, Ne.symm hn7_a, hn7_g0, Ne.symm hn7_g0]
              refine hK16 _ ?_
              refine awp_t rfl ?_
              refine awp_any 10 (by kernel_rfl) (by kernel_rfl) rfl (fun g10 hg10 ops10 KR10 hops10 hKR10 => ?_)
              refine qrun_eval 3 hops10 ?_
              simp only [go_sem, List.nil_append, Ne.symm hn7_a, Ne.symm hn7_g0]
              refine qrun_pure hops10 rfl rfl rfl (canonF_calls _ hsg _ _) (CoL.refl _) rfl ?_
              refine qrun_eval 4 hops10 ?_
              simp only [go_sem, List.nil_append, ha0, Ne.symm hn7_a, hn7_g0, Ne.symm hn7_g0]
              refine qrun_pure hops10 rfl rfl rfl (substSigF_calls p.decls[k].vars x.args hvl hxa.2.2 _ (smCanon _ hsg) _ _) (CoL.refl _) rfl ?_
              refine qrun_last 1 hops10 ?_
              simp only [go_sem, siC, List.nil_append]
              refine aops_eval 0 hops10 ?_
              simp only [go_sem]
              refine aops_app hops10 rfl rfl rfl rfl rfl es36 sz42 by42 ze42 rfl (by decide) ?_
              simp only [go_sem, siC, Ne.symm ha0, hn7_a]
              first | refine ⟨⟨by omega, by omega⟩, ?_⟩ | skip
              refine aops_last 1 hops10 ?_
              simp only [go_sem, List.nil_append]
              refine hKR10 _ ?_
              refine hK12 _ ?_
              have hn10_g0 : g10 ≠ g0 := fresh_g hg10 3 0 (by simp [go_sem, hn7_g0])
              refine awp_plain 2 (by kernel_rfl) rfl (fun g11 hg11 => ?_)
              simp only [go_sem, encTb, tbC, prC, exC, List.cons_append, List.nil_append, tyC, slDe]
              try simp (disch := omega) only [wrapN]
              refine ⟨_, ?_, k + 1, g10, 71, n + 1, hlt, rfl, by rw [hss, List.length_append, hn]; rfl, hn10_g0, le_of ?_⟩
              · omega
              simp only [go_sem, hss, ksK, List.map_append, List.map_cons, List.map_nil, hn7_g0, hn10_g0, Ne.symm hn10_g0]
              exact ⟨⟨by omega, hn.symm⟩, rfl⟩
            · rw [show mPick p x k p.decls[k] = false by simp [mPick, hf]; omega, if_neg (by simp)] at hss
              refine awp_plain 15 (by kernel_rfl) rfl (fun g9 hg9 => ?_)
              simp only [go_sem, decide_true, decide_false, hv, List.length_map, List.nil_append, ha0, Ne.symm hn7_a, hn7_g0, Ne.symm hn7_g0]
              refine hK16 _ ?_
              refine awp_f rfl ?_
              refine awp_skip ?_
              refine hK12 _ ?_
              refine awp_plain 2 (by kernel_rfl) rfl (fun g11 hg11 => ?_)
              simp only [go_sem, encTb, tbC, prC, exC, List.cons_append, List.nil_append, tyC, slDe]
              try simp (disch := omega) only [wrapN]
              refine ⟨_, ?_, k + 1, a, i, n, hlt, rfl, by rw [hss]; exact hn, ha0, le_of ?_⟩
              · omega
              simp only [go_sem, hss, ksK, ha0, Ne.symm ha0, hn7_a, hn7_g0]
              trivial
          · rw [show mPick p x k p.decls[k] = false by simp [mPick, hf]; omega, if_neg (by simp)] at hss
            refine awp_plain 15 (by kernel_rfl) rfl (fun g9 hg9 => ?_)
            simp only [go_sem, hq, decide_false, List.nil_append]
            refine hK16 _ ?_
            refine awp_f rfl ?_
            refine awp_skip ?_
            refine hK12 _ ?_
            refine awp_plain 2 (by kernel_rfl) rfl (fun g11 hg11 => ?_)
            simp only [go_sem, encTb, tbC, prC, exC, List.cons_append, List.nil_append, tyC, slDe]
            try simp (disch := omega) only [wrapN]
            refine ⟨_, ?_, k + 1, a, i, n, hlt, rfl, by rw [hss]; exact hn, ha0, le_of ?_⟩
            · omega
            simp only [go_sem, hss, ksK, ha0, Ne.symm ha0, hn7_a, hn7_g0]
            trivial
      · refine awp_seq_k (fun K17 hK17 => ?_)
        refine awp_plain 1 (by kernel_rfl) rfl (fun g6 hg6 => ?_)
        simp only [go_sem, hlt, encTb, tbC, prC, exC, List.cons_append, List.nil_append, tyC]
        refine hK17 _ ?_
        refine awp_seq_k (fun K18 hK18 => ?_)
        refine awp_f rfl ?_
        refine awp_exit ?_
        refine hK8 _ ?_
        refine awp_seq_k (fun K19 hK19 => ?_)
        have : k = p.decls.length := by omega
        subst this
        refine awp_plain 2 (by kernel_rfl) rfl (fun g12 hg12 => ?_)
        simp only [go_sem, List.nil_append]
        refine hK19 _ ?_
        refine awp_ret ?_
        refine ret_frz ⟨a, i, 0⟩ ?_
        simp only [go_sem, Ne.symm ha0]
        refine ends_ev rfl ?_
        simp only [go_sem]
        exact Co.of_eq (by simp [mthsOf, hins])
end Go.Proofs.T

