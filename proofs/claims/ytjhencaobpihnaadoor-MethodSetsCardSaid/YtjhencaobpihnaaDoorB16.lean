/- A part of the proof, under no conditions of its own: B16. -/
import Derived.Test.YtjhencaobpihnaaDoorB15
namespace Go.Proofs.T
open Go Go.Ab Go.RowKit

/-! ## What is returned is small -/

theorem smFm.ok {f : Formal} (h : smFm f) : okFm f := ⟨by have := h.1; omega, smTy.ok _ h.2⟩
theorem smPa.ok {f : Param} (h : smPa f) : okPa f := ⟨by have := h.1; omega, smTy.ok _ h.2⟩
theorem smEx.ok : ∀ e : Ex, smEx e → okEx e := by
  refine Ex.ind fun e ih h => ?_
  obtain ⟨h1, h2, ⟨h3, h4⟩, h5, h6⟩ := (smEx_iff e).1 h
  exact (okEx_iff e).2 ⟨by omega, smTy.ok _ h2, ⟨by omega, fun x hx => smTy.ok _ (h4 x hx)⟩, by omega, fun x hx => ih x hx (h6 x hx)⟩
theorem smDe.ok {d : Dec} (h : smDe d) : okDe d := by
  obtain ⟨h1, ⟨h2, h3⟩, ⟨h4, h5⟩, ⟨h6, h7⟩, h8, ⟨h9, h10⟩, h11, h12⟩ := h
  exact ⟨by omega, ⟨by omega, fun f hf => (h3 f hf).ok⟩, ⟨by omega, fun f hf => (h5 f hf).ok⟩, ⟨by omega, fun f hf => (h7 f hf).ok⟩, by omega, ⟨by omega, fun f hf => by have := h10 f hf; omega⟩, h11.ok, smEx.ok _ h12⟩
theorem smPr.ok {p : Prg} (h : smPr p) : okPr p := ⟨⟨by have := h.1.1; omega, fun f hf => (h.1.2 f hf).ok⟩, smEx.ok _ h.2⟩
theorem smMapB {f : Ty → Ty} (hf : ∀ t, smTy t → smTy (f t)) (s : Sig) (h : smSi s) : smSi (mapSi f s) := by
  obtain ⟨h1, ⟨h2, h3⟩, ⟨h4, h5⟩, h6⟩ := h
  refine ⟨h1, ⟨by simpa [mapSi] using h2, fun x hx => ?_⟩, ⟨by simpa [mapSi] using h4, fun x hx => ?_⟩, hf _ h6⟩
  · obtain ⟨y, hy, rfl⟩ := List.mem_map.1 hx
    exact ⟨(h3 y hy).1, hf _ (h3 y hy).2⟩
  · obtain ⟨y, hy, rfl⟩ := List.mem_map.1 hx
    exact ⟨(h5 y hy).1, hf _ (h5 y hy).2⟩
theorem smSubstB (ns : List Str) (us : List Ty) (hu : ∀ t ∈ us, smTy t) (s : Sig) (h : smSi s) : smSi (mapSi (substTy ns us) s) := smMapB (fun t => smTy_subst hu t) s h
theorem smFlds {d : Dec} (h : smDe d) {us : List Ty} (hu : ∀ t ∈ us, smTy t) : ∀ f ∈ fldsOf d us, smPa f := fun f hf => by
  obtain ⟨y, hy, rfl⟩ := List.mem_map.1 hf
  have := h.2.2.1.2 y hy
  exact ⟨this.1, smTy_subst hu _ this.2⟩
theorem smSpecsTo {d : Dec} (h : smDe d) {us : List Ty} (hu : ∀ t ∈ us, smTy t) : ∀ k, ∀ s ∈ specsTo d us k, smSi s
  | 0, s, hs => by simp [specsTo] at hs
  | k + 1, s, hs => by
    have ih := smSpecsTo h hu k
    by_cases hk : k < d.sigs.length
    · rw [specsTo_succ d us k hk] at hs
      split at hs
      · exact ih s hs
      · rcases List.mem_append.1 hs with hs | hs
        · exact ih s hs
        · rw [List.mem_singleton.1 hs]
          exact smSubstB _ _ hu _ (smCanon _ (h.2.2.2.1.2 _ (List.getElem_mem hk)))
    · simp only [specsTo, List.getElem?_eq_none (show d.sigs.length ≤ k by omega)] at hs
      exact ih s hs
theorem smSpecs {d : Dec} (h : smDe d) {us : List Ty} (hu : ∀ t ∈ us, smTy t) : (specsOf d us).length ≤ 1000000 ∧ ∀ s ∈ specsOf d us, smSi s :=
  ⟨by have := specsTo_len d us d.sigs.length; have := h.2.2.2.1.1; unfold specsOf; omega, smSpecsTo h hu _⟩
theorem smMthTo {p : Prg} (h : smPr p) {x : Ty} (hu : ∀ t ∈ x.args, smTy t) : ∀ k, ∀ s ∈ mthTo p x k, smSi s
  | 0, s, hs => by simp [mthTo] at hs
  | k + 1, s, hs => by
    have ih := smMthTo h hu k
    by_cases hk : k < p.decls.length
    · rw [mthTo_succ p x k hk] at hs
      split at hs
      · rcases List.mem_append.1 hs with hs | hs
        · exact ih s hs
        · rw [List.mem_singleton.1 hs]
          exact smSubstB _ _ hu _ (smCanon _ (smSi_of h hk).1)
      · exact ih s hs
    · simp only [mthTo, List.getElem?_eq_none (show p.decls.length ≤ k by omega)] at hs
      exact ih s hs
theorem smMths {p : Prg} (h : smPr p) {x : Ty} (hu : ∀ t ∈ x.args, smTy t) : (mthsOf p x).length ≤ 2000 ∧ ∀ s ∈ mthsOf p x, smSi s := by
  unfold mthsOf
  split
  · exact ⟨by have := mthTo_len p x p.decls.length; have := h.1.1; omega, smMthTo h hu _⟩
  · simp
theorem instOf_find {p : Prg} {x : Ty} {k : Int} (hk : k ≠ 0) (h : instOf p x k = true) : ∃ j, tyFind p x.name = some j := by
  cases hf : tyFind p x.name with
  | some j => exact ⟨j, rfl⟩
  | none =>
    have := tyFind_none hf
    simp [instOf, kindOf, this, zeroDe, Ne.symm hk] at h

/-! ## The laws -/

end Go.Proofs.T

