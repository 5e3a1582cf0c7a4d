/- A part of the proof, under no conditions of its own: C1. -/
import Derived.Test.YtjhencaobpihnaaDoorB22
import Derived.Test.YtjhencaobpihnaaDoorXG
namespace Go.Proofs.T
open Go Go.Ab Go.RowKit

/-! ## Signatures by name -/

instance : Inhabited Sig := ⟨zeroSi⟩
theorem cmpL_anti : ∀ x y : List UInt8, cmpL x y = - cmpL y x
  | [], [] => by simp [cmpL]
  | [], _ :: _ => by simp [cmpL]
  | _ :: _, [] => by simp [cmpL]
  | a :: x, b :: y => by
    simp only [cmpL]
    by_cases h1 : a < b
    · have : ¬ b < a := fun h => absurd (UInt8.lt_trans h1 h) (UInt8.lt_irrefl _)
      simp [h1, this]
    · by_cases h2 : b < a
      · simp [h1, h2]
      · simp [h1, h2, cmpL_anti x y]
theorem cmpL_trans : ∀ x y z : List UInt8, cmpL x y < 0 → cmpL y z < 0 → cmpL x z < 0
  | [], [], _, h, _ => by simp [cmpL] at h
  | [], _ :: _, [], _, h => by simp [cmpL] at h
  | [], _ :: _, _ :: _, _, _ => by simp [cmpL]
  | _ :: _, [], _, h, _ => by simp [cmpL] at h
  | _ :: _, _ :: _, [], _, h => by simp [cmpL] at h
  | a :: x, b :: y, c :: z, h1, h2 => by
    simp only [cmpL] at h1 h2 ⊢
    by_cases hab : a < b
    · by_cases hbc : b < c
      · have := UInt8.lt_trans hab hbc
        simp [this]
      · by_cases hcb : c < b
        · simp [hbc, hcb] at h2
        · have hbc' : b = c := UInt8.le_antisymm (UInt8.not_lt.1 hcb) (UInt8.not_lt.1 hbc)
          subst hbc'
          simp [hab]
    · by_cases hba : b < a
      · simp [hab, hba] at h1
      · have hab' : a = b := UInt8.le_antisymm (UInt8.not_lt.1 hba) (UInt8.not_lt.1 hab)
        subst hab'
        by_cases hbc : a < c
        · simp [hbc]
        · by_cases hcb : c < a
          · simp [hbc, hcb] at h2
          · simp only [hbc, hcb, UInt8.lt_irrefl, if_false] at h1 h2 ⊢
            exact cmpL_trans x y z h1 h2
theorem cmpS_anti (a b : Str) : cmpS a b = - cmpS b a := cmpL_anti _ _
theorem cmpS_trans {a b c : Str} (h1 : cmpS a b < 0) (h2 : cmpS b c < 0) : cmpS a c < 0 := cmpL_trans _ _ _ h1 h2
def ltS (a b : Str) : Bool := decide (cmpS a b < 0)
theorem swoS : Sort.SWO ltS where
  irrefl x := by
    have : cmpS x x = 0 := cmpS_zero.2 rfl
    simp [ltS, this]
  trans x y z h1 h2 := by
    simp only [ltS, decide_eq_true_eq] at *
    exact cmpS_trans h1 h2
  ntrans x y z h1 h2 := by
    simp only [ltS, decide_eq_false_iff_not] at *
    intro h
    by_cases he : x = y
    · subst he; exact h2 h
    · have h3 : cmpS y x < 0 := by
        have := cmpS_anti x y
        have h4 : cmpS x y ≠ 0 := fun e => he (cmpS_zero.1 e)
        omega
      exact h2 (cmpS_trans h3 h)
theorem ltS_same {a b : Str} (h1 : ltS a b = false) (h2 : ltS b a = false) : a = b := by
  simp only [ltS, decide_eq_false_iff_not] at h1 h2
  have := cmpS_anti a b
  exact cmpS_zero.1 (by omega)

def cfSi (a b : Sig) : Int := cmpS a.name b.name
def ltSi (a b : Sig) : Bool := ltS a.name b.name
theorem ltOf_cfSi : Go.Proofs.ltOf cfSi = ltSi := rfl
theorem swoSi : Sort.SWO ltSi := ⟨fun _ => swoS.irrefl _, fun _ _ _ => swoS.trans _ _ _, fun _ _ _ => swoS.ntrans _ _ _⟩

/-- Each name once. -/
def Names1 (l : List Sig) : Prop := (l.map (·.name)).Nodup
theorem Names1.inj {l : List Sig} (h : Names1 l) : ∀ a ∈ l, ∀ b ∈ l, ltSi a b = false → ltSi b a = false → a = b := by
  intro a ha b hb h1 h2
  have hn := ltS_same h1 h2
  obtain ⟨i, hi, rfl⟩ := List.mem_iff_getElem.1 ha
  obtain ⟨j, hj, rfl⟩ := List.mem_iff_getElem.1 hb
  have h3 := (List.getElem_inj (h₀ := by simpa using hi) (h₁ := by simpa using hj) h).1 (by simpa using hn)
  subst h3
  rfl
theorem sigs_uniq {l l2 : List Sig} (h : Names1 l) (hp : l2.Perm l) (ho : l2.Pairwise fun a b => Go.Proofs.ltOf cfSi b a = false) : l2 = srt ltSi l := srt_uniq swoSi h.inj hp ho

theorem seen_specs (d : Dec) (us : List Ty) (n : Str) : ∀ k, n ∈ (specsTo d us k).map (·.name) → seen d.sigs k n = true
  | 0, h => by simp [specsTo] at h
  | k + 1, h => by
    have ih := seen_specs d us n k
    by_cases hk : k < d.sigs.length
    · rw [seen_succ d.sigs k n hk]
      rw [specsTo_succ d us k hk] at h
      split at h
      · simp [ih h]
      · rw [List.map_append, List.mem_append] at h
        rcases h with h | h
        · simp [ih h]
        · have : n = d.sigs[k].name := by simpa [specSi, mapSi, canonSi] using h
          simp [this]
    · have e : specsTo d us (k + 1) = specsTo d us k := by simp only [specsTo, List.getElem?_eq_none (show d.sigs.length ≤ k by omega)]
      rw [e] at h
      have := ih h
      simpa [seen, List.take_of_length_le (show d.sigs.length ≤ k by omega), List.take_of_length_le (show d.sigs.length ≤ k + 1 by omega)] using this
theorem specs_names (d : Dec) (us : List Ty) : ∀ k, Names1 (specsTo d us k)
  | 0 => by simp [Names1, specsTo]
  | k + 1 => by
    have ih := specs_names d us k
    by_cases hk : k < d.sigs.length
    · rw [specsTo_succ d us k hk]
      split
      · exact ih
      · rename_i hs
        unfold Names1
        rw [List.map_append, List.nodup_append]
        refine ⟨ih, by simp, fun a ha b hb he => ?_⟩
        have hb' : b = d.sigs[k].name := by simpa [specSi, mapSi, canonSi] using hb
        subst he hb'
        exact hs (seen_specs d us _ k ha)
    · have e : specsTo d us (k + 1) = specsTo d us k := by simp only [specsTo, List.getElem?_eq_none (show d.sigs.length ≤ k by omega)]
      rw [e]
      exact ih
theorem mth_names0 (p : Prg) (x : Ty) (n : Str) : ∀ k, n ∈ (mthTo p x k).map (·.name) → ∃ j, j < k ∧ meFind p x.name n = some j
  | 0, h => by simp [mthTo] at h
  | k + 1, h => by
    have ih := mth_names0 p x n k
    by_cases hk : k < p.decls.length
    · rw [mthTo_succ p x k hk] at h
      split at h
      · rename_i hp
        rw [List.map_append, List.mem_append] at h
        rcases h with h | h
        · obtain ⟨j, hj, h⟩ := ih h; exact ⟨j, by omega, h⟩
        · have hn : n = p.decls[k].sig.name := by simpa [mSig, mapSi, canonSi] using h
          subst hn
          simp only [mPick, Bool.and_eq_true, decide_eq_true_eq] at hp
          exact ⟨k, by omega, hp.1⟩
      · obtain ⟨j, hj, h⟩ := ih h; exact ⟨j, by omega, h⟩
    · have e : mthTo p x (k + 1) = mthTo p x k := by simp only [mthTo, List.getElem?_eq_none (show p.decls.length ≤ k by omega)]
      rw [e] at h
      obtain ⟨j, hj, h⟩ := ih h; exact ⟨j, by omega, h⟩
theorem mth_names (p : Prg) (x : Ty) : ∀ k, Names1 (mthTo p x k)
  | 0 => by simp [Names1, mthTo]
  | k + 1 => by
    have ih := mth_names p x k
    by_cases hk : k < p.decls.length
    · rw [mthTo_succ p x k hk]
      split
      · rename_i hp
        unfold Names1
        rw [List.map_append, List.nodup_append]
        refine ⟨ih, by simp, fun a ha b hb he => ?_⟩
        have hb' : b = p.decls[k].sig.name := by simpa [mSig, mapSi, canonSi] using hb
        subst he hb'
        obtain ⟨j, hj, hf⟩ := mth_names0 p x _ k ha
        simp only [mPick, Bool.and_eq_true, decide_eq_true_eq] at hp
        rw [hf] at hp
        have := Option.some.inj hp.1
        omega
      · exact ih
    · have e : mthTo p x (k + 1) = mthTo p x k := by simp only [mthTo, List.getElem?_eq_none (show p.decls.length ≤ k by omega)]
      rw [e]
      exact ih
theorem spOf_names (p : Prg) (x : Ty) : Names1 (spOf p x) := by
  unfold spOf
  split
  · exact specs_names _ _ _
  · simp [Names1]
theorem mthsOf_names (p : Prg) (x : Ty) : Names1 (mthsOf p x) := by
  unfold mthsOf
  split
  · exact mth_names _ _ _
  · simp [Names1]

/-- The method set before it is put in order, and in order. -/
def baseOf (p : Prg) (env : List Formal) (x : Ty) : List Sig := if instOf p ((boundOf env x).getD x) 2 = true ∨ (boundOf env x).isSome = true then spOf p ((boundOf env x).getD x) else mthsOf p x
noncomputable def setOf (p : Prg) (env : List Formal) (x : Ty) : List Sig := srt ltSi (baseOf p env x)
theorem baseOf_names (p : Prg) (env : List Formal) (x : Ty) : Names1 (baseOf p env x) := by
  unfold baseOf
  split
  · exact spOf_names _ _
  · exact mthsOf_names _ _
theorem spOf_sm {p : Prg} (h : smPr p) {x : Ty} (hx : smTy x) : (spOf p x).length ≤ 1000000 ∧ ∀ s ∈ spOf p x, smSi s := by
  have hu := ((smTy_iff x).1 hx).2.2
  unfold spOf
  split
  · exact smSpecs (smDe_get h x.name) hu
  · simp
theorem boundOf_sm {l : List Formal} {x t : Ty} (hl : ∀ f ∈ l, smFm f) (h : boundOf l x = some t) : smTy t := by
  unfold boundOf at h
  split at h
  · obtain ⟨i, _, hi⟩ := Option.bind_eq_some_iff.1 h
    obtain ⟨f, hf, rfl⟩ := Option.map_eq_some_iff.1 hi
    exact (hl f (List.mem_of_getElem? hf)).2
  · cases h
theorem boundOf_sm' {l : List Formal} {x : Ty} (hl : ∀ f ∈ l, smFm f) (hx : smTy x) : smTy ((boundOf l x).getD x) := by
  cases h : boundOf l x with
  | none => exact hx
  | some t => exact boundOf_sm hl h
theorem baseOf_sm {p : Prg} (h : smPr p) {env : List Formal} (he : ∀ f ∈ env, smFm f) {x : Ty} (hx : smTy x) : (baseOf p env x).length ≤ 1000000 ∧ ∀ s ∈ baseOf p env x, smSi s := by
  unfold baseOf
  split
  · exact spOf_sm h (boundOf_sm' he hx)
  · have := smMths h ((smTy_iff x).1 hx).2.2
    exact ⟨by omega, this.2⟩
theorem setOf_sm {p : Prg} (h : smPr p) {env : List Formal} (he : ∀ f ∈ env, smFm f) {x : Ty} (hx : smTy x) : (setOf p env x).length ≤ 1000000 ∧ ∀ s ∈ setOf p env x, smSi s := by
  have hb := baseOf_sm h he hx
  exact ⟨by unfold setOf; rw [srt_len]; exact hb.1, fun s hs => hb.2 s ((srt_perm _ _).subset hs)⟩
end Go.Proofs.T

