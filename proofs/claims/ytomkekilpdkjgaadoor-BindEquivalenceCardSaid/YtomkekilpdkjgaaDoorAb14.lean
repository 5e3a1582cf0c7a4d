/- A part of the proof, under no conditions of its own: Ab14. -/
import Derived.Test.YtomkekilpdkjgaaDoorAb13
/-
  The rule for regions that draw their order.
-/
namespace Go.Ab
open Go Go.RowKit

section
variable {E : Ctx} {N : Nat} {l : List Oper} {g : Nat} {st : St}

/-- How many have not come up. -/
def left (A : Array Bool) (n : Nat) : Nat := (List.range n).countP fun i => !A.getD i true

theorem left_succ (A : Array Bool) (n : Nat) : left A (n + 1) = left A n + (if A.getD n true then 0 else 1) := by
  unfold left
  rw [List.range_succ, List.countP_append]
  congr 1
  simp only [List.countP_cons, List.countP_nil, Nat.zero_add]
  cases A.getD n true <;> rfl

theorem left_set (A : Array Bool) {i : Nat} (hi : A.getD i true = false) : ∀ n, left (A.setIfInBounds i true) n + (if i < n then 1 else 0) = left A n
  | 0 => by simp [left]
  | n + 1 => by
    have ih := left_set A hi n
    rw [left_succ, left_succ]
    by_cases hn : n = i
    · subst hn
      have hlt : n < A.size := by
        rcases Nat.lt_or_ge n A.size with h | h
        · exact h
        · simp [Array.getElem?_eq_none h] at hi
      have : (A.setIfInBounds n true).getD n true = true := by simp [hlt]
      rw [this, hi]
      simp at ih ⊢
      omega
    · rw [getD_set_ne true (Ne.symm hn)]
      by_cases h : i < n
      · rw [if_pos h] at ih; rw [if_pos (show i < n + 1 by omega)]; omega
      · rw [if_neg h] at ih; rw [if_neg (show ¬ i < n + 1 by omega)]; omega

theorem left_zero {A : Array Bool} {n : Nat} (h : left A n = 0) : ∀ i, i < n → A.getD i true = true := by
  intro i hi
  unfold left at h
  rw [List.countP_eq_zero] at h
  have := h i (List.mem_range.2 hi)
  simpa using this

theorem left_pos {A : Array Bool} : ∀ {n : Nat}, left A n ≠ 0 → ∃ i, i < n ∧ A.getD i true = false ∧ ∀ j, j < i → A.getD j true = true
  | 0, h => by simp [left] at h
  | n + 1, h => by
    by_cases h0 : left A n = 0
    · rw [left_succ, h0] at h
      refine ⟨n, by omega, ?_, fun j hj => left_zero h0 j hj⟩
      cases hA : A.getD n true
      · rfl
      · rw [hA] at h; simp at h
    · obtain ⟨i, h1, h2, h3⟩ := left_pos h0
      exact ⟨i, by omega, h2, h3⟩

theorem left_full (n m : Nat) (h : m ≤ n) : left (Array.replicate n false) m = m := by
  unfold left
  have : (List.range m).countP (fun i => !(Array.replicate n false).getD i true) = (List.range m).length := by
    rw [List.countP_eq_length]
    intro i hi
    have := List.mem_range.1 hi
    simp [show i < n by omega]
  rw [this, List.length_range]

/-- The last part: each waits for all ahead of it. -/
theorem any_of_list {P : Program} {Q' : Exit → Act → World → Prop} {nq : Nat} (hE : edgesOk 0 l = true) (htail : allIdx (fun i _ => decide (i < nq) || (List.range i).all fun j => bit (masks l []) i j) 0 l = true) :
    ∀ (fuel k : Nat) (A : Array Bool) (a : Act) (w : World), A.size = l.length → nq ≤ k → k + fuel = l.length → (∀ j, j < l.length → A.getD j true = decide (j < k)) → wpList P l.toArray Q' (l.drop k) a w →
      wpAny P .any l.toArray Q' fuel A a w := by
  intro fuel
  induction fuel with
  | zero =>
    intro k A a w _ _ hk hA h
    rw [List.drop_eq_nil_of_le (by omega)] at h
    refine ⟨?_, h⟩
    cases hr : Region.ready .any l.toArray A with
    | nil => rfl
    | cons i r =>
      have hi : i ∈ Region.ready .any l.toArray A := by rw [hr]; exact List.mem_cons_self
      obtain ⟨h1, o, h2, _⟩ := mem_ready.1 hi
      simp only [List.getElem?_toArray] at h2
      have := (List.getElem?_eq_some_iff.1 h2).1
      rw [hA i this] at h1
      simp at h1
      omega
  | succ fuel ih =>
    intro k A a w hsz hnq hk hA h
    have hkl : k < l.length := by omega
    have hok : l[k]? = some l[k] := List.getElem?_eq_getElem hkl
    have hkr : k ∈ Region.ready .any l.toArray A := by
      refine mem_ready.2 ⟨by rw [hA k hkl]; simp, l[k], by simp, fun e he hb => ?_⟩
      have := edgesOk_spec 0 l hE k _ hok e he hb
      have hA' := hA e.on (by omega)
      rw [Array.getD_eq_getD_getElem?] at hA' ⊢
      simp only [show e.on < A.size by omega, getElem?_pos, Option.getD_some] at hA' ⊢
      rw [hA']
      simp
      omega
    have hdown : Down l fun j => j < l.length ∧ A.getD j true = true := by
      intro i o hi hL e he hb
      have hil := (List.getElem?_eq_some_iff.1 hi).1
      have := edgesOk_spec 0 l hE i o hi e he hb
      have h1 := hL.2
      rw [hA i hil] at h1
      simp only [decide_eq_true_eq] at h1
      exact ⟨by omega, by rw [hA e.on (by omega)]; simp; omega⟩
    refine ⟨fun h0 => (by rw [h0] at hkr; cases hkr), fun i hi => ?_⟩
    obtain ⟨h1, o, h2, h3⟩ := mem_ready.1 hi
    simp only [List.getElem?_toArray] at h2
    have hil := (List.getElem?_eq_some_iff.1 h2).1
    rw [hA i hil] at h1
    simp only [decide_eq_false_iff_not] at h1
    have hik : i = k := by
      refine Nat.le_antisymm (Nat.le_of_not_lt fun hlt => ?_) (by omega)
      have ht := allIdx_spec htail i o h2
      simp only [Nat.zero_add, Bool.or_eq_true, decide_eq_true_eq, List.all_eq_true] at ht
      have hb := (ht.resolve_left (by omega)) k (List.mem_range.2 hlt)
      obtain ⟨m, hm, hbit⟩ := bit_spec hb
      have := anc hE hdown i o h2 (fun e he hb => by
        have h4 := h3 e he hb
        have := edgesOk_spec 0 l hE i o h2 e he hb
        refine ⟨by omega, ?_⟩
        rw [Array.getD_eq_getD_getElem?] at h4 ⊢
        simp only [show e.on < A.size by omega, getElem?_pos, Option.getD_some] at h4 ⊢
        exact h4) k m hm hbit
      have := this.2
      rw [hA k hkl] at this
      simp at this
    subst hik
    rw [List.drop_eq_getElem_cons hkl] at h
    simp only [wpList] at h
    unfold wpOp
    simp only [List.getElem?_toArray, hok]
    have next : ∀ a w, wpList P l.toArray Q' (l.drop (i + 1)) a w → wpAny P .any l.toArray Q' fuel (A.setIfInBounds i true) a w := fun a w hw => by
      refine ih (i + 1) (A.setIfInBounds i true) a w (by simpa using hsz) (by omega) (by omega) (fun j hj => ?_) hw
      by_cases hji : i = j
      · subst hji
        simp [show i < A.size by omega]
      · rw [getD_set_ne true hji, hA j hj]
        congr 1
        simp only [eq_iff_iff]
        omega
    split
    · rename_i hw
      rw [if_pos hw] at h
      exact h.imp (Oper.wp_mono next) id
    · rename_i hw
      rw [if_neg hw] at h
      exact next _ _ h

theorem any_of_inv {w0 : World} (hA : E.A w0) {nq : Nat} (hnq : nq ≤ l.length) (hok : regOk N l nq = true) {tr : List (D × Sto)} {env' : List (Nat × D)} (htr : QTrace E l g st.σ (l.take nq) st.env tr env') (hσg : ∀ i j, get st.σ ⟨g, i, j⟩ = none)
    {G1 : Gh} {w1 : World} {Q' : Exit → Act → World → Prop} (hend : ∀ L G w a, (∀ j, j < nq → L j = true) → (∀ j, nq ≤ j → L j = false) → Inv w0 E N l g st tr G1 w1 L G w a → wpList E.P l.toArray Q' (l.drop nq) a w) :
    ∀ (fuel : Nat) (A : Array Bool) (G : Gh) (w : World) (a : Act), A.size = l.length → left A l.length = fuel → (∀ j, nq ≤ j → j < l.length → A.getD j true = false) → Inv w0 E N l g st tr G1 w1 (fun j => A.getD j false) G w a →
      wpAny E.P .any l.toArray Q' fuel A a w := by
  have hok' := hok
  simp only [regOk, Bool.and_eq_true] at hok'
  obtain ⟨⟨⟨_, hE⟩, _⟩, htail⟩ := hok'
  have same : ∀ (A : Array Bool) (j : Nat), A.size = l.length → j < l.length → A.getD j true = A.getD j false := fun A j h1 h2 => by
    simp [show j < A.size by omega]
  intro fuel
  induction fuel with
  | zero =>
    intro A G w a hsz hlf hT hI
    have hall := left_zero hlf
    have hn : nq = l.length := by
      refine Nat.le_antisymm hnq (Nat.le_of_not_lt fun hlt => ?_)
      have h1 := hall nq hlt
      rw [hT nq (Nat.le_refl _) hlt] at h1
      cases h1
    refine any_of_list hE htail 0 l.length A a w hsz hnq (by omega) (fun j hj => by rw [hall j hj]; simp [hj]) ?_
    rw [← hn]
    refine hend _ G w a (fun j hj => by rw [← same A j hsz (by omega)]; exact hall j (by omega)) (fun j hj => ?_) hI
    simp [Array.getElem?_eq_none (show A.size ≤ j by omega)]
  | succ fuel ih =>
    intro A G w a hsz hlf hT hI
    by_cases hQ : left A nq = 0
    · have hall := left_zero hQ
      have hcount : left A l.length = l.length - nq := by
        have : ∀ m, nq ≤ m → m ≤ l.length → left A m = m - nq := by
          intro m
          induction m with
          | zero => intro h1 _; rw [Nat.le_zero.1 h1] at hQ; simp [left]
          | succ m ihm =>
            intro h1 h2
            by_cases h3 : nq = m + 1
            · rw [← h3, hQ]; omega
            · rw [left_succ, ihm (by omega) (by omega), hT m (by omega) (by omega)]
              simp
              omega
        exact this _ hnq (Nat.le_refl _)
      refine any_of_list hE htail (fuel + 1) nq A a w hsz (Nat.le_refl _) (by omega) (fun j hj => ?_) ?_
      · by_cases h : j < nq
        · rw [hall j h]; simp [h]
        · rw [hT j (by omega) hj]; simp [h]
      · refine hend _ G w a (fun j hj => by rw [← same A j hsz (by omega)]; exact hall j hj) (fun j hj => ?_) hI
        by_cases h : j < l.length
        · rw [← same A j hsz h]; exact hT j hj h
        · simp [Array.getElem?_eq_none (show A.size ≤ j by omega)]
    · obtain ⟨q, hq1, hq2, hq3⟩ := left_pos hQ
      have hoq : l[q]? = some l[q] := List.getElem?_eq_getElem (by omega)
      have hqr : q ∈ Region.ready .any l.toArray A := by
        refine mem_ready.2 ⟨hq2, l[q], by simp, fun e he hb => ?_⟩
        have := edgesOk_spec 0 l hE q _ hoq e he hb
        rw [← same A e.on hsz (by omega)]
        exact hq3 e.on (by omega)
      refine ⟨fun h0 => (by rw [h0] at hqr; cases hqr), fun i hi => ?_⟩
      obtain ⟨h1, o, h2, h3⟩ := mem_ready.1 hi
      simp only [List.getElem?_toArray] at h2
      have hil := (List.getElem?_eq_some_iff.1 h2).1
      have hin : i < nq := by
        refine Nat.lt_of_not_le fun hge => ?_
        have ht := allIdx_spec htail i o h2
        simp only [Nat.zero_add, Bool.or_eq_true, decide_eq_true_eq, List.all_eq_true] at ht
        have hb := (ht.resolve_left (by omega)) q (List.mem_range.2 (by omega))
        obtain ⟨m, hm, hbit⟩ := bit_spec hb
        have := anc hE hI.down i o h2 h3 q m hm hbit
        rw [← same A q hsz (by omega), hq2] at this
        cases this
      refine inv_step hA hok htr hσg hI h2 hin (by rw [← same A i hsz hil]; exact h1) h3 (L' := fun j => (A.setIfInBounds i true).getD j false) (by simp [show i < A.size by omega]) (fun j hj => getD_set_ne false (Ne.symm hj)) fun G' w' a' hI' => ?_
      refine ih (A.setIfInBounds i true) G' w' a' (by simpa using hsz) ?_ (fun j hj1 hj2 => by rw [getD_set_ne true (by omega)]; exact hT j hj1 hj2) hI'
      have := left_set A h1 l.length
      rw [if_pos hil] at this
      omega

/-- **A region that draws its order.** 'nq': how many operations the first part has. -/
theorem awp_draw {Q : Exit → St → Prop} {id : Nat} (nq : Nat) (hnq : nq ≤ l.length) (hok : regOk N l nq = true)
    (h : ∀ g, (∀ i j, get st.σ ⟨g, i, j⟩ = none) → QRun E l g st.σ (AOps E N l g (fun s => Q .normal s) (l.drop nq)) (l.take nq) st) : AWp E N (.region id l.toArray true) Q st := by
  intro w0 hA G w a hN hr
  obtain ⟨G1, ht, hf, hσ, hr1, hs1⟩ := bump hr
  have hok' := hok
  simp only [regOk, Bool.and_eq_true] at hok'
  obtain ⟨hnd, hlt⟩ := dstsOk_spec hok'.1.1.1
  obtain ⟨tr, env', htr, hK⟩ := h G.top hσ
  refine wp_region_any E.mixed ?_
  -- the draw
  have hV : ∀ v d, V G1 w v d → V G1 { w with drawn := w.drawn + 1 } v d := fun v d h => h.mono (fun _ h => h) (fun _ _ => rfl) (fun _ _ h => h)
  have hI0 : Inv w0 E N l G.top st tr G1 { w with drawn := w.drawn + 1 } (fun j => (Array.replicate l.length false).getD j false) G1 { w with drawn := w.drawn + 1 } a := by
    have hno : ∀ j, (Array.replicate l.length false).getD j false = false := fun j => by
      by_cases hj : j < l.length
      · simp [hj]
      · simp [Array.getElem?_eq_none (show (Array.replicate l.length false).size ≤ j by simp; omega)]
    have hk0 : kapp (fun j => (Array.replicate l.length false).getD j false) 0 tr (get st.σ) = get st.σ := kapp_none 0 tr _ hno
    refine ⟨hN, hr1.defers, ⟨hr1.wf.below.drew, hr1.wf.old, hr1.wf.lt, hr1.wf.nm⟩, fun t d hl _ => ⟨by rw [← hN]; exact (hr1.env t d hl).1, hV _ _ (hr1.env t d hl).2⟩, fun j o t v nw hL => ?_, ?_, ⟨by omega, fun j o d _ _ _ q => hf d q⟩, ?_, fun i o _ hL => ?_⟩
    · rw [hno] at hL; cases hL
    · rw [hk0]
      exact ⟨fun n o hn => let ⟨v, h1, h2, h3⟩ := hr1.objs.ob n o hn; ⟨v, h1, h2.mono hV fun _ _ => rfl, h3⟩, hr1.objs.ne⟩
    · rw [hk0]; exact .refl _ _ _ _
    · have hL' : (Array.replicate l.length false).getD i false = true := hL
      rw [hno] at hL'; cases hL'
  refine any_of_inv hA hnq hok htr hσ (fun L G' w' a' hL1 hL2 hI => ?_) l.toArray.size (Array.replicate l.toArray.size false) G1 _ a (by simp) (by simp only [List.size_toArray]; exact left_full _ _ (Nat.le_refl _)) (fun j h1 h2 => by simp [h2]) (by simpa using hI0)
  have hlen := htr.length
  have hkall : kapp L 0 tr (get st.σ) = get (accN tr st.σ) := kapp_all 0 tr st.σ fun j _ hj => hL1 j (by rw [hlen, List.length_take] at hj; omega)
  have hrel : Rel w0 G' w' a' ⟨env', accN tr st.σ⟩ := by
    refine ⟨hI.wf, fun t d hl => ?_, by rw [← hkall]; exact hI.objs, hI.defers⟩
    rw [hI.size]
    have get_take : ∀ (j : Nat) o, (l.take nq)[j]? = some o → j < nq ∧ l[j]? = some o := fun j o h => by
      rw [List.getElem?_take] at h
      split at h
      · rename_i hj; exact ⟨hj, h⟩
      · cases h
    rcases htr.env t with ⟨j, o, v, nw, k1, k2, k3, k4⟩ | ⟨k1, k2⟩
    · simp only at hl
      rw [k4] at hl
      cases hl
      obtain ⟨hj, hjo⟩ := get_take j o k1
      exact ⟨hlt o (List.mem_of_getElem? hjo) t k2, hI.new j o t d nw (hL1 j hj) hjo k2 k3⟩
    · simp only at hl
      rw [k2] at hl
      refine hI.old t d hl fun j o hLj hj => ?_
      by_cases hjn : j < nq
      · exact k1 j o (by rw [List.getElem?_take, if_pos hjn]; exact hj)
      · rw [hL2 j (by omega)] at hLj; cases hLj
  refine hK w0 hA G' w' a' hI.size hrel hI.fresh.1 ?_ (fun o ho d hd => ?_) _ fun G2 st2 a2 w2 q1 q2 q3 q4 => ⟨G2, st2, q1, q2, ?_, q4⟩
  · exact hnd.sublist ((List.drop_sublist nq l).filterMap _)
  · obtain ⟨j, hj⟩ := List.mem_iff_getElem?.1 ho
    rw [List.getElem?_drop] at hj
    exact ⟨hlt o (List.mem_of_getElem? hj) d hd, hI.fresh.2 (nq + j) o d (hL2 _ (by omega)) hj hd⟩
  · have hs2 : Step (fun n => n.g = G.top) G w (get st.σ) G1 { w with drawn := w.drawn + 1 } (get st.σ) :=
      ⟨Nat.le_refl _, fun _ _ _ => rfl, hs1.F, hs1.F', hs1.ρ, fun n h1 h2 _ => hs1.ρ' n h1 h2 fun h => h, hs1.top, hs1.blk', hs1.dom⟩
    have hstep := hI.step
    rw [hkall] at hstep
    exact ((hs2.trans hstep).trans q3).weaken fun n hn he => by omega

end
end Go.Ab
