/- A part of the proof, under no conditions of its own: AbT. -/
import Derived.Test.YtmmfjicebmeamaaXH
import Derived.Test.YtmmfjicebmeamaaXF
namespace Go.Ab
open Go Go.RowKit

section
variable {E : Ctx} {N : Nat} {l : List Oper} {g : Nat} {st : St}

def regOkA (N : Nat) (l : List Oper) (nq : Nat) : Bool :=
  dstsOk N l && edgesOk 0 l && allIdx (looksOk (masks l []) l) 0 l && allIdx (fun i _ => decide (i < nq) || (List.range nq).all fun j => bit (masks l []) i j) 0 l

theorem inv_stepA {w0 : World} (hA : E.A w0) {nq : Nat} (hok : regOkA N l nq = true) {tr : List (D × Sto)} {env' : List (Nat × D)} (htr : QTrace E l g st.σ (l.take nq) st.env tr env') (hσg : ∀ i j, get st.σ ⟨g, i, j⟩ = none)
    {G1 : Gh} {w1 : World} {L : Nat → Bool} {G : Gh} {w : World} {a : Act} (hI : Inv w0 E N l g st tr G1 w1 L G w a) {i : Nat} {o : Oper} (hi : l[i]? = some o) (hin : i < nq) (hL : L i = false) (hready : ∀ e ∈ o.after, Region.binds .any e = true → L e.on = true)
    {L' : Nat → Bool} (hL' : L' i = true) (hLo : ∀ j, j ≠ i → L' j = L j) {Q' : Exit → Act → World → Prop} {K : Act → World → Prop} (hK : ∀ G' w' a', Inv w0 E N l g st tr G1 w1 L' G' w' a' → K a' w') : ∀ r, wpOpIn (Fr r) 0 E.P l.toArray Q' i K a w := by
  intro rd
  simp only [regOkA, Bool.and_eq_true] at hok
  obtain ⟨⟨⟨hd, hE⟩, hlk⟩, _⟩ := hok
  obtain ⟨hnd, hlt⟩ := dstsOk_spec hd
  have hlook := allIdx_spec hlk i o hi
  simp only [Nat.zero_add] at hlook
  have hq : (l.take nq)[i]? = some o := by rw [List.getElem?_take, if_pos hin]; exact hi
  obtain ⟨envi, v, nw, ht1, ht2, hstep⟩ := htr.split i o hq
  -- a temporary that the operation looks at holds what it did in the order of the text
  have hsee : ∀ t d, t ∈ looks l o → lk envi t = some d → t < a.tmps.size ∧ V G w (a.tmps.getD t undef) d := by
    intro t d ht hl
    rw [hI.size]
    rcases ht1.env t with ⟨j, o', v', nw', k1, k2, k3, k4⟩ | ⟨k1, k2⟩
    · rw [k4] at hl
      cases hl
      have hji : j < i ∧ l[j]? = some o' := by
        rw [List.getElem?_take] at k1
        split at k1
        · rename_i h1
          rw [List.getElem?_take] at k1
          split at k1
          · exact ⟨h1, k1⟩
          · cases k1
        · cases k1
      have hb := looksOk_spec hlook ht hji.2 k2 (by omega)
      rw [if_pos hji.1] at hb
      obtain ⟨m, hm, hbit⟩ := bit_spec hb
      have hLj := anc hE hI.down i o hi hready j m hm hbit
      have k3' : tr[j]? = some (d, nw') := by
        rw [List.getElem?_take] at k3
        split at k3
        · exact k3
        · cases k3
      exact ⟨hlt o' (List.mem_of_getElem? hji.2) t k2, hI.new j o' t d nw' hLj hji.2 k2 k3'⟩
    · rw [k2] at hl
      refine hI.old t d hl fun j o' hLj hj hdj => ?_
      have hji : ¬ j < i := fun h => k1 j o' (by rw [List.getElem?_take, if_pos h, List.getElem?_take, if_pos (by omega)]; exact hj) hdj
      have hne : j ≠ i := fun e => by subst e; rw [hL] at hLj; cases hLj
      have hb := looksOk_spec hlook ht hj hdj hne
      rw [if_neg hji] at hb
      obtain ⟨m, hm, hbit⟩ := bit_spec hb
      have := anc hE hI.down j o' hj (hI.down j o' hj hLj) i m hm hbit
      rw [hL] at this
      cases this
  have hdst : ∀ d, o.dst = some d → d < a.tmps.size := fun d hd' => by rw [hI.size]; exact hlt o (List.mem_of_getElem? hi) d hd'
  have hlen := htr.length
  have hilt : i < (l.take nq).length := (List.getElem?_eq_some_iff.1 hq).1
  -- names of different operations' new things are different
  have names : ∀ (j : Nat) p, tr[j]? = some p → ∀ q ∈ p.2, q.1.g = g ∧ ∃ o', l[j]? = some o' ∧ o'.dst = some q.1.i := by
    intro j p hp q hq'
    have hjl : j < (l.take nq).length := by have := (List.getElem?_eq_some_iff.1 hp).1; omega
    have hoj : (l.take nq)[j]? = some (l.take nq)[j] := List.getElem?_eq_getElem hjl
    obtain ⟨_, v', nw', _, k2, k3⟩ := htr.split j _ hoj
    rw [hp] at k2
    cases k2
    have hoj' : l[j]? = some (l.take nq)[j] := by
      rw [List.getElem?_take] at hoj
      split at hoj
      · exact hoj
      · cases hoj
    rcases k3 with ⟨_, _, k3⟩ | ⟨_, _, k3⟩
    · exact ⟨(k3 q hq').1, _, hoj', (k3 q hq').2⟩
    · simp only at hq'
      rw [k3] at hq'
      cases hq'
  have hdis : ∀ (j : Nat) p, tr[j]? = some p → 0 + j ≠ i → Dis (get nw) (get p.2) := by
    intro j p hp hne n
    cases h1 : get nw n with
    | none => exact .inl rfl
    | some x =>
      cases h2 : get p.2 n with
      | none => exact .inr rfl
      | some y =>
        obtain ⟨_, o1, q1, q2⟩ := names i _ ht2 (n, x) (mem_of_get h1)
        obtain ⟨_, o2, q3, q4⟩ := names j _ hp (n, y) (mem_of_get h2)
        exact absurd (nodup_dst hnd i j o1 o2 _ q1 q3 q2 q4) (by omega)
  have hput := kapp_put hL hL' hLo 0 tr (get st.σ) v nw (Nat.zero_le _) (by simpa using ht2) hdis
  -- what follows once a value is there
  have fin : ∀ G' w' x, WF w0 G' w' → V G' w' x v → Objs w0 G' w' (kapp L' 0 tr (get st.σ)) → Step (rsv g o.dst) G w (kapp L 0 tr (get st.σ)) G' w' (kapp L' 0 tr (get st.σ)) → K (a.put o.dst x) w' := by
    intro G' w' x hw' hv ho hs
    have hsame : ∀ t, o.dst ≠ some t → (a.put o.dst x).tmps.getD t undef = a.tmps.getD t undef := by
      intro t ht
      cases hdo : o.dst with
      | none => rfl
      | some d =>
        simp only [Act.put, Array.getD_eq_getD_getElem?, Array.getElem?_setIfInBounds]
        rw [if_neg (fun e => ht (by rw [hdo, e]))]
    refine hK G' w' _ ⟨by rw [put_size, hI.size], by cases o.dst <;> exact hI.defers.step hs hI.wf hI.objs, hw', fun t d hl hno => ?_, fun j o' t v' nw' hLj hj hdj hp => ?_, ho, ⟨Nat.lt_of_lt_of_le hI.fresh.1 hs.top, fun j o' d hLj hj hdj q => ?_⟩, hI.step.trans (hs.weaken fun n _ hn => hn.1), fun j o' hj hLj e he hb => ?_⟩
    · have hne : o.dst ≠ some t := hno i o hL' hi
      rw [hsame t hne]
      obtain ⟨h1, h2⟩ := hI.old t d hl fun j o' hLj hj => by
        by_cases hji : j = i
        · subst hji; rw [hL] at hLj; cases hLj
        · exact hno j o' (by rw [hLo j hji]; exact hLj) hj
      exact ⟨h1, h2.step hs hI.wf hI.objs⟩
    · by_cases hji : j = i
      · subst hji
        rw [hi] at hj
        cases hj
        rw [ht2] at hp
        cases hp
        have := hdst t hdj
        simp only [hdj, Act.put, Array.getD_eq_getD_getElem?, Array.getElem?_setIfInBounds]
        simp only [↓reduceIte, this, Option.getD_some]
        exact hv
      · rw [hLo j hji] at hLj
        rw [hsame t fun e => hji (nodup_dst hnd j i o' o t hj hi hdj e)]
        exact (hI.new j o' t v' nw' hLj hj hdj hp).step hs hI.wf hI.objs
    · have hji : j ≠ i := fun e => by subst e; rw [hL'] at hLj; cases hLj
      rw [hLo j hji] at hLj
      exact hs.fresh hI.fresh.1 (hI.fresh.2 j o' d hLj hj hdj q) fun ⟨_, he⟩ => hji (nodup_dst hnd j i o' o d hj hi hdj he)
    · have keep : L e.on = true → L' e.on = true := fun h => by
        by_cases h' : e.on = i
        · rw [h']; exact hL'
        · rw [hLo _ h']; exact h
      by_cases hji : j = i
      · subst hji
        rw [hi] at hj
        cases hj
        exact keep (hready e he hb)
      · simp only at hLj
        rw [hLo j hji] at hLj
        exact keep (hI.down j o' hj hLj e he hb)
  unfold wpOpIn
  simp only [List.getElem?_toArray, hi]
  rcases hstep with ⟨hw, hqop, _⟩ | ⟨hw, rfl, rfl⟩
  · rw [if_pos (wanted_of hw hsee)]
    have hold : ∀ n x, get st.σ n = some x → kapp L 0 tr (get st.σ) n = some x := by
      intro n x hn
      rw [kapp_old 0 tr _ fun p hp => ?_]
      · exact hn
      · cases hg : get p.2 n with
        | none => rfl
        | some y =>
          obtain ⟨j, hj⟩ := List.mem_iff_getElem?.1 hp
          have := (names j p hj (n, y) (mem_of_get hg)).1
          obtain ⟨ng, ni, nj⟩ := n
          have this' : ng = g := this
          subst this'
          rw [hσg] at hn
          cases hn
    refine hqop w0 hA G w a hI.wf (fun x hx => ?_) (hI.objs.sub hold) (fun d hd' => ⟨hI.fresh.1, fun j => hI.fresh.2 i o d hL hi hd' j⟩) K Q' (fun G' w' x hw' hv ho hs => ?_) rd
    · cases x with
      | tmp t =>
        simp only [Act.eval, Ab.ev]
        cases hl : lk envi t with
        | none => exact .any _
        | some d => exact (hsee t d (by unfold looks; exact List.mem_append_left _ (List.mem_filterMap.2 ⟨.tmp t, by simpa using hx, rfl⟩)) hl).2
      | const v => exact V.ofV G w v
      | global g => exact E.hglob w0 hA G w hI.wf g
      | func f => exact .func rfl rfl (by simp) (by simp)
    · obtain ⟨f1, f2⟩ := frame (κs := get st.σ) (τ := fun n => if get st.σ n = none then kapp L 0 tr (get st.σ) n else none) hI.wf hI.objs hold (fun n x hn => by
        split at hn
        · rename_i h0; exact ⟨hn, h0⟩
        · cases hn) hs ho
      have he : Kp.or (Kp.or (get nw) (get st.σ)) (fun n => if get st.σ n = none then kapp L 0 tr (get st.σ) n else none) = kapp L' 0 tr (get st.σ) := by
        rw [hput]
        funext n
        simp only [Kp.or]
        cases h1 : get nw n with
        | some y => simp
        | none =>
          simp only [Option.none_or]
          cases h2 : get st.σ n with
          | none => simp
          | some y => simp [hold n y h2]
      rw [he] at f1 f2
      exact fin G' w' x hw' hv f1 f2
  · rw [wanted_of hw hsee, if_neg (by simp)]
    refine ⟨fun f _ => fr_fn rd f, ?_⟩
    have he : kapp L' 0 tr (get st.σ) = kapp L 0 tr (get st.σ) := by
      rw [hput]
      funext n
      simp [Kp.or, get]
    exact fin G w undef hI.wf (.val _) (by rw [he]; exact hI.objs) (by rw [he]; exact .refl _ _ _ _)


theorem any_of_invA {rd : Option Nat} {w0 : World} (hA : E.A w0) {nq : Nat} (hnq : nq ≤ l.length) (hok : regOkA N l nq = true) {tr : List (D × Sto)} {env' : List (Nat × D)} (htr : QTrace E l g st.σ (l.take nq) st.env tr env') (hσg : ∀ i j, get st.σ ⟨g, i, j⟩ = none)
    {G1 : Gh} {w1 : World} {Q' : Exit → Act → World → Prop} (hend : ∀ (A : Array Bool) G w a, A.size = l.length → (∀ j, j < l.length → A.getD j true = decide (j < nq)) → Inv w0 E N l g st tr G1 w1 (fun j => A.getD j false) G w a → wpAnyIn (Fr rd) 0 E.P .any l.toArray Q' (l.length - nq) A a w) :
    ∀ (fuel : Nat) (A : Array Bool) (G : Gh) (w : World) (a : Act), A.size = l.length → left A l.length = fuel → (∀ j, nq ≤ j → j < l.length → A.getD j true = false) → Inv w0 E N l g st tr G1 w1 (fun j => A.getD j false) G w a →
      wpAnyIn (Fr rd) 0 E.P .any l.toArray Q' fuel A a w := by
  have hok' := hok
  simp only [regOkA, Bool.and_eq_true] at hok'
  obtain ⟨⟨⟨_, hE⟩, _⟩, htail⟩ := hok'
  have same : ∀ (A : Array Bool) (j : Nat), A.size = l.length → j < l.length → A.getD j true = A.getD j false := fun A j h1 h2 => by
    simp [show j < A.size by omega]
  intro fuel
  induction fuel with
  | zero =>
    intro A G w a hsz hlf hT hI
    have hall := left_zero hlf
    have hn : nq = l.length := by
      refine Nat.le_antisymm hnq (Nat.le_of_not_lt fun hlt => ?_)
      have h1 := hall nq hlt
      rw [hT nq (Nat.le_refl _) hlt] at h1
      cases h1
    have := hend A G w a hsz (fun j hj => by rw [hall j hj]; simp; omega) hI
    rw [show l.length - nq = 0 by omega] at this
    exact this
  | succ fuel ih =>
    intro A G w a hsz hlf hT hI
    by_cases hQ : left A nq = 0
    · have hall := left_zero hQ
      have hcount : left A l.length = l.length - nq := by
        have : ∀ m, nq ≤ m → m ≤ l.length → left A m = m - nq := by
          intro m
          induction m with
          | zero => intro h1 _; rw [Nat.le_zero.1 h1] at hQ; simp [left]
          | succ m ihm =>
            intro h1 h2
            by_cases h3 : nq = m + 1
            · rw [← h3, hQ]; omega
            · rw [left_succ, ihm (by omega) (by omega), hT m (by omega) (by omega)]
              simp
              omega
        exact this _ hnq (Nat.le_refl _)
      have := hend A G w a hsz (fun j hj => by
        by_cases h : j < nq
        · rw [hall j h]; simp [h]
        · rw [hT j (by omega) hj]; simp [h]) hI
      rw [show l.length - nq = fuel + 1 by omega] at this
      exact this
    · obtain ⟨q, hq1, hq2, hq3⟩ := left_pos hQ
      have hoq : l[q]? = some l[q] := List.getElem?_eq_getElem (by omega)
      have hqr : q ∈ Region.ready .any l.toArray A := by
        refine mem_ready.2 ⟨hq2, l[q], by simp, fun e he hb => ?_⟩
        have := edgesOk_spec 0 l hE q _ hoq e he hb
        rw [← same A e.on hsz (by omega)]
        exact hq3 e.on (by omega)
      refine ⟨fun h0 => (by rw [h0] at hqr; cases hqr), fun i hi => ?_⟩
      obtain ⟨h1, o, h2, h3⟩ := mem_ready.1 hi
      simp only [List.getElem?_toArray] at h2
      have hil := (List.getElem?_eq_some_iff.1 h2).1
      have hin : i < nq := by
        refine Nat.lt_of_not_le fun hge => ?_
        have ht := allIdx_spec htail i o h2
        simp only [Nat.zero_add, Bool.or_eq_true, decide_eq_true_eq, List.all_eq_true] at ht
        have hb := (ht.resolve_left (by omega)) q (List.mem_range.2 (by omega))
        obtain ⟨m, hm, hbit⟩ := bit_spec hb
        have := anc hE hI.down i o h2 h3 q m hm hbit
        rw [← same A q hsz (by omega), hq2] at this
        cases this
      refine inv_stepA hA hok htr hσg hI h2 hin (by rw [← same A i hsz hil]; exact h1) h3 (L' := fun j => (A.setIfInBounds i true).getD j false) (by simp [show i < A.size by omega]) (fun j hj => getD_set_ne false (Ne.symm hj)) (fun G' w' a' hI' => ?_) rd
      refine ih (A.setIfInBounds i true) G' w' a' (by simpa using hsz) ?_ (fun j hj1 hj2 => by rw [getD_set_ne true (by omega)]; exact hT j hj1 hj2) hI'
      have := left_set A h1 l.length
      rw [if_pos hil] at this
      omega


/-- What is left of a region when those in A have come up. -/
def AAny (E : Ctx) (N : Nat) (l : List Oper) (g : Nat) (Q : St → Prop) (A : Array Bool) (st : St) : Prop :=
  ∀ w0, E.A w0 → ∀ G w a, a.tmps.size = N → Rel w0 G w a st → g < G.top → (∀ (i : Nat) o d, l[i]? = some o → A.getD i true = false → o.dst = some d → d < N ∧ ∀ j, G.ρ ⟨g, d, j⟩ = none) →
    ∀ (Q' : Exit → Act → World → Prop), (∀ G' st' a' w', a'.tmps.size = N → Rel w0 G' w' a' st' → Step (fun n => n.g = g) G w (get st.σ) G' w' (get st'.σ) → Q st' → Q' .normal a' w') →
      ∀ r, wpAnyIn (Fr r) 0 E.P .any l.toArray Q' (left A l.length) A a w

theorem aany_done {Q : St → Prop} {A : Array Bool} (hr : Region.ready .any l.toArray A = []) (hl : left A l.length = 0) (h : Q st) : AAny E N l g Q A st := by
  intro w0 hA G w a hN hrel hg hfr Q' hQ r
  rw [hl]
  exact ⟨hr, hQ G st a w hN hrel (.refl _ _ _ _) h⟩

/-- One of those that are ready, carried out. -/
def AGo (E : Ctx) (N : Nat) (l : List Oper) (g : Nat) (Q : St → Prop) (A : Array Bool) (st : St) (i : Nat) : Prop :=
  ∃ o v σ', l[i]? = some o ∧ wantD l st.env o = some true ∧ TOp E g o (ev E st.env) (get st.σ) v (get σ') ∧ AAny E N l g Q (A.setIfInBounds i true) (st.env' o.dst v σ')

theorem aany_go {Q : St → Prop} {A : Array Bool} {rs : List Nat} (hok : dstsOk N l = true) (hr : Region.ready .any l.toArray A = rs) (hne : rs ≠ []) (h : ∀ i ∈ rs, AGo E N l g Q A st i) : AAny E N l g Q A st := by
  intro w0 hA G w a hN hrel hg hfr Q' hQ r
  obtain ⟨hnd, _⟩ := dstsOk_spec hok
  obtain ⟨i0, r0, rfl⟩ : ∃ i r', rs = i :: r' := by
    cases rs with
    | nil => exact absurd rfl hne
    | cons i r' => exact ⟨i, r', rfl⟩
  have hi0 : i0 ∈ Region.ready .any l.toArray A := by rw [hr]; exact List.mem_cons_self
  have hpos : ∀ i ∈ Region.ready .any l.toArray A, left (A.setIfInBounds i true) l.length + 1 = left A l.length := fun i hi => by
    obtain ⟨h1, o, h2, _⟩ := mem_ready.1 hi
    simp only [List.getElem?_toArray] at h2
    have := left_set A h1 l.length
    rwa [if_pos (List.getElem?_eq_some_iff.1 h2).1] at this
  rw [← hpos i0 hi0]
  refine ⟨fun h0 => (by rw [h0] at hi0; cases hi0), fun i hi => ?_⟩
  have hleft : left (A.setIfInBounds i0 true) l.length = left (A.setIfInBounds i true) l.length := by
    have h1 := hpos i0 hi0
    have h2 := hpos i hi
    omega
  rw [hleft]
  obtain ⟨hai, _⟩ := mem_ready.1 hi
  obtain ⟨o, v, σ', ho, hw, hq, hk⟩ := h i (by rw [← hr]; exact hi)
  unfold wpOpIn
  simp only [List.getElem?_toArray, ho]
  rw [if_pos (wantD_sound hrel hw)]
  refine hq w0 hA G w a hrel.wf (fun x _ => hrel.ev hA x) hrel.objs (fun d hd => ⟨hg, (hfr i o d ho hai hd).2⟩) _ _ (fun G' w' x hw' hv ho' hs => ?_) r
  have hr' := hrel.put' (v := v) (dst := o.dst) hs rfl hw' ho' hv (fun d hd => by rw [hN]; exact (hfr i o d ho hai hd).1)
  have hσ' : (st.env' o.dst v σ').σ = σ' := by cases o.dst <;> rfl
  refine hk w0 hA G' w' _ (by rw [put_size, hN]) hr' (Nat.lt_of_lt_of_le hg hs.top) (fun j oj d hj haj hd => ?_) Q' (fun G2 st2 a2 w2 h1 h2 h3 h4 => hQ G2 st2 a2 w2 h1 h2 ?_ h4) r
  · have hji : j ≠ i := fun e => by
      subst e
      have hlt : j < A.size := by
        rcases Nat.lt_or_ge j A.size with h | h
        · exact h
        · simp [Array.getElem?_eq_none h] at hai
      simp [hlt] at haj
    rw [getD_set_ne true (Ne.symm hji)] at haj
    refine ⟨(hfr j oj d hj haj hd).1, fun q => hs.fresh (by exact hg) ((hfr j oj d hj haj hd).2 q) fun ⟨_, he⟩ => ?_⟩
    exact hji (nodup_dst hnd j i oj o d hj ho hd he)
  · rw [hσ'] at h3
    exact (hs.weaken fun n _ hn => hn.1).trans h3

theorem awp_anyA {Q : Exit → St → Prop} {id : Nat} (nq : Nat) (hnq : nq ≤ l.length) (hok : regOkA N l nq = true)
    (A0 : Array Bool) (hA0 : A0 = ((List.range l.length).map fun j => decide (j < nq)).toArray)
    (h : ∀ g, (∀ i j, get st.σ ⟨g, i, j⟩ = none) → QRun E l g st.σ (AAny E N l g (fun s => Q .normal s) A0) (l.take nq) st) : AWp E N (.region id l.toArray true) Q st := by
  intro w0 hA G w a hN hr rd hrd
  obtain ⟨G1, ht, hf, hσ, hr1, hs1⟩ := bump hr
  have hok' := hok
  simp only [regOkA, Bool.and_eq_true] at hok'
  obtain ⟨hnd, hlt⟩ := dstsOk_spec hok'.1.1.1
  obtain ⟨tr, env', htr, hK⟩ := h G.top hσ
  refine wpIn_region_any E.mixed ?_
  -- the draw
  have hV : ∀ v d, V G1 w v d → V G1 { w with drawn := w.drawn + 1 } v d := fun v d h => h.mono (fun _ h => h) (fun _ _ => rfl) (fun _ _ h => h)
  have hI0 : Inv w0 E N l G.top st tr G1 { w with drawn := w.drawn + 1 } (fun j => (Array.replicate l.length false).getD j false) G1 { w with drawn := w.drawn + 1 } a := by
    have hno : ∀ j, (Array.replicate l.length false).getD j false = false := fun j => by
      by_cases hj : j < l.length
      · simp [hj]
      · simp [Array.getElem?_eq_none (show (Array.replicate l.length false).size ≤ j by simp; omega)]
    have hk0 : kapp (fun j => (Array.replicate l.length false).getD j false) 0 tr (get st.σ) = get st.σ := kapp_none 0 tr _ hno
    refine ⟨hN, hr1.defers, ⟨hr1.wf.below.drew, hr1.wf.old, hr1.wf.lt, hr1.wf.nm⟩, fun t d hl _ => ⟨by rw [← hN]; exact (hr1.env t d hl).1, hV _ _ (hr1.env t d hl).2⟩, fun j o t v nw hL => ?_, ?_, ⟨by omega, fun j o d _ _ _ q => hf d q⟩, ?_, fun i o _ hL => ?_⟩
    · rw [hno] at hL; cases hL
    · rw [hk0]
      exact ⟨fun n o hn => let ⟨v, h1, h2, h3⟩ := hr1.objs.ob n o hn; ⟨v, h1, h2.mono hV fun _ _ => rfl, h3⟩, hr1.objs.ne⟩
    · rw [hk0]; exact .refl _ _ _ _
    · have hL' : (Array.replicate l.length false).getD i false = true := hL
      rw [hno] at hL'; cases hL'
  refine any_of_invA hA hnq hok htr hσ (fun A G' w' a' hsz hAj hI => ?_) l.toArray.size (Array.replicate l.toArray.size false) G1 _ a (by simp) (by simp only [List.size_toArray]; exact left_full _ _ (Nat.le_refl _)) (fun j h1 h2 => by simp [h2]) (by simpa using hI0)
  have hL1 : ∀ j, j < nq → A.getD j false = true := fun j hj => by
    have h1 := hAj j (by omega)
    rw [show A.getD j false = A.getD j true by simp [show j < A.size by omega], h1]
    simpa using hj
  have hL2 : ∀ j, nq ≤ j → A.getD j false = false := fun j hj => by
    by_cases hjl : j < l.length
    · have h1 := hAj j hjl
      rw [show A.getD j false = A.getD j true by simp [show j < A.size by omega], h1]
      simpa using hj
    · simp [Array.getElem?_eq_none (show A.size ≤ j by omega)]
  have hAeq : A = A0 := by
    rw [hA0]
    refine Array.ext (by simp [hsz]) fun j h1 h2 => ?_
    have h3 := hAj j (by omega)
    simp [show j < A.size from h1] at h3
    simpa using h3
  have hleft : l.length - nq = left A0 l.length := by
    rw [← hAeq]
    have : ∀ m, nq ≤ m → m ≤ l.length → left A m = m - nq := by
      intro m
      induction m with
      | zero => intro h1 _; simp [left]
      | succ m ihm =>
        intro h1 h2
        by_cases h3 : nq = m + 1
        · have h0 : ∀ k, k ≤ nq → left A k = 0 := by
            intro k
            induction k with
            | zero => intro _; simp [left]
            | succ k ihk =>
              intro hk
              rw [left_succ, ihk (by omega), hAj k (by omega)]
              simp [show k < nq by omega]
          rw [h0 (m + 1) (by omega)]
          omega
        · rw [left_succ, ihm (by omega) (by omega), hAj m (by omega)]
          simp [show ¬ m < nq by omega]
          omega
    exact (this _ hnq (Nat.le_refl _)).symm
  have hlen := htr.length
  have hkall : kapp (fun j => A.getD j false) 0 tr (get st.σ) = get (accN tr st.σ) := kapp_all 0 tr st.σ fun j _ hj => hL1 j (by rw [hlen, List.length_take] at hj; omega)
  have hrel : Rel w0 G' w' a' ⟨env', accN tr st.σ⟩ := by
    refine ⟨hI.wf, fun t d hl => ?_, by rw [← hkall]; exact hI.objs, hI.defers⟩
    rw [hI.size]
    have get_take : ∀ (j : Nat) o, (l.take nq)[j]? = some o → j < nq ∧ l[j]? = some o := fun j o h => by
      rw [List.getElem?_take] at h
      split at h
      · rename_i hj; exact ⟨hj, h⟩
      · cases h
    rcases htr.env t with ⟨j, o, v, nw, k1, k2, k3, k4⟩ | ⟨k1, k2⟩
    · simp only at hl
      rw [k4] at hl
      cases hl
      obtain ⟨hj, hjo⟩ := get_take j o k1
      exact ⟨hlt o (List.mem_of_getElem? hjo) t k2, hI.new j o t d nw (hL1 j hj) hjo k2 k3⟩
    · simp only at hl
      rw [k2] at hl
      refine hI.old t d hl fun j o hLj hj => ?_
      by_cases hjn : j < nq
      · exact k1 j o (by rw [List.getElem?_take, if_pos hjn]; exact hj)
      · rw [hL2 j (by omega)] at hLj; cases hLj
  rw [hleft, hAeq]
  refine hK w0 hA G' w' a' hI.size hrel hI.fresh.1 (fun i o d hi hai hd => ⟨hlt o (List.mem_of_getElem? hi) d hd, hI.fresh.2 i o d ?_ hi hd⟩) _ (fun G2 st2 a2 w2 q1 q2 q3 q4 => ⟨G2, st2, q1, q2, ?_, q4⟩) rd
  · have hil := (List.getElem?_eq_some_iff.1 hi).1
    rw [hAeq]
    have : i < A0.size := by rw [hA0]; simpa using hil
    simpa [this] using hai
  · have hs2 : Step (fun n => n.g = G.top) G w (get st.σ) G1 { w with drawn := w.drawn + 1 } (get st.σ) :=
      ⟨Nat.le_refl _, fun _ _ _ => rfl, hs1.F, hs1.F', hs1.ρ, fun n h1 h2 _ => hs1.ρ' n h1 h2 fun h => h, hs1.top, hs1.blk', hs1.dom, hs1.base⟩
    have hstep := hI.step
    rw [hkall] at hstep
    exact ((hs2.trans hstep).trans q3).weaken fun n hn he => by omega


/-- The same, for the printer. -/
theorem awp_anyR {Q : Exit → St → Prop} {id : Nat} {ds : List (Option Tmp)} (nq : Nat) (hnq : decide (nq ≤ l.length) = true) (hok : regOkA N l nq = true) (hds : l.map (·.dst) = ds) (A0 : Array Bool) (hA0 : A0 = ((List.range l.length).map fun j => decide (j < nq)).toArray)
    (h : ∀ g, (∀ i j, get st.σ ⟨g, i, j⟩ = none) → ∀ (ops : List Oper) (K : St → Prop), ops.map (·.dst) = ds → (∀ s, AAny E N l g (fun s => Q .normal s) A0 s → K s) → QRun E ops g st.σ K (l.take nq) st) : AWp E N (.region id l.toArray true) Q st :=
  awp_anyA nq (by simpa using hnq) hok A0 hA0 fun g hg => h g hg l _ hds fun _ h => h

theorem ago_step {Q : St → Prop} {A : Array Bool} {i : Nat} {o : Oper} {ds : List (Option Tmp)} (ho : l[i]? = some o) (hds : l.map (·.dst) = ds) (hw : wantL ds st.env o.guard = some true) (h : SomeP (stepD E ds g o st) fun st' => AAny E N l g Q (A.setIfInBounds i true) st') : AGo E N l g Q A st i := by
  obtain ⟨st', h1, h2⟩ := h.elim
  unfold stepD at h1
  rw [hw] at h1
  have hw' : wantD l st.env o = some true := by rw [← wantL_eq hds]; exact hw
  simp only at h1
  split at h1
  · rename_i t a x hop
    simp only [Option.map_eq_some_iff] at h1
    obtain ⟨σ', hσ, rfl⟩ := h1
    exact ⟨o, _, σ', ho, hw', storeD_sound hop hσ, h2⟩
  · rename_i t m q x hop
    simp only [Option.map_eq_some_iff] at h1
    obtain ⟨σ', hσ, rfl⟩ := h1
    exact ⟨o, _, σ', ho, hw', mputD_sound (.inl hop) hσ, h2⟩
  · rename_i t m q x hop
    simp only [Option.map_eq_some_iff] at h1
    obtain ⟨σ', hσ, rfl⟩ := h1
    exact ⟨o, _, σ', ho, hw', mputD_sound (.inr hop) hσ, h2⟩
  · simp only [Option.map_eq_some_iff] at h1
    obtain ⟨p, hp, rfl⟩ := h1
    refine ⟨o, p.1, p.2 ++ st.σ, ho, hw', ?_, ?_⟩
    · have := dop_sound (E := E) (g := g) (o := o) hp
      intro w0 hA G w a hw hV ho hf K Q' hK
      refine this w0 hA G w a hw hV ho hf K Q' fun G' w' x q1 q2 q3 q4 => hK G' w' x q1 q2 ?_ ?_
      · rwa [get_append]
      · rwa [get_append]
    · have : st.env' o.dst p.1 (p.2 ++ st.σ) = st.put o.dst p.1 p.2 := by cases o.dst <;> rfl
      rw [this]
      exact h2
theorem ago_app {Q : St → Prop} {A : Array Bool} {i : Nat} {o : Oper} {ds : List (Option Tmp)} {t el : TypeId} {so x : Operand} {d : Nat} (ho : l[i]? = some o) (hds : l.map (·.dst) = ds) (hw : wantL ds st.env o.guard = some true) (hop : o.op = .call { callee := .builtin .append, args := #[so, x], argTypes := #[t, t] }) (hd : o.dst = some d)
    {n : Nm} {len : Nat} (hs : ev E st.env so = .own n len) {xf : Bool} {rows2 : List D} (hx : ev E st.env x = .sl xf rows2) {k : Nat}
    (he : elemS E.P t = some el) (hk : szOf E.P el = some k) {bs : Nat} (hbs : bytesOf E.P el = some bs) {z : Value} (hz : zeroOf E.P el = some z) (hzs : z.cells.size = k) (hk0 : 0 < k)
    (h : SomeP (get st.σ n) fun ob => SomeP (arrOf el k ob) fun rows => okRows k rows2 ∧ (rows.length + rows2.length ≤ 9223372036854775807 ∧ (rows.length + rows2.length) * bs ≤ 140737488355328) ∧
      AAny E N l g Q (A.setIfInBounds i true) { env := (d, .own ⟨g, d, 0⟩ (rows.length + rows2.length)) :: st.env, σ := (⟨g, d, 0⟩, .arr el k (rows ++ rows2)) :: del st.σ n }) : AGo E N l g Q A st i := by
  obtain ⟨ob, h1, h⟩ := h.elim
  obtain ⟨rows, h2, hok, ⟨h63, hb⟩, h5⟩ := h.elim
  cases ob with
  | arr t' k' rows' =>
    simp only [arrOf] at h2
    split at h2
    · rename_i hc
      rw [hc.1, hc.2, Option.some.inj h2] at h1
      have := top_append (E := E) (g := g) (e := ev E st.env) (κ := get st.σ) hop hd hs h1 hx he hk hbs hz hzs hk0 hok h63 hb
      have he2 : (Kp.del (get st.σ) n).put ⟨g, d, 0⟩ (.arr el k (rows ++ rows2)) = get ((⟨g, d, 0⟩, .arr el k (rows ++ rows2)) :: del st.σ n) := by
        funext m
        simp only [Kp.put, Kp.del, get, get_del]
      rw [he2] at this
      refine ⟨o, _, _, ho, by rw [← wantL_eq hds]; exact hw, this, ?_⟩
      rw [hd]
      exact h5
    · cases h2
  | _ => cases h2
theorem aany_one {Q : St → Prop} {A : Array Bool} (i : Nat) (hok : dstsOk N l = true) (hr : Region.ready .any l.toArray A = [i]) (h : AGo E N l g Q A st i) : AAny E N l g Q A st :=
  aany_go hok hr (by simp) fun j hj => by rw [List.mem_singleton.1 hj]; exact h
theorem aany_two {Q : St → Prop} {A : Array Bool} (i j : Nat) (hok : dstsOk N l = true) (hr : Region.ready .any l.toArray A = [i, j]) (h : AGo E N l g Q A st i) (h' : AGo E N l g Q A st j) : AAny E N l g Q A st :=
  aany_go hok hr (by simp) fun k hk => by
    rcases List.mem_cons.1 hk with rfl | hk
    · exact h
    · rw [List.mem_singleton.1 hk]; exact h'

end
end Go.Ab
