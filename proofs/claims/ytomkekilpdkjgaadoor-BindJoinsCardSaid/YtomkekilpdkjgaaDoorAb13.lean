/- A part of the proof, under no conditions of its own: Ab13. -/
import Derived.Test.YtomkekilpdkjgaaDoorAb12
/-
  Regions that draw their order: one evaluation in the order of the text serves every order.
-/
namespace Go.Ab
open Go Go.RowKit

section
variable {E : Ctx} {N : Nat} {l : List Oper} {g : Nat} {st : St}

theorem wanted_of {env : List (Nat × D)} {G : Gh} {w : World} {tmps : Array Value} {o : Oper} {b : Bool} (h : wantD l env o = some b)
    (H : ∀ t d, t ∈ looks l o → lk env t = some d → t < tmps.size ∧ V G w (tmps.getD t undef) d) : Region.wanted o (yielded l.toArray tmps) = b := by
  unfold wantD at h
  unfold Region.wanted
  split at h
  · rename_i hg; cases h; simp [hg]
  · rename_i j want hg
    simp only [hg]
    unfold yielded
    simp only [List.getElem?_toArray]
    split at h
    · rename_i t ht
      have hmem : t ∈ looks l o := by
        unfold looks
        simp [hg, ht]
      simp only [ht, Option.bind_some]
      split at h
      · rename_i c hl
        cases h
        obtain ⟨hlt, hv⟩ := H t _ hmem hl
        have := V.of_val hv
        simp only [Array.getD_eq_getD_getElem?, hlt, getElem?_pos, Option.getD_some] at this
        simp only [hlt, getElem?_pos, this]
        cases c <;> cases want <;> rfl
      · rename_i vs hl
        cases h
        obtain ⟨hlt, hv⟩ := H t _ hmem hl
        have := V.of_val hv
        simp only [Array.getD_eq_getD_getElem?, hlt, getElem?_pos, Option.getD_some] at this
        simp only [hlt, getElem?_pos, this]
        cases want <;> rfl
      · cases h
    · rename_i ht
      cases h
      simp only [ht, Option.bind_none]
      cases want <;> rfl

/-- What holds when the operations in L have come up. -/
structure Inv (w0 : World) (E : Ctx) (N : Nat) (l : List Oper) (g : Nat) (st : St) (tr : List (D × Sto)) (G1 : Gh) (w1 : World) (L : Nat → Bool) (G : Gh) (w : World) (a : Act) : Prop where
  size : a.tmps.size = N
  defers : a.defers = []
  wf : WF w0 G w
  old : ∀ t d, lk st.env t = some d → (∀ (j : Nat) o, L j = true → l[j]? = some o → o.dst ≠ some t) → t < N ∧ V G w (a.tmps.getD t undef) d
  new : ∀ (j : Nat) o t v nw, L j = true → l[j]? = some o → o.dst = some t → tr[j]? = some (v, nw) → V G w (a.tmps.getD t undef) v
  objs : Objs w0 G w (kapp L 0 tr (get st.σ))
  fresh : g < G.top ∧ ∀ (j : Nat) o d, L j = false → l[j]? = some o → o.dst = some d → ∀ q, G.ρ ⟨g, d, q⟩ = none
  step : Step (fun n => n.g = g) G1 w1 (get st.σ) G w (kapp L 0 tr (get st.σ))
  down : Down l (fun i => L i = true)

theorem nodup_dst {l : List Oper} (h : (l.filterMap (·.dst)).Nodup) : ∀ (i j : Nat) o o' d, l[i]? = some o → l[j]? = some o' → o.dst = some d → o'.dst = some d → i = j := by
  induction l with
  | nil => intro i j o o' d h; simp at h
  | cons x r ih =>
    intro i j o o' d hi hj hd hd'
    cases hx : x.dst with
    | none =>
      have h' : (r.filterMap (·.dst)).Nodup := by simpa only [List.filterMap_cons, hx] using h
      cases i with
      | zero => simp only [List.getElem?_cons_zero, Option.some.injEq] at hi; subst hi; rw [hx] at hd; cases hd
      | succ i =>
        cases j with
        | zero => simp only [List.getElem?_cons_zero, Option.some.injEq] at hj; subst hj; rw [hx] at hd'; cases hd'
        | succ j => rw [ih h' i j o o' d (by simpa using hi) (by simpa using hj) hd hd']
    | some y =>
      simp only [List.filterMap_cons, hx, List.nodup_cons] at h
      cases i with
      | zero =>
        simp only [List.getElem?_cons_zero, Option.some.injEq] at hi
        subst hi
        rw [hx] at hd
        cases hd
        cases j with
        | zero => rfl
        | succ j => exact absurd (List.mem_filterMap.2 ⟨o', List.mem_of_getElem? (by simpa using hj), hd'⟩) h.1
      | succ i =>
        cases j with
        | zero =>
          simp only [List.getElem?_cons_zero, Option.some.injEq] at hj
          subst hj
          rw [hx] at hd'
          cases hd'
          exact absurd (List.mem_filterMap.2 ⟨o, List.mem_of_getElem? (by simpa using hi), hd⟩) h.1
        | succ j => rw [ih h.2 i j o o' d (by simpa using hi) (by simpa using hj) hd hd']

theorem looksOk_spec {M : List Nat} {i : Nat} {o : Oper} (h : looksOk M l i o = true) {t : Nat} (ht : t ∈ looks l o) {j : Nat} {o' : Oper} (hj : l[j]? = some o') (hd : o'.dst = some t) (hne : j ≠ i) : if j < i then bit M i j = true else bit M j i = true := by
  unfold looksOk at h
  rw [List.all_eq_true] at h
  have h1 := h t ht
  rw [List.all_eq_true] at h1
  have h2 := h1 j (List.mem_range.2 (List.getElem?_eq_some_iff.1 hj).1)
  simp only [hj, Option.bind_some, hd, beq_self_eq_true, Bool.not_true, Bool.false_or, Bool.or_eq_true, beq_iff_eq] at h2
  rcases h2 with h2 | h2
  · exact absurd h2 hne
  · split
    · rename_i hlt; rw [if_pos hlt] at h2; exact h2
    · rename_i hlt; rw [if_neg hlt] at h2; exact h2

theorem bit_spec {M : List Nat} {i j : Nat} (h : bit M i j = true) : ∃ m, M[i]? = some m ∧ m.testBit j = true := by
  unfold bit at h
  rw [List.getD_eq_getElem?_getD] at h
  cases hm : M[i]? with
  | none => rw [hm] at h; simp at h
  | some m => rw [hm] at h; exact ⟨m, rfl, h⟩

/-- An operation of the first part comes up. -/
theorem inv_step {w0 : World} (hA : E.A w0) {nq : Nat} (hok : regOk N l nq = true) {tr : List (D × Sto)} {env' : List (Nat × D)} (htr : QTrace E l g st.σ (l.take nq) st.env tr env') (hσg : ∀ i j, get st.σ ⟨g, i, j⟩ = none)
    {G1 : Gh} {w1 : World} {L : Nat → Bool} {G : Gh} {w : World} {a : Act} (hI : Inv w0 E N l g st tr G1 w1 L G w a) {i : Nat} {o : Oper} (hi : l[i]? = some o) (hin : i < nq) (hL : L i = false) (hready : ∀ e ∈ o.after, Region.binds .any e = true → L e.on = true)
    {L' : Nat → Bool} (hL' : L' i = true) (hLo : ∀ j, j ≠ i → L' j = L j) {Q' : Exit → Act → World → Prop} {K : Act → World → Prop} (hK : ∀ G' w' a', Inv w0 E N l g st tr G1 w1 L' G' w' a' → K a' w') : wpOp E.P l.toArray Q' i K a w := by
  simp only [regOk, Bool.and_eq_true] at hok
  obtain ⟨⟨⟨hd, hE⟩, hlk⟩, _⟩ := hok
  obtain ⟨hnd, hlt⟩ := dstsOk_spec hd
  have hlook := allIdx_spec hlk i o hi
  simp only [Nat.zero_add] at hlook
  have hq : (l.take nq)[i]? = some o := by rw [List.getElem?_take, if_pos hin]; exact hi
  obtain ⟨envi, v, nw, ht1, ht2, hstep⟩ := htr.split i o hq
  -- a temporary that the operation looks at holds what it did in the order of the text
  have hsee : ∀ t d, t ∈ looks l o → lk envi t = some d → t < a.tmps.size ∧ V G w (a.tmps.getD t undef) d := by
    intro t d ht hl
    rw [hI.size]
    rcases ht1.env t with ⟨j, o', v', nw', k1, k2, k3, k4⟩ | ⟨k1, k2⟩
    · rw [k4] at hl
      cases hl
      have hji : j < i ∧ l[j]? = some o' := by
        rw [List.getElem?_take] at k1
        split at k1
        · rename_i h1
          rw [List.getElem?_take] at k1
          split at k1
          · exact ⟨h1, k1⟩
          · cases k1
        · cases k1
      have hb := looksOk_spec hlook ht hji.2 k2 (by omega)
      rw [if_pos hji.1] at hb
      obtain ⟨m, hm, hbit⟩ := bit_spec hb
      have hLj := anc hE hI.down i o hi hready j m hm hbit
      have k3' : tr[j]? = some (d, nw') := by
        rw [List.getElem?_take] at k3
        split at k3
        · exact k3
        · cases k3
      exact ⟨hlt o' (List.mem_of_getElem? hji.2) t k2, hI.new j o' t d nw' hLj hji.2 k2 k3'⟩
    · rw [k2] at hl
      refine hI.old t d hl fun j o' hLj hj hdj => ?_
      have hji : ¬ j < i := fun h => k1 j o' (by rw [List.getElem?_take, if_pos h, List.getElem?_take, if_pos (by omega)]; exact hj) hdj
      have hne : j ≠ i := fun e => by subst e; rw [hL] at hLj; cases hLj
      have hb := looksOk_spec hlook ht hj hdj hne
      rw [if_neg hji] at hb
      obtain ⟨m, hm, hbit⟩ := bit_spec hb
      have := anc hE hI.down j o' hj (hI.down j o' hj hLj) i m hm hbit
      rw [hL] at this
      cases this
  have hdst : ∀ d, o.dst = some d → d < a.tmps.size := fun d hd' => by rw [hI.size]; exact hlt o (List.mem_of_getElem? hi) d hd'
  have hlen := htr.length
  have hilt : i < (l.take nq).length := (List.getElem?_eq_some_iff.1 hq).1
  -- names of different operations' new things are different
  have names : ∀ (j : Nat) p, tr[j]? = some p → ∀ q ∈ p.2, q.1.g = g ∧ ∃ o', l[j]? = some o' ∧ o'.dst = some q.1.i := by
    intro j p hp q hq'
    have hjl : j < (l.take nq).length := by have := (List.getElem?_eq_some_iff.1 hp).1; omega
    have hoj : (l.take nq)[j]? = some (l.take nq)[j] := List.getElem?_eq_getElem hjl
    obtain ⟨_, v', nw', _, k2, k3⟩ := htr.split j _ hoj
    rw [hp] at k2
    cases k2
    have hoj' : l[j]? = some (l.take nq)[j] := by
      rw [List.getElem?_take] at hoj
      split at hoj
      · exact hoj
      · cases hoj
    rcases k3 with ⟨_, _, k3⟩ | ⟨_, _, k3⟩
    · exact ⟨(k3 q hq').1, _, hoj', (k3 q hq').2⟩
    · simp only at hq'
      rw [k3] at hq'
      cases hq'
  have hdis : ∀ (j : Nat) p, tr[j]? = some p → 0 + j ≠ i → Dis (get nw) (get p.2) := by
    intro j p hp hne n
    cases h1 : get nw n with
    | none => exact .inl rfl
    | some x =>
      cases h2 : get p.2 n with
      | none => exact .inr rfl
      | some y =>
        obtain ⟨_, o1, q1, q2⟩ := names i _ ht2 (n, x) (mem_of_get h1)
        obtain ⟨_, o2, q3, q4⟩ := names j _ hp (n, y) (mem_of_get h2)
        exact absurd (nodup_dst hnd i j o1 o2 _ q1 q3 q2 q4) (by omega)
  have hput := kapp_put hL hL' hLo 0 tr (get st.σ) v nw (Nat.zero_le _) (by simpa using ht2) hdis
  -- what follows once a value is there
  have fin : ∀ G' w' x, WF w0 G' w' → V G' w' x v → Objs w0 G' w' (kapp L' 0 tr (get st.σ)) → Step (rsv g o.dst) G w (kapp L 0 tr (get st.σ)) G' w' (kapp L' 0 tr (get st.σ)) → K (a.put o.dst x) w' := by
    intro G' w' x hw' hv ho hs
    have hsame : ∀ t, o.dst ≠ some t → (a.put o.dst x).tmps.getD t undef = a.tmps.getD t undef := by
      intro t ht
      cases hdo : o.dst with
      | none => rfl
      | some d =>
        simp only [Act.put, Array.getD_eq_getD_getElem?, Array.getElem?_setIfInBounds]
        rw [if_neg (fun e => ht (by rw [hdo, e]))]
    refine hK G' w' _ ⟨by rw [put_size, hI.size], by cases o.dst <;> exact hI.defers, hw', fun t d hl hno => ?_, fun j o' t v' nw' hLj hj hdj hp => ?_, ho, ⟨Nat.lt_of_lt_of_le hI.fresh.1 hs.top, fun j o' d hLj hj hdj q => ?_⟩, hI.step.trans (hs.weaken fun n _ hn => hn.1), fun j o' hj hLj e he hb => ?_⟩
    · have hne : o.dst ≠ some t := hno i o hL' hi
      rw [hsame t hne]
      obtain ⟨h1, h2⟩ := hI.old t d hl fun j o' hLj hj => by
        by_cases hji : j = i
        · subst hji; rw [hL] at hLj; cases hLj
        · exact hno j o' (by rw [hLo j hji]; exact hLj) hj
      exact ⟨h1, h2.step hs hI.wf hI.objs⟩
    · by_cases hji : j = i
      · subst hji
        rw [hi] at hj
        cases hj
        rw [ht2] at hp
        cases hp
        have := hdst t hdj
        simp only [hdj, Act.put, Array.getD_eq_getD_getElem?, Array.getElem?_setIfInBounds]
        simp only [↓reduceIte, this, Option.getD_some]
        exact hv
      · rw [hLo j hji] at hLj
        rw [hsame t fun e => hji (nodup_dst hnd j i o' o t hj hi hdj e)]
        exact (hI.new j o' t v' nw' hLj hj hdj hp).step hs hI.wf hI.objs
    · have hji : j ≠ i := fun e => by subst e; rw [hL'] at hLj; cases hLj
      rw [hLo j hji] at hLj
      exact hs.fresh hI.fresh.1 (hI.fresh.2 j o' d hLj hj hdj q) fun ⟨_, he⟩ => hji (nodup_dst hnd j i o' o d hj hi hdj he)
    · have keep : L e.on = true → L' e.on = true := fun h => by
        by_cases h' : e.on = i
        · rw [h']; exact hL'
        · rw [hLo _ h']; exact h
      by_cases hji : j = i
      · subst hji
        rw [hi] at hj
        cases hj
        exact keep (hready e he hb)
      · simp only at hLj
        rw [hLo j hji] at hLj
        exact keep (hI.down j o' hj hLj e he hb)
  unfold wpOp
  simp only [List.getElem?_toArray, hi]
  rcases hstep with ⟨hw, hqop, _⟩ | ⟨hw, rfl, rfl⟩
  · rw [if_pos (wanted_of hw hsee)]
    have hold : ∀ n x, get st.σ n = some x → kapp L 0 tr (get st.σ) n = some x := by
      intro n x hn
      rw [kapp_old 0 tr _ fun p hp => ?_]
      · exact hn
      · cases hg : get p.2 n with
        | none => rfl
        | some y =>
          obtain ⟨j, hj⟩ := List.mem_iff_getElem?.1 hp
          have := (names j p hj (n, y) (mem_of_get hg)).1
          obtain ⟨ng, ni, nj⟩ := n
          have this' : ng = g := this
          subst this'
          rw [hσg] at hn
          cases hn
    refine .inl (hqop w0 hA G w a hI.wf (fun x hx => ?_) (hI.objs.sub hold) (fun d hd' => ⟨hI.fresh.1, fun j => hI.fresh.2 i o d hL hi hd' j⟩) K Q' fun G' w' x hw' hv ho hs => ?_)
    · cases x with
      | tmp t =>
        simp only [Act.eval, Ab.ev]
        cases hl : lk envi t with
        | none => exact .any _
        | some d => exact (hsee t d (by unfold looks; exact List.mem_append_left _ (List.mem_filterMap.2 ⟨.tmp t, by simpa using hx, rfl⟩)) hl).2
      | const v => exact V.ofV G w v
      | global g => exact E.hglob w0 hA G w hI.wf g
      | func f => exact .func rfl rfl (by simp) (by simp)
    · obtain ⟨f1, f2⟩ := frame (κs := get st.σ) (τ := fun n => if get st.σ n = none then kapp L 0 tr (get st.σ) n else none) hI.wf hI.objs hold (fun n x hn => by
        split at hn
        · rename_i h0; exact ⟨hn, h0⟩
        · cases hn) hs ho
      have he : Kp.or (Kp.or (get nw) (get st.σ)) (fun n => if get st.σ n = none then kapp L 0 tr (get st.σ) n else none) = kapp L' 0 tr (get st.σ) := by
        rw [hput]
        funext n
        simp only [Kp.or]
        cases h1 : get nw n with
        | some y => simp
        | none =>
          simp only [Option.none_or]
          cases h2 : get st.σ n with
          | none => simp
          | some y => simp [hold n y h2]
      rw [he] at f1 f2
      exact fin G' w' x hw' hv f1 f2
  · rw [wanted_of hw hsee, if_neg (by simp)]
    have he : kapp L' 0 tr (get st.σ) = kapp L 0 tr (get st.σ) := by
      rw [hput]
      funext n
      simp [Kp.or, get]
    exact fin G w undef hI.wf (.val _) (by rw [he]; exact hI.objs) (by rw [he]; exact .refl _ _ _ _)

end
end Go.Ab
