/- A part of the proof, under no conditions of its own: ZAL. -/
import Derived.Test.YtkddeobmfhchfaaDoorZAE
import Derived.Test.YtkddeobmfhchfaaDoorZAK
namespace Go.Ab
open Go Go.RowKit

section
variable {E : Ctx} {N : Nat} {l : List Oper} {g : Nat} {st : St}

def regOk2 (N : Nat) (l : List Oper) (nq : Nat) : Bool :=
  dstsOk N l && edgesOk 0 l && allIdx (looksOk (masks l []) l) 0 l && allIdx (fun i _ => decide (i < nq + 1) || (List.range i).all fun j => bit (masks l []) i j) 0 l

/-- What holds when the operations in L have come up. -/
structure Inv2 (w0 : World) (E : Ctx) (N : Nat) (l : List Oper) (g : Nat) (st : St) (tr : List (D × Sto)) (G1 : Gh) (w1 : World) (L : Nat → Bool) (τ0 τ : Kp) (G : Gh) (w : World) (a : Act) : Prop where
  size : a.tmps.size = N
  defers : Marks G w a.defers
  wf : WF w0 G w
  old : ∀ t d, lk st.env t = some d → (∀ (j : Nat) o, L j = true → l[j]? = some o → o.dst ≠ some t) → t < N ∧ V G w (a.tmps.getD t undef) d
  new : ∀ (j : Nat) o t v nw, L j = true → l[j]? = some o → o.dst = some t → tr[j]? = some (v, nw) → V G w (a.tmps.getD t undef) v
  objs : Objs w0 G w (Kp.or (kapp L 0 tr (get st.σ)) τ)
  fresh : g < G.top ∧ ∀ (j : Nat) o d, L j = false → l[j]? = some o → o.dst = some d → ∀ q, G.ρ ⟨g, d, q⟩ = none
  step : Step (fun n => n.g = g) G1 w1 (Kp.or (get st.σ) τ0) G w (Kp.or (kapp L 0 tr (get st.σ)) τ)
  down : Down l (fun i => L i = true)

/-- An operation of the first part comes up. -/
theorem inv2_step {w0 : World} (hA : E.A w0) {nq : Nat} (hok : regOk2 N l nq = true) {tr : List (D × Sto)} {env' : List (Nat × D)} (htr : QTrace E l g st.σ (l.take nq) st.env tr env') (hσg : ∀ i j, get st.σ ⟨g, i, j⟩ = none)
    {G1 : Gh} {w1 : World} {L : Nat → Bool} {τ0 τ : Kp} {G : Gh} {w : World} {a : Act} (hI : Inv2 w0 E N l g st tr G1 w1 L τ0 τ G w a) {i : Nat} {o : Oper} (hi : l[i]? = some o) (hin : i < nq) (hL : L i = false) (hready : ∀ e ∈ o.after, Region.binds .any e = true → L e.on = true)
    {L' : Nat → Bool} (hL' : L' i = true) (hLo : ∀ j, j ≠ i → L' j = L j) {Q' : Exit → Act → World → Prop} {K : Act → World → Prop} (hK : ∀ G' w' a', Inv2 w0 E N l g st tr G1 w1 L' τ0 τ G' w' a' → K a' w') : ∀ r, wpOpIn (Fr r) 0 E.P l.toArray Q' i K a w := by
  intro rd
  simp only [regOk2, Bool.and_eq_true] at hok
  obtain ⟨⟨⟨hd, hE⟩, hlk⟩, _⟩ := hok
  obtain ⟨hnd, hlt⟩ := dstsOk_spec hd
  have hlook := allIdx_spec hlk i o hi
  simp only [Nat.zero_add] at hlook
  have hq : (l.take nq)[i]? = some o := by rw [List.getElem?_take, if_pos hin]; exact hi
  obtain ⟨envi, v, nw, ht1, ht2, hstep⟩ := htr.split i o hq
  -- a temporary that the operation looks at holds what it did in the order of the text
  have hsee : ∀ t d, t ∈ looks l o → lk envi t = some d → t < a.tmps.size ∧ V G w (a.tmps.getD t undef) d := by
    intro t d ht hl
    rw [hI.size]
    rcases ht1.env t with ⟨j, o', v', nw', k1, k2, k3, k4⟩ | ⟨k1, k2⟩
    · rw [k4] at hl
      cases hl
      have hji : j < i ∧ l[j]? = some o' := by
        rw [List.getElem?_take] at k1
        split at k1
        · rename_i h1
          rw [List.getElem?_take] at k1
          split at k1
          · exact ⟨h1, k1⟩
          · cases k1
        · cases k1
      have hb := looksOk_spec hlook ht hji.2 k2 (by omega)
      rw [if_pos hji.1] at hb
      obtain ⟨m, hm, hbit⟩ := bit_spec hb
      have hLj := anc hE hI.down i o hi hready j m hm hbit
      have k3' : tr[j]? = some (d, nw') := by
        rw [List.getElem?_take] at k3
        split at k3
        · exact k3
        · cases k3
      exact ⟨hlt o' (List.mem_of_getElem? hji.2) t k2, hI.new j o' t d nw' hLj hji.2 k2 k3'⟩
    · rw [k2] at hl
      refine hI.old t d hl fun j o' hLj hj hdj => ?_
      have hji : ¬ j < i := fun h => k1 j o' (by rw [List.getElem?_take, if_pos h, List.getElem?_take, if_pos (by omega)]; exact hj) hdj
      have hne : j ≠ i := fun e => by subst e; rw [hL] at hLj; cases hLj
      have hb := looksOk_spec hlook ht hj hdj hne
      rw [if_neg hji] at hb
      obtain ⟨m, hm, hbit⟩ := bit_spec hb
      have := anc hE hI.down j o' hj (hI.down j o' hj hLj) i m hm hbit
      rw [hL] at this
      cases this
  have hdst : ∀ d, o.dst = some d → d < a.tmps.size := fun d hd' => by rw [hI.size]; exact hlt o (List.mem_of_getElem? hi) d hd'
  have hlen := htr.length
  have hilt : i < (l.take nq).length := (List.getElem?_eq_some_iff.1 hq).1
  -- names of different operations' new things are different
  have names : ∀ (j : Nat) p, tr[j]? = some p → ∀ q ∈ p.2, q.1.g = g ∧ ∃ o', l[j]? = some o' ∧ o'.dst = some q.1.i := by
    intro j p hp q hq'
    have hjl : j < (l.take nq).length := by have := (List.getElem?_eq_some_iff.1 hp).1; omega
    have hoj : (l.take nq)[j]? = some (l.take nq)[j] := List.getElem?_eq_getElem hjl
    obtain ⟨_, v', nw', _, k2, k3⟩ := htr.split j _ hoj
    rw [hp] at k2
    cases k2
    have hoj' : l[j]? = some (l.take nq)[j] := by
      rw [List.getElem?_take] at hoj
      split at hoj
      · exact hoj
      · cases hoj
    rcases k3 with ⟨_, _, k3⟩ | ⟨_, _, k3⟩
    · exact ⟨(k3 q hq').1, _, hoj', (k3 q hq').2⟩
    · simp only at hq'
      rw [k3] at hq'
      cases hq'
  have hdis : ∀ (j : Nat) p, tr[j]? = some p → 0 + j ≠ i → Dis (get nw) (get p.2) := by
    intro j p hp hne n
    cases h1 : get nw n with
    | none => exact .inl rfl
    | some x =>
      cases h2 : get p.2 n with
      | none => exact .inr rfl
      | some y =>
        obtain ⟨_, o1, q1, q2⟩ := names i _ ht2 (n, x) (mem_of_get h1)
        obtain ⟨_, o2, q3, q4⟩ := names j _ hp (n, y) (mem_of_get h2)
        exact absurd (nodup_dst hnd i j o1 o2 _ q1 q3 q2 q4) (by omega)
  have hput := kapp_put hL hL' hLo 0 tr (get st.σ) v nw (Nat.zero_le _) (by simpa using ht2) hdis
  -- what follows once a value is there
  have fin : ∀ G' w' x, WF w0 G' w' → V G' w' x v → Objs w0 G' w' (Kp.or (kapp L' 0 tr (get st.σ)) τ) → Step (rsv g o.dst) G w (Kp.or (kapp L 0 tr (get st.σ)) τ) G' w' (Kp.or (kapp L' 0 tr (get st.σ)) τ) → K (a.put o.dst x) w' := by
    intro G' w' x hw' hv ho hs
    have hsame : ∀ t, o.dst ≠ some t → (a.put o.dst x).tmps.getD t undef = a.tmps.getD t undef := by
      intro t ht
      cases hdo : o.dst with
      | none => rfl
      | some d =>
        simp only [Act.put, Array.getD_eq_getD_getElem?, Array.getElem?_setIfInBounds]
        rw [if_neg (fun e => ht (by rw [hdo, e]))]
    refine hK G' w' _ ⟨by rw [put_size, hI.size], by cases o.dst <;> exact hI.defers.step hs hI.wf hI.objs, hw', fun t d hl hno => ?_, fun j o' t v' nw' hLj hj hdj hp => ?_, ho, ⟨Nat.lt_of_lt_of_le hI.fresh.1 hs.top, fun j o' d hLj hj hdj q => ?_⟩, hI.step.trans (hs.weaken fun n _ hn => hn.1), fun j o' hj hLj e he hb => ?_⟩
    · have hne : o.dst ≠ some t := hno i o hL' hi
      rw [hsame t hne]
      obtain ⟨h1, h2⟩ := hI.old t d hl fun j o' hLj hj => by
        by_cases hji : j = i
        · subst hji; rw [hL] at hLj; cases hLj
        · exact hno j o' (by rw [hLo j hji]; exact hLj) hj
      exact ⟨h1, h2.step hs hI.wf hI.objs⟩
    · by_cases hji : j = i
      · subst hji
        rw [hi] at hj
        cases hj
        rw [ht2] at hp
        cases hp
        have := hdst t hdj
        simp only [hdj, Act.put, Array.getD_eq_getD_getElem?, Array.getElem?_setIfInBounds]
        simp only [↓reduceIte, this, Option.getD_some]
        exact hv
      · rw [hLo j hji] at hLj
        rw [hsame t fun e => hji (nodup_dst hnd j i o' o t hj hi hdj e)]
        exact (hI.new j o' t v' nw' hLj hj hdj hp).step hs hI.wf hI.objs
    · have hji : j ≠ i := fun e => by subst e; rw [hL'] at hLj; cases hLj
      rw [hLo j hji] at hLj
      exact hs.fresh hI.fresh.1 (hI.fresh.2 j o' d hLj hj hdj q) fun ⟨_, he⟩ => hji (nodup_dst hnd j i o' o d hj hi hdj he)
    · have keep : L e.on = true → L' e.on = true := fun h => by
        by_cases h' : e.on = i
        · rw [h']; exact hL'
        · rw [hLo _ h']; exact h
      by_cases hji : j = i
      · subst hji
        rw [hi] at hj
        cases hj
        exact keep (hready e he hb)
      · simp only at hLj
        rw [hLo j hji] at hLj
        exact keep (hI.down j o' hj hLj e he hb)
  unfold wpOpIn
  simp only [List.getElem?_toArray, hi]
  rcases hstep with ⟨hw, hqop, _⟩ | ⟨hw, rfl, rfl⟩
  · rw [if_pos (wanted_of hw hsee)]
    have hold : ∀ n x, get st.σ n = some x → kapp L 0 tr (get st.σ) n = some x := by
      intro n x hn
      rw [kapp_old 0 tr _ fun p hp => ?_]
      · exact hn
      · cases hg : get p.2 n with
        | none => rfl
        | some y =>
          obtain ⟨j, hj⟩ := List.mem_iff_getElem?.1 hp
          have := (names j p hj (n, y) (mem_of_get hg)).1
          obtain ⟨ng, ni, nj⟩ := n
          have this' : ng = g := this
          subst this'
          rw [hσg] at hn
          cases hn
    have hold2 : ∀ n x, get st.σ n = some x → Kp.or (kapp L 0 tr (get st.σ)) τ n = some x := fun n x hn => by simp [Kp.or, hold n x hn]
    refine hqop w0 hA G w a hI.wf (fun x hx => ?_) (hI.objs.sub hold2) (fun d hd' => ⟨hI.fresh.1, fun j => hI.fresh.2 i o d hL hi hd' j⟩) K Q' (fun G' w' x hw' hv ho hs => ?_) rd
    · cases x with
      | tmp t =>
        simp only [Act.eval, Ab.ev]
        cases hl : lk envi t with
        | none => exact .any _
        | some d => exact (hsee t d (by unfold looks; exact List.mem_append_left _ (List.mem_filterMap.2 ⟨.tmp t, by simpa using hx, rfl⟩)) hl).2
      | const v => exact V.ofV G w v
      | global g => exact E.hglob w0 hA G w hI.wf g
      | func f => exact .func rfl rfl (by simp) (by simp)
    · obtain ⟨f1, f2⟩ := frame (κs := get st.σ) (τ := fun n => if get st.σ n = none then Kp.or (kapp L 0 tr (get st.σ)) τ n else none) hI.wf hI.objs hold2 (fun n x hn => by
        split at hn
        · rename_i h0; exact ⟨hn, h0⟩
        · cases hn) hs ho
      have he : Kp.or (Kp.or (get nw) (get st.σ)) (fun n => if get st.σ n = none then Kp.or (kapp L 0 tr (get st.σ)) τ n else none) = Kp.or (kapp L' 0 tr (get st.σ)) τ := by
        rw [hput]
        funext n
        simp only [Kp.or]
        cases h1 : get nw n with
        | some y => simp
        | none =>
          simp only [Option.none_or]
          cases h2 : get st.σ n with
          | none => simp
          | some y => simp [hold n y h2]
      rw [he] at f1 f2
      exact fin G' w' x hw' hv f1 f2
  · rw [wanted_of hw hsee, if_neg (by simp)]
    refine ⟨fun f _ => fr_fn rd f, ?_⟩
    have he : kapp L' 0 tr (get st.σ) = kapp L 0 tr (get st.σ) := by
      rw [hput]
      funext n
      simp [Kp.or, get]
    exact fin G w undef hI.wf (.val _) (by rw [he]; exact hI.objs) (by rw [he]; exact .refl _ _ _ _)


theorem or_swap {a b : Kp} (h : Dis a b) : Kp.or a b = Kp.or b a := by
  funext n
  unfold Kp.or
  rcases h n with h | h <;> simp [h]

/-- The write comes up. -/
theorem late_step {w0 : World} (hA : E.A w0) {nq : Nat} (hok : regOk2 N l nq = true) {tr : List (D × Sto)} {env' : List (Nat × D)} (htr : QTrace E l g st.σ (l.take nq) st.env tr env') {n : Nm} {ob0 ob1 : Ob} (hng : n.g ≠ g) (hnσ : get st.σ n = none)
    {G1 : Gh} {w1 : World} {L : Nat → Bool} {G : Gh} {w : World} {a : Act} (hI : Inv2 w0 E N l g st tr G1 w1 L (single n ob0) (single n ob0) G w a) {o : Oper} (hi : l[nq]? = some o) (hL : ∀ j, nq ≤ j → L j = false) (hready : ∀ e ∈ o.after, Region.binds .any e = true → L e.on = true)
    (hdst : o.dst = none) (hgd : o.guard = none) (htop : TOp E g o (ev E env') (single n ob0) (.val undef) (single n ob1))
    {L' : Nat → Bool} (hL' : L' nq = true) (hLo : ∀ j, j ≠ nq → L' j = L j) {Q' : Exit → Act → World → Prop} {K : Act → World → Prop} (hK : ∀ G' w' a', Inv2 w0 E N l g st tr G1 w1 L' (single n ob0) (single n ob1) G' w' a' → K a' w') : ∀ r, wpOpIn (Fr r) 0 E.P l.toArray Q' nq K a w := by
  intro rd
  simp only [regOk2, Bool.and_eq_true] at hok
  obtain ⟨⟨⟨hd, hE⟩, hlk⟩, _⟩ := hok
  obtain ⟨hnd, hlt⟩ := dstsOk_spec hd
  have hlook := allIdx_spec hlk nq o hi
  simp only [Nat.zero_add] at hlook
  have hlen := htr.length
  have hsee : ∀ t d, t ∈ looks l o → lk env' t = some d → t < a.tmps.size ∧ V G w (a.tmps.getD t undef) d := by
    intro t d ht hl
    rw [hI.size]
    rcases htr.env t with ⟨j, o', v', nw', k1, k2, k3, k4⟩ | ⟨k1, k2⟩
    · rw [k4] at hl
      cases hl
      have hj : j < nq ∧ l[j]? = some o' := by
        rw [List.getElem?_take] at k1
        split at k1
        · rename_i h1; exact ⟨h1, k1⟩
        · cases k1
      have hb := looksOk_spec hlook ht hj.2 k2 (by omega)
      rw [if_pos hj.1] at hb
      obtain ⟨m, hm, hbit⟩ := bit_spec hb
      have hLj := anc hE hI.down nq o hi hready j m hm hbit
      exact ⟨hlt o' (List.mem_of_getElem? hj.2) t k2, hI.new j o' t d nw' hLj hj.2 k2 k3⟩
    · rw [k2] at hl
      refine hI.old t d hl fun j o' hLj hj hdj => ?_
      have hjn : j < nq := Nat.lt_of_not_le fun h => by rw [hL j h] at hLj; cases hLj
      exact k1 j o' (by rw [List.getElem?_take, if_pos hjn]; exact hj) hdj
  have hnk : kapp L 0 tr (get st.σ) n = none := by
    rw [kapp_old 0 tr _ fun p hp => ?_]
    · exact hnσ
    · obtain ⟨j, hj⟩ := List.mem_iff_getElem?.1 hp
      cases hgp : get p.2 n with
      | none => rfl
      | some y =>
        have hjl : j < (l.take nq).length := by have := (List.getElem?_eq_some_iff.1 hj).1; omega
        obtain ⟨_, v', nw', _, k2, k3⟩ := htr.split j _ (List.getElem?_eq_getElem hjl)
        rw [hj] at k2
        cases k2
        rcases k3 with ⟨_, _, k3⟩ | ⟨_, _, k3⟩
        · exact absurd (k3 (n, y) (mem_of_get hgp)).1 hng
        · simp only at hgp
          rw [k3] at hgp
          cases hgp
  have hsame : kapp L' 0 tr (get st.σ) = kapp L 0 tr (get st.σ) := by
    have hcut : ∀ (M M' : Nat → Bool), (∀ j, j < nq → M j = M' j) → ∀ (k : Nat) (r : List (D × Sto)) (κ : Kp), k + r.length ≤ nq → kapp M k r κ = kapp M' k r κ := by
      intro M M' hM k r
      induction r generalizing k with
      | nil => intro κ _; rfl
      | cons p r ih =>
        intro κ hk
        obtain ⟨v, nw⟩ := p
        simp only [List.length_cons] at hk
        simp only [kapp, hM k (by omega)]
        exact ih (k + 1) _ (by omega)
    refine hcut L' L (fun j hj => hLo j (by omega)) 0 tr _ ?_
    rw [hlen, List.length_take]; omega
  unfold wpOpIn
  simp only [List.getElem?_toArray, hi]
  rw [if_pos (by simp [Region.wanted, hgd])]
  have hdis : Dis (kapp L 0 tr (get st.σ)) (single n ob0) := fun m => by
    by_cases hm : n = m
    · subst hm; exact .inl hnk
    · exact .inr (by simp [single, hm])
  have hdis1 : Dis (kapp L 0 tr (get st.σ)) (single n ob1) := fun m => by
    by_cases hm : n = m
    · subst hm; exact .inl hnk
    · exact .inr (by simp [single, hm])
  have hsub : ∀ m x, single n ob0 m = some x → Kp.or (kapp L 0 tr (get st.σ)) (single n ob0) m = some x := fun m x hm => by
    rw [or_swap hdis]
    simp [Kp.or, hm]
  refine htop w0 hA G w a hI.wf (fun x hx => ?_) (hI.objs.sub hsub) (fun d hd' => by rw [hdst] at hd'; cases hd') K Q' (fun G' w' x hw' hv ho hs => ?_) rd
  · cases x with
    | tmp t =>
      simp only [Act.eval, Ab.ev]
      cases hl : lk env' t with
      | none => exact .any _
      | some d => exact (hsee t d (by unfold looks; exact List.mem_append_left _ (List.mem_filterMap.2 ⟨.tmp t, by simpa using hx, rfl⟩)) hl).2
    | const v => exact V.ofV G w v
    | global g => exact E.hglob w0 hA G w hI.wf g
    | func f => exact .func rfl rfl (by simp) (by simp)
  · obtain ⟨f1, f2⟩ := frame (κs := single n ob0) (τ := kapp L 0 tr (get st.σ)) hI.wf hI.objs hsub (fun m x hm => ⟨by simp [Kp.or, hm], by
        by_cases he : n = m
        · subst he; rw [hnk] at hm; cases hm
        · simp [single, he]⟩) hs ho
    have he1 : Kp.or (single n ob1) (kapp L 0 tr (get st.σ)) = Kp.or (kapp L' 0 tr (get st.σ)) (single n ob1) := by rw [hsame, or_swap hdis1]
    rw [he1] at f1 f2
    have hput : a.put o.dst x = a := by rw [hdst]; rfl
    rw [hput]
    refine hK G' w' a ⟨hI.size, hI.defers.step f2 hI.wf hI.objs, hw', fun t d hl hno => ?_, fun j o' t v' nw' hLj hj hdj hp => ?_, f1, ⟨Nat.lt_of_lt_of_le hI.fresh.1 f2.top, fun j o' d hLj hj hdj q => ?_⟩, hI.step.trans (f2.weaken fun m _ hm => hm.1), fun j o' hj hLj e he hb => ?_⟩
    · obtain ⟨h1, h2⟩ := hI.old t d hl fun j o' hLj hj => by
        by_cases hji : j = nq
        · subst hji; rw [hL j (Nat.le_refl _)] at hLj; cases hLj
        · exact hno j o' (by rw [hLo j hji]; exact hLj) hj
      exact ⟨h1, h2.step f2 hI.wf hI.objs⟩
    · by_cases hji : j = nq
      · subst hji
        rw [hi] at hj
        cases hj
        rw [hdst] at hdj
        cases hdj
      · rw [hLo j hji] at hLj
        exact (hI.new j o' t v' nw' hLj hj hdj hp).step f2 hI.wf hI.objs
    · have hji : j ≠ nq := fun e => by subst e; rw [hL'] at hLj; cases hLj
      rw [hLo j hji] at hLj
      exact f2.fresh hI.fresh.1 (hI.fresh.2 j o' d hLj hj hdj q) fun ⟨_, he⟩ => by rw [hdst] at he; cases he
    · have keep : L e.on = true → L' e.on = true := fun h => by
        by_cases h' : e.on = nq
        · rw [h']; exact hL'
        · rw [hLo _ h']; exact h
      by_cases hji : j = nq
      · subst hji
        rw [hi] at hj
        cases hj
        exact keep (hready e he hb)
      · simp only at hLj
        rw [hLo j hji] at hLj
        exact keep (hI.down j o' hj hLj e he hb)

/-- The last part: each waits for all ahead of it. -/
theorem any_of_list2 {rd : Option Nat} {P : Program} {Q' : Exit → Act → World → Prop} {nq : Nat} (hE : edgesOk 0 l = true) (htail : allIdx (fun i _ => decide (i < nq) || (List.range i).all fun j => bit (masks l []) i j) 0 l = true) :
    ∀ (fuel k : Nat) (A : Array Bool) (a : Act) (w : World), A.size = l.length → nq ≤ k + 1 → k + fuel = l.length → (∀ j, j < l.length → A.getD j true = decide (j < k)) → wpListIn (Fr rd) 0 P l.toArray Q' (l.drop k) a w →
      wpAnyIn (Fr rd) 0 P .any l.toArray Q' fuel A a w := by
  intro fuel
  induction fuel with
  | zero =>
    intro k A a w _ _ hk hA h
    rw [List.drop_eq_nil_of_le (by omega)] at h
    refine ⟨?_, h⟩
    cases hr : Region.ready .any l.toArray A with
    | nil => rfl
    | cons i r =>
      have hi : i ∈ Region.ready .any l.toArray A := by rw [hr]; exact List.mem_cons_self
      obtain ⟨h1, o, h2, _⟩ := mem_ready.1 hi
      simp only [List.getElem?_toArray] at h2
      have := (List.getElem?_eq_some_iff.1 h2).1
      rw [hA i this] at h1
      simp at h1
      omega
  | succ fuel ih =>
    intro k A a w hsz hnq hk hA h
    have hkl : k < l.length := by omega
    have hok : l[k]? = some l[k] := List.getElem?_eq_getElem hkl
    have hkr : k ∈ Region.ready .any l.toArray A := by
      refine mem_ready.2 ⟨by rw [hA k hkl]; simp, l[k], by simp, fun e he hb => ?_⟩
      have := edgesOk_spec 0 l hE k _ hok e he hb
      have hA' := hA e.on (by omega)
      rw [Array.getD_eq_getD_getElem?] at hA' ⊢
      simp only [show e.on < A.size by omega, getElem?_pos, Option.getD_some] at hA' ⊢
      rw [hA']
      simp
      omega
    have hdown : Down l fun j => j < l.length ∧ A.getD j true = true := by
      intro i o hi hL e he hb
      have hil := (List.getElem?_eq_some_iff.1 hi).1
      have := edgesOk_spec 0 l hE i o hi e he hb
      have h1 := hL.2
      rw [hA i hil] at h1
      simp only [decide_eq_true_eq] at h1
      exact ⟨by omega, by rw [hA e.on (by omega)]; simp; omega⟩
    refine ⟨fun h0 => (by rw [h0] at hkr; cases hkr), fun i hi => ?_⟩
    obtain ⟨h1, o, h2, h3⟩ := mem_ready.1 hi
    simp only [List.getElem?_toArray] at h2
    have hil := (List.getElem?_eq_some_iff.1 h2).1
    rw [hA i hil] at h1
    simp only [decide_eq_false_iff_not] at h1
    have hik : i = k := by
      refine Nat.le_antisymm (Nat.le_of_not_lt fun hlt => ?_) (by omega)
      have ht := allIdx_spec htail i o h2
      simp only [Nat.zero_add, Bool.or_eq_true, decide_eq_true_eq, List.all_eq_true] at ht
      have hb := (ht.resolve_left (by omega)) k (List.mem_range.2 hlt)
      obtain ⟨m, hm, hbit⟩ := bit_spec hb
      have := anc hE hdown i o h2 (fun e he hb => by
        have h4 := h3 e he hb
        have := edgesOk_spec 0 l hE i o h2 e he hb
        refine ⟨by omega, ?_⟩
        rw [Array.getD_eq_getD_getElem?] at h4 ⊢
        simp only [show e.on < A.size by omega, getElem?_pos, Option.getD_some] at h4 ⊢
        exact h4) k m hm hbit
      have := this.2
      rw [hA k hkl] at this
      simp at this
    subst hik
    rw [List.drop_eq_getElem_cons hkl] at h
    simp only [wpListIn] at h
    unfold wpOpIn
    simp only [List.getElem?_toArray, hok]
    have next : ∀ a w, wpListIn (Fr rd) 0 P l.toArray Q' (l.drop (i + 1)) a w → wpAnyIn (Fr rd) 0 P .any l.toArray Q' fuel (A.setIfInBounds i true) a w := fun a w hw => by
      refine ih (i + 1) (A.setIfInBounds i true) a w (by simpa using hsz) (by omega) (by omega) (fun j hj => ?_) hw
      by_cases hji : i = j
      · subst hji
        simp [show i < A.size by omega]
      · rw [getD_set_ne true hji, hA j hj]
        congr 1
        simp only [eq_iff_iff]
        omega
    split
    · rename_i hw
      rw [if_pos hw] at h
      exact Oper.wpIn_mono next h
    · rename_i hw
      rw [if_neg hw] at h
      exact ⟨fun f _ => fr_fn rd f, next _ _ h.2⟩


/-- The write is done. -/
theorem any_of_late {rd : Option Nat} {w0 : World} (hA : E.A w0) {nq : Nat} (hnq : nq < l.length) (hok : regOk2 N l nq = true) {tr : List (D × Sto)} {env' : List (Nat × D)} (htr : QTrace E l g st.σ (l.take nq) st.env tr env') (hσg : ∀ i j, get st.σ ⟨g, i, j⟩ = none) {τ0 τ : Kp}
    {G1 : Gh} {w1 : World} {Q' : Exit → Act → World → Prop} (hend : ∀ L G w a, (∀ j, j < nq → L j = true) → (∀ j, nq + 1 ≤ j → L j = false) → Inv2 w0 E N l g st tr G1 w1 L τ0 τ G w a → wpListIn (Fr rd) 0 E.P l.toArray Q' (l.drop (nq + 1)) a w) :
    ∀ (fuel : Nat) (A : Array Bool) (G : Gh) (w : World) (a : Act), A.size = l.length → left A l.length = fuel → A.getD nq true = true → (∀ j, nq + 1 ≤ j → j < l.length → A.getD j true = false) → Inv2 w0 E N l g st tr G1 w1 (fun j => A.getD j false) τ0 τ G w a →
      wpAnyIn (Fr rd) 0 E.P .any l.toArray Q' fuel A a w := by
  have hok' := hok
  simp only [regOk2, Bool.and_eq_true] at hok'
  obtain ⟨⟨⟨_, hE⟩, _⟩, htail⟩ := hok'
  have same : ∀ (A : Array Bool) (j : Nat), A.size = l.length → j < l.length → A.getD j true = A.getD j false := fun A j h1 h2 => by
    simp [show j < A.size by omega]
  intro fuel
  induction fuel with
  | zero =>
    intro A G w a hsz hlf hS hT hI
    have hall := left_zero hlf
    have hn : nq + 1 = l.length := by
      refine Nat.le_antisymm hnq (Nat.le_of_not_lt fun hlt => ?_)
      have h1 := hall (nq + 1) hlt
      rw [hT (nq + 1) (Nat.le_refl _) hlt] at h1
      cases h1
    refine any_of_list2 hE htail 0 l.length A a w hsz (by omega) (by omega) (fun j hj => by rw [hall j hj]; simp [hj]) ?_
    rw [← hn]
    refine hend _ G w a (fun j hj => by rw [← same A j hsz (by omega)]; exact hall j (by omega)) (fun j hj => ?_) hI
    simp [Array.getElem?_eq_none (show A.size ≤ j by omega)]
  | succ fuel ih =>
    intro A G w a hsz hlf hS hT hI
    by_cases hQ : left A nq = 0
    · have hall := left_zero hQ
      have hcount : left A l.length = l.length - (nq + 1) := by
        have : ∀ m, nq + 1 ≤ m → m ≤ l.length → left A m = m - (nq + 1) := by
          intro m
          induction m with
          | zero => intro h1 _; omega
          | succ m ihm =>
            intro h1 h2
            by_cases h3 : nq = m
            · rw [left_succ, ← h3, hQ, hS]; simp
            · rw [left_succ, ihm (by omega) (by omega), hT m (by omega) (by omega)]
              simp
              omega
        exact this _ hnq (Nat.le_refl _)
      have hall2 : ∀ j, j < nq + 1 → A.getD j true = true := fun j hj => by
        by_cases h : j < nq
        · exact hall j h
        · have : j = nq := by omega
          subst this; exact hS
      refine any_of_list2 hE htail (fuel + 1) (nq + 1) A a w hsz (by omega) (by omega) (fun j hj => ?_) ?_
      · by_cases h : j < nq + 1
        · rw [hall2 j h]; simp [h]
        · rw [hT j (by omega) hj]; simp [h]
      · refine hend _ G w a (fun j hj => by rw [← same A j hsz (by omega)]; exact hall j hj) (fun j hj => ?_) hI
        by_cases h : j < l.length
        · rw [← same A j hsz h]; exact hT j hj h
        · simp [Array.getElem?_eq_none (show A.size ≤ j by omega)]
    · obtain ⟨q, hq1, hq2, hq3⟩ := left_pos hQ
      have hoq : l[q]? = some l[q] := List.getElem?_eq_getElem (by omega)
      have hqr : q ∈ Region.ready .any l.toArray A := by
        refine mem_ready.2 ⟨hq2, l[q], by simp, fun e he hb => ?_⟩
        have := edgesOk_spec 0 l hE q _ hoq e he hb
        rw [← same A e.on hsz (by omega)]
        exact hq3 e.on (by omega)
      refine ⟨fun h0 => (by rw [h0] at hqr; cases hqr), fun i hi => ?_⟩
      obtain ⟨h1, o, h2, h3⟩ := mem_ready.1 hi
      simp only [List.getElem?_toArray] at h2
      have hil := (List.getElem?_eq_some_iff.1 h2).1
      have hin : i < nq := by
        refine Nat.lt_of_not_le fun hge => ?_
        by_cases hne : i = nq
        · subst hne; rw [hS] at h1; cases h1
        have ht := allIdx_spec htail i o h2
        simp only [Nat.zero_add, Bool.or_eq_true, decide_eq_true_eq, List.all_eq_true] at ht
        have hb := (ht.resolve_left (by omega)) q (List.mem_range.2 (by omega))
        obtain ⟨m, hm, hbit⟩ := bit_spec hb
        have := anc hE hI.down i o h2 h3 q m hm hbit
        rw [← same A q hsz (by omega), hq2] at this
        cases this
      refine inv2_step hA hok htr hσg hI h2 hin (by rw [← same A i hsz hil]; exact h1) h3 (L' := fun j => (A.setIfInBounds i true).getD j false) (by simp [show i < A.size by omega]) (fun j hj => getD_set_ne false (Ne.symm hj)) (fun G' w' a' hI' => ?_) rd
      refine ih (A.setIfInBounds i true) G' w' a' (by simpa using hsz) ?_ (by rw [getD_set_ne true (by omega)]; exact hS) (fun j hj1 hj2 => by rw [getD_set_ne true (by omega)]; exact hT j hj1 hj2) hI'
      have := left_set A h1 l.length
      rw [if_pos hil] at this
      omega

/-- The write is to come. -/
theorem any_of_early {rd : Option Nat} {w0 : World} (hA : E.A w0) {nq : Nat} {o : Oper} (ho : l[nq]? = some o) (hok : regOk2 N l nq = true) {tr : List (D × Sto)} {env' : List (Nat × D)} (htr : QTrace E l g st.σ (l.take nq) st.env tr env') (hσg : ∀ i j, get st.σ ⟨g, i, j⟩ = none)
    {n : Nm} {ob0 ob1 : Ob} (hng : n.g ≠ g) (hnσ : get st.σ n = none) (hdst : o.dst = none) (hgd : o.guard = none) (htop : TOp E g o (ev E env') (single n ob0) (.val undef) (single n ob1))
    {G1 : Gh} {w1 : World} {Q' : Exit → Act → World → Prop} (hend1 : ∀ L G w a, (∀ j, j < nq → L j = true) → (∀ j, nq ≤ j → L j = false) → Inv2 w0 E N l g st tr G1 w1 L (single n ob0) (single n ob0) G w a → wpListIn (Fr rd) 0 E.P l.toArray Q' (l.drop nq) a w)
    (hend2 : ∀ L G w a, (∀ j, j < nq → L j = true) → (∀ j, nq + 1 ≤ j → L j = false) → Inv2 w0 E N l g st tr G1 w1 L (single n ob0) (single n ob1) G w a → wpListIn (Fr rd) 0 E.P l.toArray Q' (l.drop (nq + 1)) a w) :
    ∀ (fuel : Nat) (A : Array Bool) (G : Gh) (w : World) (a : Act), A.size = l.length → left A l.length = fuel → (∀ j, nq ≤ j → j < l.length → A.getD j true = false) → Inv2 w0 E N l g st tr G1 w1 (fun j => A.getD j false) (single n ob0) (single n ob0) G w a →
      wpAnyIn (Fr rd) 0 E.P .any l.toArray Q' fuel A a w := by
  have hnq : nq < l.length := (List.getElem?_eq_some_iff.1 ho).1
  have hok' := hok
  simp only [regOk2, Bool.and_eq_true] at hok'
  obtain ⟨⟨⟨_, hE⟩, _⟩, htail⟩ := hok'
  have same : ∀ (A : Array Bool) (j : Nat), A.size = l.length → j < l.length → A.getD j true = A.getD j false := fun A j h1 h2 => by
    simp [show j < A.size by omega]
  intro fuel
  induction fuel with
  | zero =>
    intro A G w a hsz hlf hT hI
    have h1 := left_zero hlf nq hnq
    rw [hT nq (Nat.le_refl _) hnq] at h1
    cases h1
  | succ fuel ih =>
    intro A G w a hsz hlf hT hI
    by_cases hQ : left A nq = 0
    · have hall := left_zero hQ
      have hcount : left A l.length = l.length - nq := by
        have : ∀ m, nq ≤ m → m ≤ l.length → left A m = m - nq := by
          intro m
          induction m with
          | zero => intro h1 _; rw [Nat.le_zero.1 h1] at hQ; simp [left]
          | succ m ihm =>
            intro h1 h2
            by_cases h3 : nq = m + 1
            · rw [← h3, hQ]; omega
            · rw [left_succ, ihm (by omega) (by omega), hT m (by omega) (by omega)]
              simp
              omega
        exact this _ (by omega) (Nat.le_refl _)
      refine any_of_list2 hE htail (fuel + 1) nq A a w hsz (Nat.le_refl _) (by omega) (fun j hj => ?_) ?_
      · by_cases h : j < nq
        · rw [hall j h]; simp [h]
        · rw [hT j (by omega) hj]; simp [h]
      · refine hend1 _ G w a (fun j hj => by rw [← same A j hsz (by omega)]; exact hall j hj) (fun j hj => ?_) hI
        by_cases h : j < l.length
        · rw [← same A j hsz h]; exact hT j hj h
        · simp [Array.getElem?_eq_none (show A.size ≤ j by omega)]
    · obtain ⟨q, hq1, hq2, hq3⟩ := left_pos hQ
      have hoq : l[q]? = some l[q] := List.getElem?_eq_getElem (by omega)
      have hqr : q ∈ Region.ready .any l.toArray A := by
        refine mem_ready.2 ⟨hq2, l[q], by simp, fun e he hb => ?_⟩
        have := edgesOk_spec 0 l hE q _ hoq e he hb
        rw [← same A e.on hsz (by omega)]
        exact hq3 e.on (by omega)
      refine ⟨fun h0 => (by rw [h0] at hqr; cases hqr), fun i hi => ?_⟩
      obtain ⟨h1, o', h2, h3⟩ := mem_ready.1 hi
      simp only [List.getElem?_toArray] at h2
      have hil := (List.getElem?_eq_some_iff.1 h2).1
      have hset := left_set A h1 l.length
      rw [if_pos hil] at hset
      by_cases hin : i < nq
      · refine inv2_step hA hok htr hσg hI h2 hin (by rw [← same A i hsz hil]; exact h1) h3 (L' := fun j => (A.setIfInBounds i true).getD j false) (by simp [show i < A.size by omega]) (fun j hj => getD_set_ne false (Ne.symm hj)) (fun G' w' a' hI' => ?_) rd
        exact ih (A.setIfInBounds i true) G' w' a' (by simpa using hsz) (by omega) (fun j hj1 hj2 => by rw [getD_set_ne true (by omega)]; exact hT j hj1 hj2) hI'
      · have hie : i = nq := by
          refine Nat.le_antisymm (Nat.le_of_not_lt fun hgt => ?_) (by omega)
          have ht := allIdx_spec htail i o' h2
          simp only [Nat.zero_add, Bool.or_eq_true, decide_eq_true_eq, List.all_eq_true] at ht
          have hb := (ht.resolve_left (by omega)) q (List.mem_range.2 (by omega))
          obtain ⟨m, hm, hbit⟩ := bit_spec hb
          have := anc hE hI.down i o' h2 h3 q m hm hbit
          rw [← same A q hsz (by omega), hq2] at this
          cases this
        subst hie
        rw [ho] at h2
        cases h2
        refine late_step hA hok htr hng hnσ hI ho (fun j hj => ?_) h3 hdst hgd htop (L' := fun j => (A.setIfInBounds i true).getD j false) (by simp [show i < A.size by omega]) (fun j hj => getD_set_ne false (Ne.symm hj)) (fun G' w' a' hI' => ?_) rd
        · by_cases h : j < l.length
          · rw [← same A j hsz h]; exact hT j hj h
          · simp [Array.getElem?_eq_none (show A.size ≤ j by omega)]
        · exact any_of_late hA hil hok htr hσg hend2 fuel (A.setIfInBounds i true) G' w' a' (by simpa using hsz) (by omega) (by simp [show i < A.size by omega]) (fun j hj1 hj2 => by rw [getD_set_ne true (by omega)]; exact hT j (by omega) hj2) hI'

theorem TOp.frame {o : Oper} {e : Operand → D} {κs κs' τ κ : Kp} {v : D} (h : TOp E g o e κs v κs') (hsub : ∀ n x, κs n = some x → κ n = some x) (hτ : ∀ n x, τ n = some x → κ n = some x ∧ κs n = none) : TOp E g o e κ v (Kp.or κs' τ) := by
  intro w0 hA G w a hw hV ho hf K Q' hK
  refine h w0 hA G w a hw hV (ho.sub hsub) hf K Q' fun G' w' x hw' hv ho' hs => ?_
  obtain ⟨f1, f2⟩ := Go.Ab.frame hw ho hsub hτ hs ho'
  exact hK G' w' x hw' hv f1 f2

/-- **A region that draws its order, with a write that nothing in it looks at.** 'nq': the write's place. -/
theorem awp_late {Q : Exit → St → Prop} {id : Nat} (nq : Nat) (n : Nm) {o : Oper} (ho : l[nq]? = some o) (hdst : o.dst = none) (hgd : o.guard = none) (hok : regOk2 N l nq = true) {ob0 : Ob} (hn : get st.σ n = some ob0)
    (h : ∀ g, (∀ i j, get st.σ ⟨g, i, j⟩ = none) → QRun E l g (del st.σ n) (fun s => ∃ ob1, TOp E g o (ev E s.env) (single n ob0) (.val undef) (single n ob1) ∧ AOps E N l g (fun s => Q .normal s) (l.drop (nq + 1)) { env := s.env, σ := (n, ob1) :: s.σ }) (l.take nq) { env := st.env, σ := del st.σ n }) :
    AWp E N (.region id l.toArray true) Q st := by
  intro w0 hA G w a hN hr rd hrd
  obtain ⟨G1, ht, hf, hσ, hr1, hs1⟩ := bump hr
  have hnq : nq < l.length := (List.getElem?_eq_some_iff.1 ho).1
  have hok' := hok
  simp only [regOk2, Bool.and_eq_true] at hok'
  obtain ⟨hnd, hlt⟩ := dstsOk_spec hok'.1.1.1
  obtain ⟨tr, env', htr, ob1, htop, hK⟩ := h G.top hσ
  have hng : n.g ≠ G.top := fun e => by
    obtain ⟨ng, ni, nj⟩ := n
    simp only at e
    subst e
    rw [hσ] at hn
    cases hn
  have hnσ : get (del st.σ n) n = none := by rw [get_del]; simp
  have hσg : ∀ i j, get (del st.σ n) ⟨G.top, i, j⟩ = none := fun i j => by
    rw [get_del]
    split
    · rfl
    · exact hσ i j
  have hsplit : ∀ κ : Kp, κ = get (del st.σ n) → Kp.or κ (single n ob0) = get st.σ := fun κ hκ => by
    subst hκ
    funext m
    simp only [Kp.or, get_del, single]
    by_cases hm : n = m
    · subst hm; simp [hn]
    · simp [hm]
  refine wpIn_region_any E.mixed ?_
  have hV : ∀ v d, V G1 w v d → V G1 { w with drawn := w.drawn + 1 } v d := fun v d h => h.mono (fun _ h => h) (fun _ _ => rfl) (fun _ _ h => h)
  have hI0 : Inv2 w0 E N l G.top { env := st.env, σ := del st.σ n } tr G1 { w with drawn := w.drawn + 1 } (fun j => (Array.replicate l.length false).getD j false) (single n ob0) (single n ob0) G1 { w with drawn := w.drawn + 1 } a := by
    have hno : ∀ j, (Array.replicate l.length false).getD j false = false := fun j => by
      by_cases hj : j < l.length
      · simp [hj]
      · simp [Array.getElem?_eq_none (show (Array.replicate l.length false).size ≤ j by simp; omega)]
    have hk0 : kapp (fun j => (Array.replicate l.length false).getD j false) 0 tr (get (del st.σ n)) = get (del st.σ n) := kapp_none 0 tr _ hno
    refine ⟨hN, hr1.defers, ⟨hr1.wf.below.draw, hr1.wf.old, hr1.wf.lt, hr1.wf.nm⟩, fun t d hl _ => ⟨by rw [← hN]; exact (hr1.env t d hl).1, hV _ _ (hr1.env t d hl).2⟩, fun j o t v nw hL => ?_, ?_, ⟨by omega, fun j o d _ _ _ q => hf d q⟩, ?_, fun i o _ hL => ?_⟩
    · rw [hno] at hL; cases hL
    · simp only
      rw [hk0, hsplit _ rfl]
      exact ⟨fun n o hn => let ⟨v, h1, h2, h3⟩ := hr1.objs.ob n o hn; ⟨v, h1, h2.mono hV fun _ _ => rfl, h3⟩, hr1.objs.ne⟩
    · simp only
      rw [hk0]; exact .refl _ _ _ _
    · have hL' : (Array.replicate l.length false).getD i false = true := hL
      rw [hno] at hL'; cases hL'
  have hlen := htr.length
  have hkall : ∀ L : Nat → Bool, (∀ j, j < nq → L j = true) → kapp L 0 tr (get (del st.σ n)) = get (accN tr (del st.σ n)) := fun L hL => kapp_all 0 tr _ fun j _ hj => hL j (by rw [hlen, List.length_take] at hj; omega)
  have hnacc : get (accN tr (del st.σ n)) n = none := by
    rw [← hkall (fun _ => true) fun _ _ => rfl]
    rw [kapp_old 0 tr _ fun p hp => ?_]
    · exact hnσ
    · obtain ⟨j, hj⟩ := List.mem_iff_getElem?.1 hp
      cases hgp : get p.2 n with
      | none => rfl
      | some y =>
        have hjl : j < (l.take nq).length := by have := (List.getElem?_eq_some_iff.1 hj).1; omega
        obtain ⟨_, v', nw', _, k2, k3⟩ := htr.split j _ (List.getElem?_eq_getElem hjl)
        rw [hj] at k2
        cases k2
        rcases k3 with ⟨_, _, k3⟩ | ⟨_, _, k3⟩
        · exact absurd (k3 (n, y) (mem_of_get hgp)).1 hng
        · simp only at hgp
          rw [k3] at hgp
          cases hgp
  have hor : ∀ ob, Kp.or (get (accN tr (del st.σ n))) (single n ob) = get ((n, ob) :: accN tr (del st.σ n)) := fun ob => by
    funext m
    simp only [Kp.or, single, get]
    by_cases hm : n = m
    · subst hm; simp [hnacc]
    · simp [hm]
  have mkrel : ∀ (L : Nat → Bool) (ob : Ob) (G' : Gh) (w' : World) (a' : Act) (top : Nat), (∀ j, j < nq → L j = true) → (∀ j, top ≤ j → L j = false) → (∀ j o', nq ≤ j → j < top → l[j]? = some o' → o'.dst = none) → Inv2 w0 E N l G.top { env := st.env, σ := del st.σ n } tr G1 { w with drawn := w.drawn + 1 } L (single n ob0) (single n ob) G' w' a' →
      Rel w0 G' w' a' ⟨env', (n, ob) :: accN tr (del st.σ n)⟩ ∧ Step (fun n => n.g = G.top) G w (get st.σ) G' w' (get ((n, ob) :: accN tr (del st.σ n))) := by
    intro L ob G' w' a' top hL1 hL2 hmid hI
    have hobj := hI.objs
    have hstep := hI.step
    simp only at hobj hstep
    rw [hkall L hL1, hor] at hobj hstep
    rw [hsplit _ rfl] at hstep
    refine ⟨⟨hI.wf, fun t d hl => ?_, hobj, hI.defers⟩, ?_⟩
    · rw [hI.size]
      have get_take : ∀ (j : Nat) o, (l.take nq)[j]? = some o → j < nq ∧ l[j]? = some o := fun j o h => by
        rw [List.getElem?_take] at h
        split at h
        · rename_i hj; exact ⟨hj, h⟩
        · cases h
      rcases htr.env t with ⟨j, o, v, nw, k1, k2, k3, k4⟩ | ⟨k1, k2⟩
      · simp only at hl
        rw [k4] at hl
        cases hl
        obtain ⟨hj, hjo⟩ := get_take j o k1
        exact ⟨hlt o (List.mem_of_getElem? hjo) t k2, hI.new j o t d nw (hL1 j hj) hjo k2 k3⟩
      · simp only at hl
        rw [k2] at hl
        refine hI.old t d hl fun j o hLj hj => ?_
        by_cases hjn : j < nq
        · exact k1 j o (by rw [List.getElem?_take, if_pos hjn]; exact hj)
        · by_cases hjt : j < top
          · rw [hmid j o (by omega) hjt hj]; simp
          · rw [hL2 j (by omega)] at hLj; cases hLj
    · have hs2 : Step (fun n => n.g = G.top) G w (get st.σ) G1 { w with drawn := w.drawn + 1 } (get st.σ) :=
        ⟨Nat.le_refl _, fun _ _ _ => rfl, hs1.F, hs1.F', hs1.ρ, fun n h1 h2 _ => hs1.ρ' n h1 h2 fun h => h, hs1.top, hs1.blk', hs1.dom, hs1.base⟩
      exact hs2.trans hstep
  have hfin : ∀ (k : Nat) (L : Nat → Bool) (ob : Ob) (G' : Gh) (w' : World) (a' : Act), nq ≤ k → (∀ j, j < nq → L j = true) → (∀ j, k ≤ j → L j = false) → (∀ j o', nq ≤ j → j < k → l[j]? = some o' → o'.dst = none) → Inv2 w0 E N l G.top { env := st.env, σ := del st.σ n } tr G1 { w with drawn := w.drawn + 1 } L (single n ob0) (single n ob) G' w' a' →
      AOps E N l G.top (fun s => Q .normal s) (l.drop k) { env := env', σ := (n, ob) :: accN tr (del st.σ n) } → wpListIn (Fr rd) 0 E.P l.toArray (post w0 N no G w st.σ Q) (l.drop k) a' w' := by
    intro k L ob G' w' a' hk hL1 hL2 hmid hI hKK
    obtain ⟨hrel, hst⟩ := mkrel L ob G' w' a' k hL1 hL2 hmid hI
    refine hKK w0 hA G' w' a' hI.size hrel hI.fresh.1 ?_ (fun o ho d hd => ?_) _ (fun G2 st2 a2 w2 q1 q2 q3 q4 => ⟨G2, st2, q1, q2, ?_, q4⟩) rd
    · exact hnd.sublist ((List.drop_sublist k l).filterMap _)
    · obtain ⟨j, hj⟩ := List.mem_iff_getElem?.1 ho
      rw [List.getElem?_drop] at hj
      exact ⟨hlt o (List.mem_of_getElem? hj) d hd, hI.fresh.2 (k + j) o d (hL2 _ (by omega)) hj hd⟩
    · exact (hst.trans q3).weaken fun n hn he => by omega
  refine any_of_early (st := { env := st.env, σ := del st.σ n }) hA ho hok htr hσg hng hnσ hdst hgd htop (fun L G' w' a' hL1 hL2 hI => ?_) (fun L G' w' a' hL1 hL2 hI => ?_) l.toArray.size (Array.replicate l.toArray.size false) G1 _ a (by simp) (by simp only [List.size_toArray]; exact left_full _ _ (Nat.le_refl _)) (fun j h1 h2 => by simp [h2]) (by simpa using hI0)
  · refine hfin nq L ob0 G' w' a' (Nat.le_refl _) hL1 hL2 (fun j o' h1 h2 => absurd h1 (by omega)) hI ?_
    rw [List.drop_eq_getElem_cons hnq]
    have hoo : l[nq] = o := by rw [List.getElem?_eq_getElem hnq] at ho; exact Option.some.inj ho
    rw [hoo]
    refine aops_t (v := .val undef) (σ := (n, ob1) :: accN tr (del st.σ n)) (by simp [wantD, hgd]) ?_ (by rw [hdst]; exact hK)
    have hfr := htop.frame (κ := get ((n, ob0) :: accN tr (del st.σ n))) (τ := get (accN tr (del st.σ n))) (fun m x hm => ?_) (fun m x hm => ?_)
    · have he : Kp.or (single n ob1) (get (accN tr (del st.σ n))) = get ((n, ob1) :: accN tr (del st.σ n)) := by
        funext m
        simp only [Kp.or, single, get]
        by_cases h : n = m <;> simp [h]
      rw [he] at hfr
      exact hfr
    · simp only [single] at hm
      split at hm
      · rename_i h; subst h; cases hm; simp [get]
      · cases hm
    · by_cases h : n = m
      · subst h; rw [hnacc] at hm; cases hm
      · exact ⟨by simp [get, h, hm], by simp [single, h]⟩
  · refine hfin (nq + 1) L ob1 G' w' a' (by omega) hL1 hL2 (fun j o' h1 h2 hj => ?_) hI hK
    have : j = nq := by omega
    subst this
    rw [ho] at hj
    cases hj
    exact hdst

end
end Go.Ab

namespace Go.Ab
open Go Go.RowKit
section
variable {E : Ctx} {N : Nat} {st : St}

theorem storeD_one {P : Program} {t : TypeId} {ad v : D} {n : Nm} {ob : Ob} {σ : Sto} (h : storeD P t ad v [(n, ob)] = some σ) : ∃ ob1, σ = [(n, ob1)] := by
  have hset : ∀ (m : Nm) (o o' : Ob), get [(n, ob)] m = some o → ∃ ob1, set [(n, ob)] m o' = [(n, ob1)] := fun m o o' hm => by
    simp only [get] at hm
    split at hm
    · rename_i he
      subst he
      exact ⟨o', by simp [set]⟩
    · cases hm
  unfold storeD at h
  split at h
  · split at h
    · rename_i hk
      split at h
      · cases h; exact hset _ _ _ hk
      · cases h
    · cases h
  · split at h
    · rename_i hk
      split at h
      · split at h
        · split at h
          · cases h; exact hset _ _ _ hk
          · cases h
        · cases h
      · cases h
    · cases h
  · cases h

theorem awp_lateq {Q : Exit → St → Prop} {id : Nat} {l : List Oper} {ds : List (Option Tmp)} (nq : Nat) (n : Nm) {o : Oper} {t : TypeId} {ao x : Operand} (ho : l[nq]? = some o) (hop : o.op = .store t ao x) (hdst : o.dst = none) (hgd : o.guard = none)
    (hok : regOk2 N l nq = true) (hds : l.map (·.dst) = ds)
    (h : SomeP (get st.σ n) fun ob0 => ∀ g, (∀ i j, get st.σ ⟨g, i, j⟩ = none) → ∀ (ops : List Oper) (K : St → Prop), ops.map (·.dst) = ds → (∀ s, Q .normal s → K s) →
      QRun E ops g (del st.σ n) (fun s => SomeP (storeD E.P t (ev E s.env ao) (ev E s.env x) [(n, ob0)]) fun σ1 => AOps E N ops g K (l.drop (nq + 1)) { env := s.env, σ := σ1 ++ s.σ }) (l.take nq) { env := st.env, σ := del st.σ n }) :
    AWp E N (.region id l.toArray true) Q st := by
  obtain ⟨ob0, hn, h⟩ := h.elim
  refine awp_late nq n ho hdst hgd hok hn fun g hg => ?_
  obtain ⟨tr, env', h1, h2⟩ := h g hg l (fun s => Q .normal s) hds (fun _ h => h)
  obtain ⟨σ1, h3, h4⟩ := h2.elim
  obtain ⟨ob1, rfl⟩ := storeD_one h3
  refine ⟨tr, env', h1, ob1, ?_, h4⟩
  have := storeD_sound (E := E) (g := g) (e := ev E env') (σ := [(n, ob0)]) hop h3
  rwa [get_single, get_single] at this
end
end Go.Ab

namespace Go.Ab
open Go Go.RowKit

/-- What an operation leaves: its value, new things, and those that are gone. -/
structure TE where
  v : D
  nw : Sto
  dead : List Nm

def minus (κ : Kp) (ms : List Nm) : Kp := fun n => if n ∈ ms then none else κ n

def turnOk (M : List Nat) (ds : List (Option Tmp)) (i : Nat) (ms : List Nm) : Bool :=
  ms.all fun m => (List.range ds.length).all fun j => !((ds[j]?).join == some m.i) || bit M i j

def TStep (E : Ctx) (ops : List Oper) (M : List Nat) (g : Nat) (σ0 : Sto) (i : Nat) (o : Oper) (σ : Sto) (env : List (Nat × D)) (p : TE) : Prop :=
  (∀ q ∈ p.nw, q.1.g = g ∧ o.dst = some q.1.i) ∧
  ((wantD ops env o = some true ∧ QOp E g o (ev E env) (get σ0) p.v p.nw ∧ p.dead = []) ∨ (wantD ops env o = some false ∧ p.v = .val undef ∧ p.nw = [] ∧ p.dead = []) ∨
   (wantD ops env o = some true ∧ ∃ σs : Sto, p.dead = σs.map (·.1) ∧ TOp E g o (ev E env) (get σs) p.v (get p.nw) ∧ (∀ q ∈ σs, get σ q.1 = some q.2) ∧ (∀ m ∈ p.dead, m.g = g) ∧ turnOk M (ops.map (·.dst)) i p.dead = true))

inductive TTrace (E : Ctx) (ops : List Oper) (M : List Nat) (g : Nat) (σ0 : Sto) : Nat → Sto → List Oper → List (Nat × D) → List TE → List (Nat × D) → Prop
  | nil {i : Nat} {σ : Sto} {env : List (Nat × D)} : TTrace E ops M g σ0 i σ [] env [] env
  | cons {i : Nat} {σ : Sto} {o : Oper} {r : List Oper} {env env' : List (Nat × D)} {p : TE} {tr : List TE} : TStep E ops M g σ0 i o σ env p → TTrace E ops M g σ0 (i + 1) (p.nw ++ dels σ p.dead) r (putE env o.dst p.v) tr env' →
      TTrace E ops M g σ0 i σ (o :: r) env (p :: tr) env'

def accT : List TE → Sto → Sto
  | [], σ => σ
  | p :: r, σ => accT r (p.nw ++ dels σ p.dead)

def QRunT (E : Ctx) (ops : List Oper) (M : List Nat) (g : Nat) (σ0 : Sto) (i : Nat) (K : St → Prop) (l : List Oper) (st : St) : Prop :=
  ∃ tr env', TTrace E ops M g σ0 i st.σ l st.env tr env' ∧ K ⟨env', accT tr st.σ⟩

section
variable {E : Ctx} {N : Nat} {ops : List Oper} {M : List Nat} {g i0 : Nat} {σ0 : Sto} {st : St}

theorem TTrace.length {l : List Oper} {σ : Sto} {env env' : List (Nat × D)} {tr : List TE} (h : TTrace E ops M g σ0 i0 σ l env tr env') : tr.length = l.length := by
  induction h with
  | nil => rfl
  | cons _ _ ih => simp [ih]

theorem TTrace.split {l : List Oper} {σ : Sto} {env env' : List (Nat × D)} {tr : List TE} (h : TTrace E ops M g σ0 i0 σ l env tr env') :
    ∀ (i : Nat) o, l[i]? = some o → ∃ envi p, TTrace E ops M g σ0 i0 σ (l.take i) env (tr.take i) envi ∧ tr[i]? = some p ∧ TStep E ops M g σ0 (i0 + i) o (accT (tr.take i) σ) envi p := by
  induction h with
  | nil => intro i o h; simp at h
  | cons hs _ ih =>
    intro i o ho
    cases i with
    | zero => simp only [List.getElem?_cons_zero, Option.some.injEq] at ho; subst ho; exact ⟨_, _, .nil, rfl, hs⟩
    | succ i =>
      obtain ⟨envi, p, h1, h2, h3⟩ := ih i o (by simpa using ho)
      refine ⟨envi, p, .cons hs h1, h2, ?_⟩
      rw [show ∀ a : Nat, a + (i + 1) = a + 1 + i by omega]
      exact h3

theorem TTrace.env {l : List Oper} {σ : Sto} {env env' : List (Nat × D)} {tr : List TE} (h : TTrace E ops M g σ0 i0 σ l env tr env') (t : Nat) :
    (∃ (j : Nat) (o : Oper) (p : TE), l[j]? = some o ∧ o.dst = some t ∧ tr[j]? = some p ∧ lk env' t = some p.v) ∨ ((∀ (j : Nat) o, l[j]? = some o → o.dst ≠ some t) ∧ lk env' t = lk env t) := by
  induction h with
  | nil => exact .inr ⟨fun j o h => by simp at h, rfl⟩
  | cons hs _ ih =>
    rename_i i σ o r env env' p tr _
    rcases ih with ⟨j, o', p', h1, h2, h3, h4⟩ | ⟨h1, h2⟩
    · exact .inl ⟨j + 1, o', p', by simpa using h1, h2, by simpa using h3, h4⟩
    · by_cases hd : o.dst = some t
      · refine .inl ⟨0, o, p, rfl, hd, rfl, ?_⟩
        rw [h2, hd]
        simp [putE, lk]
      · refine .inr ⟨fun j o' ho => ?_, ?_⟩
        · cases j with
          | zero => simp only [List.getElem?_cons_zero, Option.some.injEq] at ho; subst ho; exact hd
          | succ j => exact h1 j o' (by simpa using ho)
        · rw [h2]
          cases hx : o.dst with
          | none => rfl
          | some d =>
            simp only [putE, lk]
            rw [if_neg (fun e => hd (by rw [hx, e]))]

/-! ### The objects when the operations in 'L' have come up -/
def kappT (L : Nat → Bool) : Nat → List TE → Kp → Kp
  | _, [], κ => κ
  | k, p :: r, κ => kappT L (k + 1) r (if L k then Kp.or (get p.nw) (minus κ p.dead) else κ)

end
end Go.Ab

namespace Go.Ab
open Go Go.RowKit

section
variable {E : Ctx} {N : Nat} {l : List Oper} {g : Nat} {st : St}

/-- What holds when the operations in L have come up. -/
structure InvT (w0 : World) (E : Ctx) (N : Nat) (l : List Oper) (g : Nat) (st : St) (tr : List TE) (G1 : Gh) (w1 : World) (L : Nat → Bool) (G : Gh) (w : World) (a : Act) : Prop where
  size : a.tmps.size = N
  defers : Marks G w a.defers
  wf : WF w0 G w
  old : ∀ t d, lk st.env t = some d → (∀ (j : Nat) o, L j = true → l[j]? = some o → o.dst ≠ some t) → t < N ∧ V G w (a.tmps.getD t undef) d
  new : ∀ (j : Nat) o t p, L j = true → l[j]? = some o → o.dst = some t → tr[j]? = some p → V G w (a.tmps.getD t undef) p.v
  objs : Objs w0 G w (kappT L 0 tr (get st.σ))
  fresh : g < G.top ∧ ∀ (j : Nat) o d, L j = false → l[j]? = some o → o.dst = some d → ∀ q, G.ρ ⟨g, d, q⟩ = none
  step : Step (fun n => n.g = g) G1 w1 (get st.σ) G w (kappT L 0 tr (get st.σ))
  down : Down l (fun i => L i = true)

end
end Go.Ab

namespace Go.Ab
open Go Go.RowKit

section
variable {E : Ctx} {N : Nat} {ops : List Oper} {g : Nat} {σ0 : Sto} {st st' : St} {K : St → Prop} {ds : List (Option Tmp)} {M : List Nat} {i : Nat}

end
end Go.Ab

namespace Go.Ab
open Go Go.RowKit

/-! # A store into a variable of the region's own, which is forgotten behind it -/

section
variable {E : Ctx} {ops : List Oper} {M : List Nat} {ds : List (Option Tmp)} {g i : Nat} {σ0 : Sto} {K : St → Prop} {st : St}
end
end Go.Ab

namespace Go.Ab
open Go Go.RowKit

/-! # Objects aside, and ends that hand back objects that name one another -/

section
variable {E : Ctx} {N : Nat}

/-- What a piece of code does not touch stays as it is. -/
theorem awp_frame {c : Code} {Q Q' : Exit → St → Prop} {env : List (Nat × D)} {σ τ : Sto} (hτ : ∀ n, get τ n ≠ none → get σ n = none) (h : AWp E N c Q ⟨env, σ⟩)
    (hq : ∀ e s, Q e s → (∀ n, get τ n ≠ none → get s.σ n = none) → Q' e ⟨s.env, s.σ ++ τ⟩) : AWp E N c Q' ⟨env, σ ++ τ⟩ := by
  intro w0 hA G w a hN hr rd hrd
  have hall : Objs w0 G w (Kp.or (get σ) (get τ)) := by rw [← get_append]; exact hr.objs
  have hsub : ∀ n o, get σ n = some o → Kp.or (get σ) (get τ) n = some o := fun n o h => by unfold Kp.or; rw [h]; rfl
  have hτ2 : ∀ n o, get τ n = some o → Kp.or (get σ) (get τ) n = some o ∧ get σ n = none := fun n o h => by
    have := hτ n (by rw [h]; simp)
    exact ⟨by unfold Kp.or; rw [this, h]; rfl, this⟩
  refine wpIn_mono (h w0 hA G w a hN ⟨hr.wf, hr.env, hall.sub hsub, hr.defers⟩ rd hrd) ?_
  rintro e a' w' ⟨G', s', h1, h2, h3, h4⟩
  obtain ⟨k1, k2⟩ := frame hr.wf hall hsub hτ2 h3 h2.objs
  rw [← get_append, ← get_append] at k2
  rw [← get_append] at k1
  refine ⟨G', ⟨s'.env, s'.σ ++ τ⟩, h1, ⟨h2.wf, h2.env, k1, h2.defers⟩, k2, hq e s' h4 fun n hn => ?_⟩
  cases ht : get τ n with
  | none => exact absurd ht hn
  | some o =>
    cases hx : get s'.σ n with
    | none => rfl
    | some x =>
      exfalso
      rcases h3.dom n (by rw [hx]; simp) with h5 | h5
      · exact h5 (hτ n hn)
      · obtain ⟨v, hv, _⟩ := hall.ob n o (hτ2 n o ht).1
        have h5 : G.ρ n = none := h5
        rw [hv] at h5
        cases h5

/-- A round that goes on, beside objects that it does not touch. -/
theorem awp_aside {c : Code} {K Mid : St → Prop} {Q : Exit → St → Prop} {env : List (Nat × D)} {σ τ : Sto} (hτ : ∀ n, get τ n ≠ none → get σ n = none) (h : AWp E N c (thenQ Mid fun _ _ => False) ⟨env, σ⟩)
    (hk : ∀ s, Mid s → (∀ n, get τ n ≠ none → get s.σ n = none) → K ⟨s.env, s.σ ++ τ⟩) : AWp E N c (thenQ K Q) ⟨env, σ ++ τ⟩ :=
  awp_frame hτ h fun e s hs hn => by
    cases e with
    | normal => exact hk s hs hn
    | _ => exact hs.elim

/-! ## Names turned, also in what lies in arrays -/

def rowSub (f : D → D) : D → D
  | .agg cs => .agg (cs.map f)
  | d => f d
def Ob.ren (f : D → D) : Ob → Ob
  | .box t cs => .box t (cs.map f)
  | .arr t k rows => .arr t k (rows.map (rowSub f))
  | o => o

/-- How names read from now on: those of arrays in 'ν' are turned to reserved ones. -/
structure Rens (g d : Nat) (ν : Nat → Option (Nm × Ob)) (f : D → D) : Prop where
  own : ∀ m l, f (.own m l) = .own m l ∨ ∃ j o, ν j = some (m, o) ∧ f (.own m l) = .own ⟨g, d, j⟩ l
  other : ∀ x, (∀ m l, x ≠ .own m l) → f x = x

theorem Rens.cells {g d : Nat} {ν : Nat → Option (Nm × Ob)} {f : D → D} (hf : Rens g d ν f) (r : D) : (rowSub f r).cells = r.cells.map f := by
  cases r with
  | agg cs => rfl
  | own m l =>
    rcases hf.own m l with h | ⟨j, o, _, h⟩ <;> simp [rowSub, D.cells, h]
  | _ => simp [rowSub, D.cells, hf.other]

theorem ends_ren {fn : Func} {g d : Nat} {r : D} {l : List ResultVar} {st : St} {ds : List D} (hl : fn.results = l.toArray) (h : resD E.P st l = some ds) (ν : Nat → Option (Nm × Ob)) (f : D → D) (σ' : Sto) (hf : Rens g d ν f)
    (hν : ∀ j n o, ν j = some (n, o) → get st.σ n = some o) (hinj : ∀ j j' n o o', ν j = some (n, o) → ν j' = some (n, o') → j = j')
    (hσ : ∀ m o, get σ' m = some o → ∃ j n o0, m = ⟨g, d, j⟩ ∧ ν j = some (n, o0) ∧ o = o0.ren f) (hr : Co ((resV ds).sub (·.sub f)) r) : Ends E fn g d r σ' st := by
  intro w0 _ G w a hrel hfr
  obtain ⟨v, h1, h2⟩ := results_run (E := E) hrel hl h
  let G' : Gh := { G with ρ := fun m => if m.g = g ∧ m.i = d then (match ν m.j with | some p => G.ρ p.1 | none => none) else G.ρ m }
  have hρ : ∀ m u, G.ρ m = some u → G'.ρ m = some u := by
    intro m u hm
    show (if m.g = g ∧ m.i = d then _ else _) = _
    rw [if_neg, hm]
    rintro ⟨rfl, rfl⟩
    rw [hfr.2 m.j] at hm
    cases hm
  have hV0 : ∀ x y, V G w x y → V G' w x y := fun x y h => h.mono (fun _ h => h) (fun _ _ => rfl) hρ
  have hnew : ∀ n j o, ν j = some (n, o) → G'.ρ ⟨g, d, j⟩ = G.ρ n := fun n j o hlk => by
    show (if g = g ∧ d = d then _ else _) = _
    rw [if_pos ⟨rfl, rfl⟩]
    simp only [hlk]
  have hfV : ∀ x y, V G w x y → V G' w x (f y) := by
    intro x y hxy
    cases y with
    | own m len =>
      rcases hf.own m len with e | ⟨j, o, hj, e⟩
      · rw [e]; exact hV0 _ _ hxy
      · rw [e]
        cases hxy with
        | own hρm => exact .own ((hnew m j o hj).trans hρm)
    | _ =>
      rw [hf.other _ (fun m l h => by cases h)]
      exact hV0 _ _ hxy
  have objs : ∀ m o, get σ' m = some o → m.g = g ∧ m.i = d ∧ ∃ n o0, ν m.j = some (n, o0) ∧ get st.σ n = some o0 ∧ G'.ρ m = G.ρ n ∧ o = o0.ren f := by
    intro m o hm
    obtain ⟨j, n, o0, rfl, hj, he⟩ := hσ m o hm
    exact ⟨rfl, rfl, n, o0, hj, hν j n o0 hj, hnew n j o0 hj, he⟩
  refine ⟨v, G', h1, ⟨hrel.wf.below, hrel.wf.old, hrel.wf.lt, fun m u hm => ?_⟩, hr G' w v (h2.sub fun x y hxy => hxy.sub hfV), ⟨fun m o hm => ?_, fun m m' o o' u u' b k1 k2 hnm k3 k4 k5 k6 => ?_⟩, ?_⟩
  · have hm' : (if m.g = g ∧ m.i = d then (match ν m.j with | some p => G.ρ p.1 | none => none) else G.ρ m) = some u := hm
    split at hm'
    · rename_i hc
      split at hm'
      · rename_i p hp
        exact ⟨by rw [hc.1]; exact hfr.1, (hrel.wf.nm _ u hm').2⟩
      · cases hm'
    · exact hrel.wf.nm m u hm'
  · obtain ⟨_, _, n, o0, _, hn, hG, rfl⟩ := objs m o hm
    obtain ⟨u, hu, hou, hF⟩ := hrel.objs.ob n o0 hn
    refine ⟨u, hG.trans hu, ?_, hF⟩
    cases o0 with
    | box t cs =>
      obtain ⟨b, c, rfl, q1, q2, q3⟩ := hou
      refine ⟨b, c, rfl, q1, by simpa using q2, fun i x y hx hy => ?_⟩
      simp only [List.getElem?_map, Option.map_eq_some_iff] at hy
      obtain ⟨y0, hy0, rfl⟩ := hy
      exact hfV _ _ (q3 i x y0 hx hy0)
    | arr t k rows =>
      obtain ⟨xs, q1, q2⟩ := hou
      refine ⟨xs, by simpa using q1, fun i r' hr' => ?_⟩
      simp only [List.getElem?_map, Option.map_eq_some_iff] at hr'
      obtain ⟨r0, hr0, rfl⟩ := hr'
      obtain ⟨q3, q4⟩ := q2 i r0 hr0
      rw [hf.cells]
      refine ⟨by simpa using q3, fun j y hy => ?_⟩
      simp only [List.getElem?_map, Option.map_eq_some_iff] at hy
      obtain ⟨y0, hy0, rfl⟩ := hy
      obtain ⟨x, hx, hxV⟩ := q4 j y0 hy0
      exact ⟨x, hx, hfV _ _ hxV⟩
    | _ => exact hou.mono hV0 fun _ _ => rfl
  · obtain ⟨e1, e2, n, o1, q1, q2, q3, _⟩ := objs m o k1
    obtain ⟨e3, e4, n', o2, q4, q5, q6, _⟩ := objs m' o' k2
    have hnn : n ≠ n' := fun e => by
      subst e
      have hj := hinj _ _ _ _ _ q1 q4
      refine hnm ?_
      obtain ⟨a1, a2, a3⟩ := m
      obtain ⟨b1, b2, b3⟩ := m'
      simp only at e1 e2 e3 e4 hj
      subst e1; subst e2; subst e3; subst e4; subst hj
      rfl
    exact hrel.objs.ne n n' o1 o2 u u' b q2 q5 hnn (q3 ▸ k3) (q6 ▸ k4) k5 k6
  · refine ⟨Nat.le_refl _, fun _ _ _ => rfl, fun _ h => h, fun _ h => .inl h, hρ, fun m _ hm hnr => ?_, Nat.le_refl _, fun b ⟨m, o, u, k1, k2, k3⟩ => ?_, fun m hm => ?_, rfl⟩
    · show (if m.g = g ∧ m.i = d then _ else _) = _
      rw [if_neg (fun hc => hnr ⟨hc.1, by rw [hc.2]⟩)]
      exact hm
    · obtain ⟨_, _, n, o0, _, hn, hG, _⟩ := objs m o k1
      exact .inr ⟨n, o0, u, hn, hG.symm.trans k2, k3⟩
    · cases hx : get σ' m with
      | none => exact absurd hx hm
      | some o =>
        obtain ⟨e1, e2, _⟩ := objs m o hx
        obtain ⟨mg, mi, mj⟩ := m
        simp only at e1 e2
        subst e1
        subst e2
        exact .inr (hfr.2 mj)
end
end Go.Ab

namespace Go.Proofs.T
open Go Go.Ab Go.RowKit

/-! ## Lists of declarations whose lists of formals are the call's own -/

def deN (d : Dec) (n : Nm) : List D := [.val (.int .i64 d.kind), .val (.string d.name), .own n d.formals.length, .sl false (d.fields.map encPa), .sl false (d.sigs.map encSi), .val (.string d.recv), .sl false (d.vars.map encS)] ++ siC d.sig ++ exC d.body ++ [.val (.int .i64 d.pos)]
def encDN (d : Dec) (n : Nm) : D := .agg (deN d n)
def arrFm (d : Dec) : Ob := .arr 60 5 (d.formals.map encFm)
abbrev Zs := List (Dec × Nm)
def rowsZ (z : Zs) : List D := z.map fun p => encDN p.1 p.2
def obsZ (z : Zs) : Sto := z.map fun p => (p.2, arrFm p.1)
def tree (a : Nm) (z : Zs) : Sto := (a, .arr 52 23 (rowsZ z)) :: obsZ z
def zG (g d : Nat) (l : List Dec) : Zs := l.mapIdx fun i x => (x, ⟨g, d, i + 2⟩)
def treeG (g d : Nat) (l : List Dec) : Sto := tree ⟨g, d, 1⟩ (zG g d l)
theorem get_obsZ {z : Zs} (hz : (z.map (·.2)).Nodup) : ∀ p ∈ z, get (obsZ z) p.2 = some (arrFm p.1) := by
  induction z with
  | nil => intro p hp; cases hp
  | cons q r ih =>
    intro p hp
    rw [List.map_cons, List.nodup_cons] at hz
    unfold obsZ
    rw [List.map_cons]
    unfold Ab.get
    rcases List.mem_cons.1 hp with rfl | hp
    · rw [if_pos rfl]
    · rw [if_neg (fun e : q.2 = p.2 => hz.1 (by rw [e]; exact List.mem_map_of_mem hp))]
      exact ih hz.2 p hp
theorem get_obsZ_none {z : Zs} {n : Nm} : get (obsZ z) n ≠ none ↔ ∃ p ∈ z, p.2 = n := by
  induction z with
  | nil => simp [obsZ, Ab.get]
  | cons q r ih =>
    unfold obsZ at *
    rw [List.map_cons]
    unfold Ab.get
    by_cases h : q.2 = n
    · rw [if_pos h]
      simp [h]
    · rw [if_neg h, ih]
      simp [h]
theorem zG_len (g d : Nat) (l : List Dec) : (zG g d l).length = l.length := by simp [zG]
theorem zG_get (g d : Nat) (l : List Dec) (i : Nat) : (zG g d l)[i]? = (l[i]?).map fun x => (x, ⟨g, d, i + 2⟩) := by
  unfold zG
  rw [List.getElem?_mapIdx]
theorem zG_fst (g d : Nat) (l : List Dec) : (zG g d l).map (·.1) = l := by
  refine List.ext_getElem? fun i => ?_
  rw [List.getElem?_map, zG_get]
  cases l[i]? <;> rfl
theorem zG_nodup (g d : Nat) (l : List Dec) : ((zG g d l).map (·.2)).Nodup := by
  rw [List.nodup_iff_pairwise_ne, List.pairwise_iff_getElem]
  intro i j hi hj hij e
  simp only [List.getElem_map] at e
  have h1 := zG_get g d l i
  have h2 := zG_get g d l j
  simp only [List.length_map] at hi hj
  rw [List.getElem?_eq_getElem hi] at h1
  rw [List.getElem?_eq_getElem hj] at h2
  cases h3 : l[i]? with
  | none => rw [h3] at h1; cases h1
  | some x =>
    cases h4 : l[j]? with
    | none => rw [h4] at h2; cases h2
    | some y =>
      rw [h3] at h1
      rw [h4] at h2
      rw [Option.some.inj h1, Option.some.inj h2] at e
      have : i + 2 = j + 2 := congrArg Nm.j e
      omega
theorem zG_ne (g d : Nat) (l : List Dec) : ∀ p ∈ zG g d l, p.2.g = g ∧ p.2.i = d ∧ p.2 ≠ ⟨g, d, 1⟩ := fun p hp => by
  obtain ⟨i, hi, rfl⟩ := List.mem_iff_getElem.1 hp
  have h1 := zG_get g d l i
  rw [List.getElem?_eq_getElem hi] at h1
  cases h3 : l[i]? with
  | none => rw [h3] at h1; cases h1
  | some x =>
    rw [h3] at h1
    rw [Option.some.inj h1]
    exact ⟨rfl, rfl, fun e => by have : i + 2 = 1 := congrArg Nm.j e; omega⟩

/-! ## Ends that hand such lists back -/

open Classical in
noncomputable def renZ (g d : Nat) (a : Nm) (z : Zs) : D → D
  | .own m l => if m = a then .own ⟨g, d, 1⟩ l else match z.findIdx? (fun p => decide (p.2 = m)) with | some i => .own ⟨g, d, i + 2⟩ l | none => .own m l
  | x => x
theorem renZ_own (g d : Nat) (a : Nm) (z : Zs) (m : Nm) (l : Nat) : renZ g d a z (.own m l) = if m = a then .own ⟨g, d, 1⟩ l else match z.findIdx? (fun p => decide (p.2 = m)) with | some i => .own ⟨g, d, i + 2⟩ l | none => .own m l := rfl
def nuZ (a : Nm) (z : Zs) : Nat → Option (Nm × Ob)
  | 0 => none
  | 1 => some (a, .arr 52 23 (rowsZ z))
  | i + 2 => (z[i]?).map fun p => (p.2, arrFm p.1)
theorem renZ_rens (g d : Nat) (a : Nm) (z : Zs) : Rens g d (nuZ a z) (renZ g d a z) where
  own := fun m l => by
    rw [renZ_own]
    by_cases h : m = a
    · rw [if_pos h]
      exact .inr ⟨1, _, by rw [h]; rfl, rfl⟩
    · rw [if_neg h]
      cases hf : z.findIdx? (fun p => decide (p.2 = m)) with
      | none => exact .inl rfl
      | some i =>
        obtain ⟨h1, h2, _⟩ := List.findIdx?_eq_some_iff_getElem.1 hf
        refine .inr ⟨i + 2, arrFm z[i].1, ?_, rfl⟩
        show (z[i]?).map _ = _
        rw [List.getElem?_eq_getElem h1, Option.map_some, of_decide_eq_true h2]
  other := fun x hx => by
    cases x with
    | own m l => exact absurd rfl (hx m l)
    | _ => rfl
theorem renZ_at {g d : Nat} {a : Nm} {z : Zs} (ha : ∀ p ∈ z, p.2 ≠ a) (hz : (z.map (·.2)).Nodup) {i : Nat} (hi : i < z.length) (l : Nat) : renZ g d a z (.own z[i].2 l) = .own ⟨g, d, i + 2⟩ l := by
  rw [renZ_own, if_neg (ha _ (List.getElem_mem hi))]
  have : z.findIdx? (fun p => decide (p.2 = z[i].2)) = some i := by
    rw [List.findIdx?_eq_some_iff_getElem]
    refine ⟨hi, by simp, fun j hj => ?_⟩
    have := List.pairwise_iff_getElem.1 (List.nodup_iff_pairwise_ne.1 hz) j i (by simp; omega) (by simpa using hi) hj
    simpa using this
  rw [this]
theorem ren_row {f : D → D} (hf : ∀ x, (∀ m l, x ≠ .own m l) → f x = x) {x : Dec} {n m : Nm} (h : f (.own n x.formals.length) = .own m x.formals.length) : rowSub f (encDN x n) = encDN x m := by
  have h1 : ∀ v, f (.val v) = .val v := fun v => hf _ fun _ _ e => by cases e
  have h2 : ∀ b r, f (.sl b r) = .sl b r := fun b r => hf _ fun _ _ e => by cases e
  unfold encDN rowSub deN siC exC
  simp [h, h1, h2]
theorem ren_rows {g d : Nat} {a : Nm} {z : Zs} (ha : ∀ p ∈ z, p.2 ≠ a) (hz : (z.map (·.2)).Nodup) : (rowsZ z).map (rowSub (renZ g d a z)) = rowsZ (zG g d (z.map (·.1))) := by
  refine List.ext_getElem? fun i => ?_
  unfold rowsZ
  rw [List.map_map, List.getElem?_map, List.getElem?_map, zG_get, List.getElem?_map]
  cases hi : z[i]? with
  | none => rfl
  | some p =>
    obtain ⟨h1, h2⟩ := List.getElem?_eq_some_iff.1 hi
    simp only [Option.map_some, Function.comp_apply]
    rw [ren_row (renZ_rens g d a z).other (by rw [← h2]; exact renZ_at ha hz h1 _)]
theorem ren_arr {g d : Nat} {a : Nm} {z : Zs} (x : Dec) : (arrFm x).ren (renZ g d a z) = arrFm x := by
  unfold arrFm
  show Ob.arr _ _ _ = _
  congr 1
  rw [List.map_map]
  refine List.map_congr_left fun f _ => ?_
  have h1 : ∀ v, renZ g d a z (.val v) = .val v := fun v => rfl
  have h2 : ∀ b r, renZ g d a z (.sl b r) = .sl b r := fun b r => rfl
  simp only [Function.comp_apply, encFm, fmC, rowSub, List.map_cons, List.map_nil, h1, h2]
theorem ends_tree {fn : Func} {g d : Nat} {r : D} {l : List ResultVar} {st : St} (hl : fn.results = l.toArray) (a : Nm) (z : Zs) (ha : ∀ p ∈ z, p.2 ≠ a) (hz : (z.map (·.2)).Nodup) {xs : List Dec} (hx : z.map (·.1) = xs) (hσ : ∀ q ∈ tree a z, get st.σ q.1 = some q.2)
    (h : SomeP (resD E.P st l) fun ds => ∀ f : D → D, (∀ n, f (.own a n) = .own ⟨g, d, 1⟩ n) → (∀ x, (∀ m l, x ≠ .own m l) → f x = x) → Co ((resV ds).sub (·.sub f)) r) : retQ E fn g d r (treeG g d xs) .ret st := by
  obtain ⟨ds, h1, h⟩ := h.elim
  subst hx
  refine ends_ren hl h1 (nuZ a z) (renZ g d a z) _ (renZ_rens g d a z) (fun j n o hj => ?_) (fun j j' n o o' hj hj' => ?_) (fun m o hm => ?_) (h _ (fun n => by rw [renZ_own, if_pos rfl]) (renZ_rens g d a z).other)
  · match j, hj with
    | 1, hj =>
      cases hj
      exact hσ _ List.mem_cons_self
    | i + 2, hj =>
      obtain ⟨p, hp, e⟩ := Option.map_eq_some_iff.1 (show (z[i]?).map _ = _ from hj)
      cases e
      exact hσ (p.2, arrFm p.1) (List.mem_cons_of_mem _ (List.mem_map.2 ⟨p, List.mem_of_getElem? hp, rfl⟩))
  · have key : ∀ i (n : Nm) o, nuZ a z (i + 2) = some (n, o) → ∃ h : i < z.length, z[i].2 = n := fun i n o hj => by
      obtain ⟨p, hp, e⟩ := Option.map_eq_some_iff.1 (show (z[i]?).map _ = _ from hj)
      cases e
      obtain ⟨q1, q2⟩ := List.getElem?_eq_some_iff.1 hp
      exact ⟨q1, by rw [q2]⟩
    match j, j', hj, hj' with
    | 1, 1, _, _ => rfl
    | 1, i + 2, hj, hj' =>
      cases hj
      obtain ⟨q1, q2⟩ := key i _ _ hj'
      exact absurd q2 (ha _ (List.getElem_mem q1))
    | i + 2, 1, hj, hj' =>
      cases hj'
      obtain ⟨q1, q2⟩ := key i _ _ hj
      exact absurd q2 (ha _ (List.getElem_mem q1))
    | i + 2, i' + 2, hj, hj' =>
      obtain ⟨q1, q2⟩ := key i _ _ hj
      obtain ⟨q3, q4⟩ := key i' _ _ hj'
      have hp := List.pairwise_iff_getElem.1 (List.nodup_iff_pairwise_ne.1 hz)
      rcases Nat.lt_trichotomy i i' with h | h | h
      · have := hp i i' (by simpa using q1) (by simpa using q3) h
        simp only [List.getElem_map] at this
        exact absurd (q2.trans q4.symm) this
      · rw [h]
      · have := hp i' i (by simpa using q3) (by simpa using q1) h
        simp only [List.getElem_map] at this
        exact absurd (q4.trans q2.symm) this
  · unfold treeG tree Ab.get at hm
    split at hm
    · rename_i e
      cases hm
      exact ⟨1, a, _, e.symm, rfl, by rw [← ren_rows ha hz]; rfl⟩
    · obtain ⟨p, hp, e⟩ := get_obsZ_none.1 (show Ab.get (obsZ _) m ≠ none by rw [hm]; simp)
      have h2 := get_obsZ (zG_nodup g d (z.map (·.1))) p hp
      rw [e, hm] at h2
      cases h2
      obtain ⟨i, hi, rfl⟩ := List.mem_iff_getElem.1 hp
      have h3 := zG_get g d (z.map (·.1)) i
      rw [List.getElem?_eq_getElem hi, List.getElem?_map] at h3
      cases h4 : z[i]? with
      | none => rw [h4] at h3; cases h3
      | some q =>
        rw [h4] at h3
        have h3 : (zG g d (z.map (·.1)))[i] = (q.1, (⟨g, d, i + 2⟩ : Nm)) := Option.some.inj h3
        refine ⟨i + 2, q.2, arrFm q.1, ?_, ?_, ?_⟩
        · rw [← e, h3]
        · show (z[i]?).map _ = _
          rw [h4]
          rfl
        · rw [h3, ren_arr]
theorem tree_get {a : Nm} {z : Zs} (ha : ∀ p ∈ z, p.2 ≠ a) (hz : (z.map (·.2)).Nodup) : ∀ q ∈ tree a z, Ab.get (tree a z) q.1 = some q.2 := fun q hq => by
  unfold tree at hq ⊢
  unfold Ab.get
  rcases List.mem_cons.1 hq with rfl | hq
  · rw [if_pos rfl]
  · obtain ⟨p, hp, rfl⟩ := List.mem_map.1 hq
    rw [if_neg (fun e => ha p hp e.symm)]
    exact get_obsZ hz p hp
theorem get_or_l {σ τ : Sto} {n : Nm} {o : Ob} (h : Ab.get σ n = some o) : Ab.get (σ ++ τ) n = some o := by
  rw [get_append]
  unfold Kp.or
  rw [h]
  rfl
theorem get_or_r {σ τ : Sto} {n : Nm} (h : Ab.get σ n = none) : Ab.get (σ ++ τ) n = Ab.get τ n := by
  rw [get_append]
  unfold Kp.or
  rw [h]
  rfl
theorem aside {z : Zs} {b : Nm} {o : Ob} (h : ∀ p ∈ z, p.2 ≠ b) : ∀ n, Ab.get (obsZ z) n ≠ none → Ab.get [(b, o)] n = none := fun n hn => by
  obtain ⟨p, hp, rfl⟩ := get_obsZ_none.1 hn
  unfold Ab.get
  rw [if_neg (Ne.symm (h p hp))]
  rfl
theorem tree_more {σ : Sto} {z : Zs} {X : Dec} {m b : Nm} (hbm : m ≠ b) (hz : (z.map (·.2)).Nodup) (hdis : ∀ n, Ab.get (obsZ z) n ≠ none → Ab.get σ n = none) (h1 : Ab.get σ b = some (.arr 52 23 (rowsZ z ++ [encDN X m]))) (h2 : Ab.get σ m = some (arrFm X)) :
    ((z ++ [(X, m)]).map (·.2)).Nodup ∧ (∀ p ∈ z ++ [(X, m)], p.2 ≠ b) ∧ ∀ q ∈ tree b (z ++ [(X, m)]), Ab.get (σ ++ obsZ z) q.1 = some q.2 := by
  have hm : ∀ p ∈ z, p.2 ≠ m := fun p hp e => by
    have := hdis m (get_obsZ_none.2 ⟨p, hp, e⟩)
    rw [h2] at this
    cases this
  have hb : ∀ p ∈ z, p.2 ≠ b := fun p hp e => by
    have := hdis b (get_obsZ_none.2 ⟨p, hp, e⟩)
    rw [h1] at this
    cases this
  refine ⟨?_, fun p hp => ?_, fun q hq => ?_⟩
  · rw [List.map_append, List.nodup_append]
    refine ⟨hz, by simp, fun x hx y hy => ?_⟩
    simp only [List.map_cons, List.map_nil, List.mem_singleton] at hy
    subst hy
    obtain ⟨p, hp, rfl⟩ := List.mem_map.1 hx
    exact hm p hp
  · rcases List.mem_append.1 hp with hp | hp
    · exact hb p hp
    · rw [List.mem_singleton.1 hp]
      exact hbm
  · unfold tree at hq
    rcases List.mem_cons.1 hq with rfl | hq
    · refine get_or_l ?_
      show _ = some (Ob.arr _ _ (rowsZ (z ++ [(X, m)])))
      unfold rowsZ at *
      rw [List.map_append]
      exact h1
    · obtain ⟨p, hp, rfl⟩ := List.mem_map.1 hq
      rcases List.mem_append.1 hp with hp | hp
      · rw [get_or_r (hdis _ (get_obsZ_none.2 ⟨p, hp, rfl⟩))]
        exact get_obsZ hz p hp
      · rw [List.mem_singleton.1 hp]
        exact get_or_l h2
theorem get_treeG_ne {g d a b c : Nat} {l : List Dec} {σ : Sto} (h : a ≠ g) : Ab.get (treeG g d l ++ σ) ⟨a, b, c⟩ = Ab.get σ ⟨a, b, c⟩ := by
  refine get_or_r ?_
  unfold treeG tree Ab.get
  rw [if_neg (fun e => h (congrArg Nm.g e).symm)]
  cases hx : Ab.get (obsZ (zG g d l)) ⟨a, b, c⟩ with
  | none => rfl
  | some o =>
    obtain ⟨p, hp, e⟩ := get_obsZ_none.1 (show Ab.get (obsZ _) ⟨a, b, c⟩ ≠ none by rw [hx]; simp)
    have := (zG_ne g d l p hp).1
    rw [e] at this
    exact absurd this h
theorem set_app {τ : Sto} {n : Nm} {o : Ob} : ∀ {σ : Sto}, Ab.get σ n = none → Ab.set (σ ++ τ) n o = σ ++ Ab.set τ n o
  | [], _ => rfl
  | (m, x) :: r, h => by
    unfold Ab.get at h
    by_cases hm : m = n
    · rw [if_pos hm] at h
      cases h
    · rw [if_neg hm] at h
      have e : Ab.set ((m, x) :: (r ++ τ)) n o = (m, x) :: Ab.set (r ++ τ) n o := by rw [Ab.set, if_neg hm]
      exact e.trans (by rw [set_app h]; rfl)
theorem get_treeG_none {g d a b c : Nat} {l : List Dec} (h : a ≠ g) : Ab.get (treeG g d l) ⟨a, b, c⟩ = none := by
  have := @get_treeG_ne g d a b c l [] h
  rw [List.append_nil] at this
  exact this
theorem set_treeG_ne {g d a b c : Nat} {l : List Dec} {σ : Sto} {o : Ob} (h : a ≠ g) : Ab.set (treeG g d l ++ σ) ⟨a, b, c⟩ o = treeG g d l ++ Ab.set σ ⟨a, b, c⟩ o := set_app (get_treeG_none h)
theorem treeG_get {g d : Nat} {l : List Dec} {σ : Sto} : ∀ q ∈ tree ⟨g, d, 1⟩ (zG g d l), Ab.get (treeG g d l ++ σ) q.1 = some q.2 := fun q hq =>
  get_or_l (tree_get (fun q hq => (zG_ne _ _ _ q hq).2.2) (zG_nodup _ _ _) q hq)
theorem nwOk_treeG (g d : Nat) (l : List Dec) : nwOk g (some d) (treeG g d l) = true := by
  unfold nwOk
  rw [List.all_eq_true]
  intro q hq
  unfold treeG tree at hq
  rcases List.mem_cons.1 hq with rfl | hq
  · simp
  · obtain ⟨p, hp, rfl⟩ := List.mem_map.1 hq
    obtain ⟨h1, h2, _⟩ := zG_ne g d l p hp
    simp [h1, h2]
theorem okRowsDN (d : Dec) (n : Nm) : okRows 23 [encDN d n] := okRows_map 23 (fun p : Dec × Nm => encDN p.1 p.2) [(d, n)] fun _ => ⟨rfl, rfl⟩
end Go.Proofs.T

