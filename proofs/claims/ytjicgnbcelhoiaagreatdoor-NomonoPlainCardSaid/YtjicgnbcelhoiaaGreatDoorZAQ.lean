/- A part of the proof, under no conditions of its own: ZAQ. -/
import Derived.Test.YtjicgnbcelhoiaaGreatDoorZAI
import Derived.Test.YtjicgnbcelhoiaaGreatDoorZAH
import Derived.Test.YtjicgnbcelhoiaaGreatDoorZAP
namespace Go.Ab
open Go Go.RowKit
def WStep (E : Ctx) (ops : List Oper) (g : Nat) (σ0 : Sto) (c : Nat) (n0 : Nm) (ob0 ob1 : Ob) (i : Nat) (o : Oper) (env : List (Nat × D)) (v : D) (nw : Sto) : Prop :=
 (i ≠ c ∧ QStep E ops g σ0 o env v nw) ∨ (i = c ∧ nw = [] ∧ o.guard = none ∧ TOp E g o (ev E env) (single n0 ob0) v (single n0 ob1))
inductive WTrace (E : Ctx) (ops : List Oper) (g : Nat) (σ0 : Sto) (c : Nat) (n0 : Nm) (ob0 ob1 : Ob) : Nat → List Oper → List (Nat × D) → List (D × Sto) → List (Nat × D) → Prop
 | nil {i : Nat} {env : List (Nat × D)} : WTrace E ops g σ0 c n0 ob0 ob1 i [] env [] env
 | cons {i : Nat} {o : Oper} {r : List Oper} {env env' : List (Nat × D)} {v : D} {nw : Sto} {tr : List (D × Sto)} : WStep E ops g σ0 c n0 ob0 ob1 i o env v nw → WTrace E ops g σ0 c n0 ob0 ob1 (i + 1) r (putE env o.dst v) tr env' → WTrace E ops g σ0 c n0 ob0 ob1 i (o :: r) env ((v, nw) :: tr) env'
def WRun (E : Ctx) (ops : List Oper) (g : Nat) (σ0 : Sto) (c : Nat) (n0 : Nm) (ob0 ob1 : Ob) (i : Nat) (K : St → Prop) (l : List Oper) (st : St) : Prop :=
 ∃ tr env', WTrace E ops g σ0 c n0 ob0 ob1 i l st.env tr env' ∧ K ⟨env', accN tr st.σ⟩
section
variable {E : Ctx} {N : Nat} {l : List Oper} {g : Nat} {st : St} {ops : List Oper} {σ0 : Sto} {c i0 : Nat} {n0 : Nm} {ob0 ob1 : Ob}
theorem WTrace.length {l : List Oper} {env env' : List (Nat × D)} {tr : List (D × Sto)} (h : WTrace E ops g σ0 c n0 ob0 ob1 i0 l env tr env') : tr.length = l.length := by
 induction h with
 | nil => rfl
 | cons _ _ ih => simp [ih]
theorem WTrace.split {l : List Oper} {env env' : List (Nat × D)} {tr : List (D × Sto)} (h : WTrace E ops g σ0 c n0 ob0 ob1 i0 l env tr env') : ∀ (i : Nat) o, l[i]? = some o → ∃ envi v nw, WTrace E ops g σ0 c n0 ob0 ob1 i0 (l.take i) env (tr.take i) envi ∧ tr[i]? = some (v, nw) ∧ WStep E ops g σ0 c n0 ob0 ob1 (i0 + i) o envi v nw := by
 induction h with
 | nil => intro i o h; simp at h
 | cons hs _ ih =>
  intro i o ho
  cases i with
  | zero => simp only [List.getElem?_cons_zero, Option.some.injEq] at ho; subst ho; exact ⟨_, _, _, .nil, rfl, hs⟩
  | succ i =>
   obtain ⟨envi, v, nw, h1, h2, h3⟩ := ih i o (by simpa using ho)
   refine ⟨envi, v, nw, .cons hs h1, h2, ?_⟩
   rw [show ∀ a : Nat, a + (i + 1) = a + 1 + i by omega]
   exact h3
theorem WTrace.env {l : List Oper} {env env' : List (Nat × D)} {tr : List (D × Sto)} (h : WTrace E ops g σ0 c n0 ob0 ob1 i0 l env tr env') (t : Nat) :
  (∃ (j : Nat) (o : Oper) (v : D) (nw : Sto), l[j]? = some o ∧ o.dst = some t ∧ tr[j]? = some (v, nw) ∧ lk env' t = some v) ∨ ((∀ (j : Nat) o, l[j]? = some o → o.dst ≠ some t) ∧ lk env' t = lk env t) := by
 induction h with
 | nil => exact .inr ⟨fun j o h => by simp at h, rfl⟩
 | cons hs _ ih =>
  rename_i i o r env env' v nw tr _
  rcases ih with ⟨j, o', v', nw', h1, h2, h3, h4⟩ | ⟨h1, h2⟩
  ·exact .inl ⟨j + 1, o', v', nw', by simpa using h1, h2, by simpa using h3, h4⟩
  ·by_cases hd : o.dst = some t
   ·refine .inl ⟨0, o, v, nw, rfl, hd, rfl, ?_⟩
    rw [h2, hd]
    simp [putE, lk]
   ·refine .inr ⟨fun j o' ho => ?_, ?_⟩
    ·cases j with
     | zero => simp only [List.getElem?_cons_zero, Option.some.injEq] at ho; subst ho; exact hd
     | succ j => exact h1 j o' (by simpa using ho)
    ·rw [h2]
     cases hx : o.dst with
     | none => rfl
     | some d =>
      simp only [putE, lk]
      rw [if_neg (fun e => hd (by rw [hx, e]))]
def Inv3 (w0 : World) (E : Ctx) (N : Nat) (l : List Oper) (g : Nat) (st : St) (tr : List (D × Sto)) (G1 : Gh) (w1 : World) (c : Nat) (n0 : Nm) (ob0 ob1 : Ob) (L : Nat → Bool) (G : Gh) (w : World) (a : Act) : Prop :=
 Inv2 w0 E N l g st tr G1 w1 L (single n0 ob0) (single n0 (if L c = true then ob1 else ob0)) G w a
theorem inv3_step {w0 : World} (hA : E.A w0) {nq c : Nat} {n0 : Nm} {ob0 ob1 : Ob} (hok : regOk N l nq = true) {tr : List (D × Sto)} {env' : List (Nat × D)} (htr : WTrace E l g st.σ c n0 ob0 ob1 0 (l.take nq) st.env tr env') (hσg : ∀ i j, get st.σ ⟨g, i, j⟩ = none) (hng : n0.g ≠ g) (hnσ : get st.σ n0 = none)
  {G1 : Gh} {w1 : World} {L : Nat → Bool} {G : Gh} {w : World} {a : Act} (hI : Inv3 w0 E N l g st tr G1 w1 c n0 ob0 ob1 L G w a) {i : Nat} {o : Oper} (hi : l[i]? = some o) (hin : i < nq) (hL : L i = false) (hready : ∀ e ∈ o.after, Region.binds .any e = true → L e.on = true)
  {L' : Nat → Bool} (hL' : L' i = true) (hLo : ∀ j, j ≠ i → L' j = L j) {Q' : Exit → Act → World → Prop} {K : Act → World → Prop} (hK : ∀ G' w' a', Inv3 w0 E N l g st tr G1 w1 c n0 ob0 ob1 L' G' w' a' → K a' w') : ∀ r, wpOpIn (Fr r) 0 E.P l.toArray Q' i K a w := by
 intro rd
 simp only [regOk, Bool.and_eq_true] at hok
 obtain ⟨⟨⟨hd, hE⟩, hlk⟩, _⟩ := hok
 obtain ⟨hnd, hlt⟩ := dstsOk_spec hd
 have hlook := allIdx_spec hlk i o hi
 simp only [Nat.zero_add] at hlook
 have hq : (l.take nq)[i]? = some o := by rw [List.getElem?_take, if_pos hin]; exact hi
 obtain ⟨envi, v, nw, ht1, ht2, hstep⟩ := htr.split i o hq
 -- a temporary that the operation looks at holds what it did in the order of the text
 have hsee : ∀ t d, t ∈ looks l o → lk envi t = some d → t < a.tmps.size ∧ V G w (a.tmps.getD t undef) d := by
  intro t d ht hl
  rw [hI.size]
  rcases ht1.env t with ⟨j, o', v', nw', k1, k2, k3, k4⟩ | ⟨k1, k2⟩
  ·rw [k4] at hl
   cases hl
   have hji : j < i ∧ l[j]? = some o' := by
    rw [List.getElem?_take] at k1
    split at k1
    ·rename_i h1
     rw [List.getElem?_take] at k1
     split at k1
     ·exact ⟨h1, k1⟩
     ·cases k1
    ·cases k1
   have hb := looksOk_spec hlook ht hji.2 k2 (by omega)
   rw [if_pos hji.1] at hb
   obtain ⟨m, hm, hbit⟩ := bit_spec hb
   have hLj := anc hE hI.down i o hi hready j m hm hbit
   have k3' : tr[j]? = some (d, nw') := by
    rw [List.getElem?_take] at k3
    split at k3
    ·exact k3
    ·cases k3
   exact ⟨hlt o' (List.mem_of_getElem? hji.2) t k2, hI.new j o' t d nw' hLj hji.2 k2 k3'⟩
  ·rw [k2] at hl
   refine hI.old t d hl fun j o' hLj hj hdj => ?_
   have hji : ¬ j < i := fun h => k1 j o' (by rw [List.getElem?_take, if_pos h, List.getElem?_take, if_pos (by omega)]; exact hj) hdj
   have hne : j ≠ i := fun e => by subst e; rw [hL] at hLj; cases hLj
   have hb := looksOk_spec hlook ht hj hdj hne
   rw [if_neg hji] at hb
   obtain ⟨m, hm, hbit⟩ := bit_spec hb
   have := anc hE hI.down j o' hj (hI.down j o' hj hLj) i m hm hbit
   rw [hL] at this
   cases this
 have hdst : ∀ d, o.dst = some d → d < a.tmps.size := fun d hd' => by rw [hI.size]; exact hlt o (List.mem_of_getElem? hi) d hd'
 have hlen := htr.length
 have hilt : i < (l.take nq).length := (List.getElem?_eq_some_iff.1 hq).1
 -- names of different operations' new things are different
 have names : ∀ (j : Nat) p, tr[j]? = some p → ∀ q ∈ p.2, q.1.g = g ∧ ∃ o', l[j]? = some o' ∧ o'.dst = some q.1.i := by
  intro j p hp q hq'
  have hjl : j < (l.take nq).length := by have := (List.getElem?_eq_some_iff.1 hp).1; omega
  have hoj : (l.take nq)[j]? = some (l.take nq)[j] := List.getElem?_eq_getElem hjl
  obtain ⟨_, v', nw', _, k2, k3⟩ := htr.split j _ hoj
  rw [hp] at k2
  cases k2
  have hoj' : l[j]? = some (l.take nq)[j] := by
   rw [List.getElem?_take] at hoj
   split at hoj
   ·exact hoj
   ·cases hoj
  rcases k3 with ⟨_, ⟨_, _, k3⟩ | ⟨_, _, k3⟩⟩ | ⟨_, k3, _⟩
  ·exact ⟨(k3 q hq').1, _, hoj', (k3 q hq').2⟩
  ·simp only at hq'
   rw [k3] at hq'
   cases hq'
  ·simp only at hq'
   rw [k3] at hq'
   cases hq'
 have hdis : ∀ (j : Nat) p, tr[j]? = some p → 0 + j ≠ i → Dis (get nw) (get p.2) := by
  intro j p hp hne n
  cases h1 : get nw n with
  | none => exact .inl rfl
  | some x =>
   cases h2 : get p.2 n with
   | none => exact .inr rfl
   | some y =>
    obtain ⟨_, o1, q1, q2⟩ := names i _ ht2 (n, x) (mem_of_get h1)
    obtain ⟨_, o2, q3, q4⟩ := names j _ hp (n, y) (mem_of_get h2)
    exact absurd (nodup_dst hnd i j o1 o2 _ q1 q3 q2 q4) (by omega)
 have hput := kapp_put hL hL' hLo 0 tr (get st.σ) v nw (Nat.zero_le _) (by simpa using ht2) hdis
 obtain ⟨τ, hτ⟩ : ∃ τ : Kp, τ = single n0 (if L c = true then ob1 else ob0) := ⟨_, rfl⟩
 obtain ⟨τ', hτ'⟩ : ∃ τ' : Kp, τ' = single n0 (if L' c = true then ob1 else ob0) := ⟨_, rfl⟩
 unfold Inv3 at hI hK
 rw [← hτ] at hI
 rw [← hτ'] at hK
 -- what follows once a value is there
 have fin : ∀ G' w' x, WF w0 G' w' → V G' w' x v → Objs w0 G' w' (Kp.or (kapp L' 0 tr (get st.σ)) τ') → Step (rsv g o.dst) G w (Kp.or (kapp L 0 tr (get st.σ)) τ) G' w' (Kp.or (kapp L' 0 tr (get st.σ)) τ') → K (a.put o.dst x) w' := by
  intro G' w' x hw' hv ho hs
  have hsame : ∀ t, o.dst ≠ some t → (a.put o.dst x).tmps.getD t undef = a.tmps.getD t undef := by
   intro t ht
   cases hdo : o.dst with
   | none => rfl
   | some d =>
    simp only [Act.put, Array.getD_eq_getD_getElem?, Array.getElem?_setIfInBounds]
    rw [if_neg (fun e => ht (by rw [hdo, e]))]
  refine hK G' w' _ ⟨by rw [put_size, hI.size], by cases o.dst <;> exact hI.defers.step hs hI.wf hI.objs, hw', fun t d hl hno => ?_, fun j o' t v' nw' hLj hj hdj hp => ?_, ho, ⟨Nat.lt_of_lt_of_le hI.fresh.1 hs.top, fun j o' d hLj hj hdj q => ?_⟩, hI.step.trans (hs.weaken fun n _ hn => hn.1), fun j o' hj hLj e he hb => ?_⟩
  ·have hne : o.dst ≠ some t := hno i o hL' hi
   rw [hsame t hne]
   obtain ⟨h1, h2⟩ := hI.old t d hl fun j o' hLj hj => by
    by_cases hji : j = i
    ·subst hji; rw [hL] at hLj; cases hLj
    ·exact hno j o' (by rw [hLo j hji]; exact hLj) hj
   exact ⟨h1, h2.step hs hI.wf hI.objs⟩
  ·by_cases hji : j = i
   ·subst hji
    rw [hi] at hj
    cases hj
    rw [ht2] at hp
    cases hp
    have := hdst t hdj
    simp only [hdj, Act.put, Array.getD_eq_getD_getElem?, Array.getElem?_setIfInBounds]
    simp only [↓reduceIte, this, Option.getD_some]
    exact hv
   ·rw [hLo j hji] at hLj
    rw [hsame t fun e => hji (nodup_dst hnd j i o' o t hj hi hdj e)]
    exact (hI.new j o' t v' nw' hLj hj hdj hp).step hs hI.wf hI.objs
  ·have hji : j ≠ i := fun e => by subst e; rw [hL'] at hLj; cases hLj
   rw [hLo j hji] at hLj
   exact hs.fresh hI.fresh.1 (hI.fresh.2 j o' d hLj hj hdj q) fun ⟨_, he⟩ => hji (nodup_dst hnd j i o' o d hj hi hdj he)
  ·have keep : L e.on = true → L' e.on = true := fun h => by
    by_cases h' : e.on = i
    ·rw [h']; exact hL'
    ·rw [hLo _ h']; exact h
   by_cases hji : j = i
   ·subst hji
    rw [hi] at hj
    cases hj
    exact keep (hready e he hb)
   ·simp only at hLj
    rw [hLo j hji] at hLj
    exact keep (hI.down j o' hj hLj e he hb)
 unfold wpOpIn
 simp only [List.getElem?_toArray, hi]
 rcases hstep with ⟨hic, ⟨hw, hqop, _⟩ | ⟨hw, rfl, rfl⟩⟩ | ⟨hic, rfl, hgd, htop⟩
 ·have hττ : τ' = τ := by rw [hτ, hτ', hLo c (fun e => hic (by omega))]
  rw [hττ] at fin
  rw [if_pos (wanted_of hw hsee)]
  have hold : ∀ n x, get st.σ n = some x → kapp L 0 tr (get st.σ) n = some x := by
   intro n x hn
   rw [kapp_old 0 tr _ fun p hp => ?_]
   ·exact hn
   ·cases hg : get p.2 n with
    | none => rfl
    | some y =>
     obtain ⟨j, hj⟩ := List.mem_iff_getElem?.1 hp
     have := (names j p hj (n, y) (mem_of_get hg)).1
     obtain ⟨ng, ni, nj⟩ := n
     have this' : ng = g := this
     subst this'
     rw [hσg] at hn
     cases hn
  have hold2 : ∀ n x, get st.σ n = some x → Kp.or (kapp L 0 tr (get st.σ)) τ n = some x := fun n x hn => by simp [Kp.or, hold n x hn]
  refine hqop w0 hA G w a hI.wf (fun x hx => ?_) (hI.objs.sub hold2) (fun d hd' => ⟨hI.fresh.1, fun j => hI.fresh.2 i o d hL hi hd' j⟩) K Q' (fun G' w' x hw' hv ho hs => ?_) rd
  ·cases x with
   | tmp t =>
    simp only [Act.eval, Ab.ev]
    cases hl : lk envi t with
    | none => exact .any _
    | some d => exact (hsee t d (by unfold looks; exact List.mem_append_left _ (List.mem_filterMap.2 ⟨.tmp t, by simpa using hx, rfl⟩)) hl).2
   | const v => exact V.ofV G w v
   | global g => exact E.hglob w0 hA G w hI.wf g
   | func f => exact .func rfl rfl (by simp) (by simp)
  ·obtain ⟨f1, f2⟩ := frame (κs := get st.σ) (τ := fun n => if get st.σ n = none then Kp.or (kapp L 0 tr (get st.σ)) τ n else none) hI.wf hI.objs hold2 (fun n x hn => by
    split at hn
    ·rename_i h0; exact ⟨hn, h0⟩
    ·cases hn) hs ho
   have he : Kp.or (Kp.or (get nw) (get st.σ)) (fun n => if get st.σ n = none then Kp.or (kapp L 0 tr (get st.σ)) τ n else none) = Kp.or (kapp L' 0 tr (get st.σ)) τ := by
    rw [hput]
    funext n
    simp only [Kp.or]
    cases h1 : get nw n with
    | some y => simp
    | none =>
     simp only [Option.none_or]
     cases h2 : get st.σ n with
     | none => simp
     | some y => simp [hold n y h2]
   rw [he] at f1 f2
   exact fin G' w' x hw' hv f1 f2
 ·have hττ : τ' = τ := by rw [hτ, hτ', hLo c (fun e => hic (by omega))]
  rw [hττ] at fin
  rw [wanted_of hw hsee, if_neg (by simp)]
  refine ⟨fun f _ => fr_fn rd f, ?_⟩
  have he : kapp L' 0 tr (get st.σ) = kapp L 0 tr (get st.σ) := by
   rw [hput]
   funext n
   simp [Kp.or, get]
  exact fin G w undef hI.wf (.val _) (by rw [he]; exact hI.objs) (by rw [he]; exact .refl _ _ _ _)
 ·have hci : i = c := by omega
  subst hci
  have hττ : τ = single n0 ob0 := by rw [hτ, hL]; rfl
  have hττ' : τ' = single n0 ob1 := by rw [hτ', hL']; rfl
  rw [hττ, hττ'] at fin
  rw [hττ] at hI
  have hsame : kapp L' 0 tr (get st.σ) = kapp L 0 tr (get st.σ) := by
   rw [hput]
   funext m
   simp [Kp.or, get]
  rw [hsame] at fin
  have hnk : kapp L 0 tr (get st.σ) n0 = none := by
   rw [kapp_old 0 tr _ fun p hp => ?_]
   ·exact hnσ
   ·obtain ⟨j, hj⟩ := List.mem_iff_getElem?.1 hp
    cases hgp : get p.2 n0 with
    | none => rfl
    | some y => exact absurd (names j p hj (n0, y) (mem_of_get hgp)).1 hng
  rw [if_pos (by simp [Region.wanted, hgd])]
  have hdis0 : Dis (kapp L 0 tr (get st.σ)) (single n0 ob0) := fun m => by
   by_cases hm : n0 = m
   ·subst hm; exact .inl hnk
   ·exact .inr (by simp [single, hm])
  have hdis1 : Dis (kapp L 0 tr (get st.σ)) (single n0 ob1) := fun m => by
   by_cases hm : n0 = m
   ·subst hm; exact .inl hnk
   ·exact .inr (by simp [single, hm])
  have hsub : ∀ m x, single n0 ob0 m = some x → Kp.or (kapp L 0 tr (get st.σ)) (single n0 ob0) m = some x := fun m x hm => by
   rw [or_swap hdis0]
   simp [Kp.or, hm]
  refine htop w0 hA G w a hI.wf (fun x hx => ?_) (hI.objs.sub hsub) (fun d hd' => ⟨hI.fresh.1, fun j => hI.fresh.2 i o d hL hi hd' j⟩) K Q' (fun G' w' x hw' hv ho hs => ?_) rd
  ·cases x with
   | tmp t =>
    simp only [Act.eval, Ab.ev]
    cases hl : lk envi t with
    | none => exact .any _
    | some d => exact (hsee t d (by unfold looks; exact List.mem_append_left _ (List.mem_filterMap.2 ⟨.tmp t, by simpa using hx, rfl⟩)) hl).2
   | const v => exact V.ofV G w v
   | global g => exact E.hglob w0 hA G w hI.wf g
   | func f => exact .func rfl rfl (by simp) (by simp)
  ·obtain ⟨f1, f2⟩ := frame (κs := single n0 ob0) (τ := kapp L 0 tr (get st.σ)) hI.wf hI.objs hsub (fun m x hm => ⟨by simp [Kp.or, hm], by
     by_cases he : n0 = m
     ·subst he; rw [hnk] at hm; cases hm
     ·simp [single, he]⟩) hs ho
   have he1 : Kp.or (single n0 ob1) (kapp L 0 tr (get st.σ)) = Kp.or (kapp L 0 tr (get st.σ)) (single n0 ob1) := by rw [or_swap hdis1]
   rw [he1] at f1 f2
   exact fin G' w' x hw' hv f1 f2
theorem any_of_inv3 {rd : Option Nat} {w0 : World} (hA : E.A w0) {nq c : Nat} {n0 : Nm} {ob0 ob1 : Ob} (hnq : nq ≤ l.length) (hok : regOk N l nq = true) {tr : List (D × Sto)} {env' : List (Nat × D)} (htr : WTrace E l g st.σ c n0 ob0 ob1 0 (l.take nq) st.env tr env') (hσg : ∀ i j, get st.σ ⟨g, i, j⟩ = none) (hng : n0.g ≠ g) (hnσ : get st.σ n0 = none)
  {G1 : Gh} {w1 : World} {Q' : Exit → Act → World → Prop} (hend : ∀ L G w a, (∀ j, j < nq → L j = true) → (∀ j, nq ≤ j → L j = false) → Inv3 w0 E N l g st tr G1 w1 c n0 ob0 ob1 L G w a → wpListIn (Fr rd) 0 E.P l.toArray Q' (l.drop nq) a w) :
  ∀ (fuel : Nat) (A : Array Bool) (G : Gh) (w : World) (a : Act), A.size = l.length → left A l.length = fuel → (∀ j, nq ≤ j → j < l.length → A.getD j true = false) → Inv3 w0 E N l g st tr G1 w1 c n0 ob0 ob1 (fun j => A.getD j false) G w a →
   wpAnyIn (Fr rd) 0 E.P .any l.toArray Q' fuel A a w := by
 have hok' := hok
 simp only [regOk, Bool.and_eq_true] at hok'
 obtain ⟨⟨⟨_, hE⟩, _⟩, htail⟩ := hok'
 have same : ∀ (A : Array Bool) (j : Nat), A.size = l.length → j < l.length → A.getD j true = A.getD j false := fun A j h1 h2 => by
  simp [show j < A.size by omega]
 intro fuel
 induction fuel with
 | zero =>
  intro A G w a hsz hlf hT hI
  have hall := left_zero hlf
  have hn : nq = l.length := by
   refine Nat.le_antisymm hnq (Nat.le_of_not_lt fun hlt => ?_)
   have h1 := hall nq hlt
   rw [hT nq (Nat.le_refl _) hlt] at h1
   cases h1
  refine any_of_list hE htail 0 l.length A a w hsz hnq (by omega) (fun j hj => by rw [hall j hj]; simp [hj]) ?_
  rw [← hn]
  refine hend _ G w a (fun j hj => by rw [← same A j hsz (by omega)]; exact hall j (by omega)) (fun j hj => ?_) hI
  simp [Array.getElem?_eq_none (show A.size ≤ j by omega)]
 | succ fuel ih =>
  intro A G w a hsz hlf hT hI
  by_cases hQ : left A nq = 0
  ·have hall := left_zero hQ
   have hcount : left A l.length = l.length - nq := by
    have : ∀ m, nq ≤ m → m ≤ l.length → left A m = m - nq := by
     intro m
     induction m with
     | zero => intro h1 _; rw [Nat.le_zero.1 h1] at hQ; simp [left]
     | succ m ihm =>
      intro h1 h2
      by_cases h3 : nq = m + 1
      ·rw [← h3, hQ]; omega
      ·rw [left_succ, ihm (by omega) (by omega), hT m (by omega) (by omega)]
       simp
       omega
    exact this _ hnq (Nat.le_refl _)
   refine any_of_list hE htail (fuel + 1) nq A a w hsz (Nat.le_refl _) (by omega) (fun j hj => ?_) ?_
   ·by_cases h : j < nq
    ·rw [hall j h]; simp [h]
    ·rw [hT j (by omega) hj]; simp [h]
   ·refine hend _ G w a (fun j hj => by rw [← same A j hsz (by omega)]; exact hall j hj) (fun j hj => ?_) hI
    by_cases h : j < l.length
    ·rw [← same A j hsz h]; exact hT j hj h
    ·simp [Array.getElem?_eq_none (show A.size ≤ j by omega)]
  ·obtain ⟨q, hq1, hq2, hq3⟩ := left_pos hQ
   have hoq : l[q]? = some l[q] := List.getElem?_eq_getElem (by omega)
   have hqr : q ∈ Region.ready .any l.toArray A := by
    refine mem_ready.2 ⟨hq2, l[q], by simp, fun e he hb => ?_⟩
    have := edgesOk_spec 0 l hE q _ hoq e he hb
    rw [← same A e.on hsz (by omega)]
    exact hq3 e.on (by omega)
   refine ⟨fun h0 => (by rw [h0] at hqr; cases hqr), fun i hi => ?_⟩
   obtain ⟨h1, o, h2, h3⟩ := mem_ready.1 hi
   simp only [List.getElem?_toArray] at h2
   have hil := (List.getElem?_eq_some_iff.1 h2).1
   have hin : i < nq := by
    refine Nat.lt_of_not_le fun hge => ?_
    have ht := allIdx_spec htail i o h2
    simp only [Nat.zero_add, Bool.or_eq_true, decide_eq_true_eq, List.all_eq_true] at ht
    have hb := (ht.resolve_left (by omega)) q (List.mem_range.2 (by omega))
    obtain ⟨m, hm, hbit⟩ := bit_spec hb
    have := anc hE hI.down i o h2 h3 q m hm hbit
    rw [← same A q hsz (by omega), hq2] at this
    cases this
   refine inv3_step hA hok htr hσg hng hnσ hI h2 hin (by rw [← same A i hsz hil]; exact h1) h3 (L' := fun j => (A.setIfInBounds i true).getD j false) (by simp [show i < A.size by omega]) (fun j hj => getD_set_ne false (Ne.symm hj)) (fun G' w' a' hI' => ?_) rd
   refine ih (A.setIfInBounds i true) G' w' a' (by simpa using hsz) ?_ (fun j hj1 hj2 => by rw [getD_set_ne true (by omega)]; exact hT j hj1 hj2) hI'
   have := left_set A h1 l.length
   rw [if_pos hil] at this
   omega
theorem awp_mid {Q : Exit → St → Prop} {id : Nat} {ds : List (Option Tmp)} (nq c : Nat) (n0 : Nm) (ob1 : Ob) (hnq : decide (nq ≤ l.length) = true) (hc : decide (c < nq) = true) (hok : regOk N l nq = true) (hds : l.map (·.dst) = ds)
  (h : SomeP (get st.σ n0) fun ob0 => ∀ g, (∀ i j, get st.σ ⟨g, i, j⟩ = none) → ∀ (ops : List Oper) (K : St → Prop), ops.map (·.dst) = ds → (∀ s, Q .normal s → K s) →
   WRun E ops g (del st.σ n0) c n0 ob0 ob1 0 (fun s => AOps E N ops g K (l.drop nq) { env := s.env, σ := (n0, ob1) :: s.σ }) (l.take nq) { env := st.env, σ := del st.σ n0 }) : AWp E N (.region id l.toArray true) Q st := by
 have hnq : nq ≤ l.length := by simpa using hnq
 have hc : c < nq := by simpa using hc
 obtain ⟨ob0, hn, h⟩ := h.elim
 intro w0 hA G w a hN hr rd hrd
 obtain ⟨G1, ht, hf, hσ, hr1, hs1⟩ := bump hr
 have hok' := hok
 simp only [regOk, Bool.and_eq_true] at hok'
 obtain ⟨hnd, hlt⟩ := dstsOk_spec hok'.1.1.1
 obtain ⟨tr, env', htr, hK⟩ := h G.top hσ l (fun s => Q .normal s) hds (fun _ h => h)
 have hng : n0.g ≠ G.top := fun e => by
  obtain ⟨ng, ni, nj⟩ := n0
  simp only at e
  subst e
  rw [hσ] at hn
  cases hn
 have hnσ : get (del st.σ n0) n0 = none := by rw [get_del]; simp
 have hσg : ∀ i j, get (del st.σ n0) ⟨G.top, i, j⟩ = none := fun i j => by
  rw [get_del]
  split
  ·rfl
  ·exact hσ i j
 have hsplit : ∀ κ : Kp, κ = get (del st.σ n0) → Kp.or κ (single n0 ob0) = get st.σ := fun κ hκ => by
  subst hκ
  funext m
  simp only [Kp.or, get_del, single]
  by_cases hm : n0 = m
  ·subst hm; simp [hn]
  ·simp [hm]
 refine wpIn_region_any E.mixed ?_
 have hV : ∀ v d, V G1 w v d → V G1 { w with drawn := w.drawn + 1 } v d := fun v d h => h.mono (fun _ h => h) (fun _ _ => rfl) (fun _ _ h => h)
 have hno : ∀ j, (Array.replicate l.length false).getD j false = false := fun j => by
  by_cases hj : j < l.length
  ·simp [hj]
  ·simp [Array.getElem?_eq_none (show (Array.replicate l.length false).size ≤ j by simp; omega)]
 have hI0 : Inv3 w0 E N l G.top { env := st.env, σ := del st.σ n0 } tr G1 { w with drawn := w.drawn + 1 } c n0 ob0 ob1 (fun j => (Array.replicate l.length false).getD j false) G1 { w with drawn := w.drawn + 1 } a := by
  have hk0 : kapp (fun j => (Array.replicate l.length false).getD j false) 0 tr (get (del st.σ n0)) = get (del st.σ n0) := kapp_none 0 tr _ hno
  unfold Inv3
  simp only [hno]
  have hno' := hno
  refine ⟨hN, hr1.defers, ⟨hr1.wf.below.draw, hr1.wf.old, hr1.wf.lt, hr1.wf.nm⟩, fun t d hl _ => ⟨by rw [← hN]; exact (hr1.env t d hl).1, hV _ _ (hr1.env t d hl).2⟩, fun j o t v nw hL => ?_, ?_, ⟨by omega, fun j o d _ _ _ q => hf d q⟩, ?_, fun i o _ hL => ?_⟩
  ·cases hL
  ·simp only [hno] at hk0 ⊢
   rw [hk0]
   simp only [Bool.false_eq_true, if_false]
   rw [hsplit _ rfl]
   exact ⟨fun n o hn => let ⟨v, h1, h2, h3⟩ := hr1.objs.ob n o hn; ⟨v, h1, h2.mono hV fun _ _ => rfl, h3⟩, hr1.objs.ne⟩
  ·simp only [hno] at hk0 ⊢
   rw [hk0]
   simp only [Bool.false_eq_true, if_false]
   exact .refl _ _ _ _
  ·cases hL
 have hlen := htr.length
 refine any_of_inv3 (st := { env := st.env, σ := del st.σ n0 }) hA hnq hok htr hσg hng hnσ (fun L G' w' a' hL1 hL2 hI => ?_) l.toArray.size (Array.replicate l.toArray.size false) G1 _ a (by simp) (by simp only [List.size_toArray]; exact left_full _ _ (Nat.le_refl _)) (fun j h1 h2 => by simp [h2]) (by simpa using hI0)
 have hkall : kapp L 0 tr (get (del st.σ n0)) = get (accN tr (del st.σ n0)) := kapp_all 0 tr _ fun j _ hj => hL1 j (by rw [hlen, List.length_take] at hj; omega)
 have hnacc : get (accN tr (del st.σ n0)) n0 = none := by
  rw [← hkall]
  rw [kapp_old 0 tr _ fun p hp => ?_]
  ·exact hnσ
  ·obtain ⟨j, hj⟩ := List.mem_iff_getElem?.1 hp
   cases hgp : get p.2 n0 with
   | none => rfl
   | some y =>
    have hjl : j < (l.take nq).length := by have := (List.getElem?_eq_some_iff.1 hj).1; omega
    obtain ⟨_, v', nw', _, k2, k3⟩ := htr.split j _ (List.getElem?_eq_getElem hjl)
    rw [hj] at k2
    cases k2
    rcases k3 with ⟨_, ⟨_, _, k3⟩ | ⟨_, _, k3⟩⟩ | ⟨_, k3, _⟩
    ·exact absurd (k3 (n0, y) (mem_of_get hgp)).1 hng
    ·simp only at hgp
     rw [k3] at hgp
     cases hgp
    ·simp only at hgp
     rw [k3] at hgp
     cases hgp
 have hor : Kp.or (get (accN tr (del st.σ n0))) (single n0 ob1) = get ((n0, ob1) :: accN tr (del st.σ n0)) := by
  funext m
  simp only [Kp.or, single, get]
  by_cases hm : n0 = m
  ·subst hm; simp [hnacc]
  ·simp [hm]
 unfold Inv3 at hI
 rw [hL1 c hc] at hI
 simp only [if_true] at hI
 have hobj := hI.objs
 have hstep := hI.step
 simp only at hobj hstep
 rw [hkall, hor] at hobj hstep
 rw [hsplit _ rfl] at hstep
 have hrel : Rel w0 G' w' a' ⟨env', (n0, ob1) :: accN tr (del st.σ n0)⟩ := by
  refine ⟨hI.wf, fun t d hl => ?_, hobj, hI.defers⟩
  rw [hI.size]
  have get_take : ∀ (j : Nat) o, (l.take nq)[j]? = some o → j < nq ∧ l[j]? = some o := fun j o h => by
   rw [List.getElem?_take] at h
   split at h
   ·rename_i hj; exact ⟨hj, h⟩
   ·cases h
  rcases htr.env t with ⟨j, o, v, nw, k1, k2, k3, k4⟩ | ⟨k1, k2⟩
  ·simp only at hl
   rw [k4] at hl
   cases hl
   obtain ⟨hj, hjo⟩ := get_take j o k1
   exact ⟨hlt o (List.mem_of_getElem? hjo) t k2, hI.new j o t d nw (hL1 j hj) hjo k2 k3⟩
  ·simp only at hl
   rw [k2] at hl
   refine hI.old t d hl fun j o hLj hj => ?_
   by_cases hjn : j < nq
   ·exact k1 j o (by rw [List.getElem?_take, if_pos hjn]; exact hj)
   ·rw [hL2 j (by omega)] at hLj; cases hLj
 refine hK w0 hA G' w' a' hI.size hrel hI.fresh.1 ?_ (fun o ho d hd => ?_) _ (fun G2 st2 a2 w2 q1 q2 q3 q4 => ⟨G2, st2, q1, q2, ?_, q4⟩) rd
 ·exact hnd.sublist ((List.drop_sublist nq l).filterMap _)
 ·obtain ⟨j, hj⟩ := List.mem_iff_getElem?.1 ho
  rw [List.getElem?_drop] at hj
  exact ⟨hlt o (List.mem_of_getElem? hj) d hd, hI.fresh.2 (nq + j) o d (hL2 _ (by omega)) hj hd⟩
 ·have hs2 : Step (fun n => n.g = G.top) G w (get st.σ) G1 { w with drawn := w.drawn + 1 } (get st.σ) :=
   ⟨Nat.le_refl _, fun _ _ _ => rfl, hs1.F, hs1.F', hs1.ρ, fun n h1 h2 _ => hs1.ρ' n h1 h2 fun h => h, hs1.top, hs1.blk', hs1.dom, hs1.base⟩
  exact ((hs2.trans hstep).trans q3).weaken fun n hn he => by omega
theorem awp_mid' {Q : Exit → St → Prop} {id : Nat} {ds : List (Option Tmp)} (nq c : Nat) (n0 : Nm) (ob0 ob1 : Ob) (hn : get st.σ n0 = some ob0) (hnq : decide (nq ≤ l.length) = true) (hc : decide (c < nq) = true) (hok : regOk N l nq = true) (hds : l.map (·.dst) = ds)
  (h : ∀ g, (∀ i j, get st.σ ⟨g, i, j⟩ = none) → ∀ (ops : List Oper) (K : St → Prop), ops.map (·.dst) = ds → (∀ s, Q .normal s → K s) →
   WRun E ops g (del st.σ n0) c n0 ob0 ob1 0 (fun s => AOps E N ops g K (l.drop nq) { env := s.env, σ := (n0, ob1) :: s.σ }) (l.take nq) { env := st.env, σ := del st.σ n0 }) : AWp E N (.region id l.toArray true) Q st :=
 awp_mid nq c n0 ob1 hnq hc hok hds (by rw [hn]; exact h)
variable {K : St → Prop} {ds : List (Option Tmp)} {i : Nat} {st' : St}
theorem wrun_nil (h : K st) : WRun E ops g σ0 c n0 ob0 ob1 i K [] st := ⟨[], st.env, .nil, h⟩
theorem wrun_cons {o : Oper} {r : List Oper} {v : D} {nw : Sto} (hs : WStep E ops g σ0 c n0 ob0 ob1 i o st.env v nw) (h : WRun E ops g σ0 c n0 ob0 ob1 (i + 1) K r { env := putE st.env o.dst v, σ := nw ++ st.σ }) : WRun E ops g σ0 c n0 ob0 ob1 i K (o :: r) st :=
 let ⟨tr, env', h1, h2⟩ := h
 ⟨(v, nw) :: tr, env', .cons hs h1, h2⟩
theorem wrun_step {o : Oper} {r : List Oper} (hic : i ≠ c) (hds : ops.map (·.dst) = ds) (h : stepQ E ds g σ0 o st = some st') (k : WRun E ops g σ0 c n0 ob0 ob1 (i + 1) K r st') : WRun E ops g σ0 c n0 ob0 ob1 i K (o :: r) st := by
 unfold stepQ at h
 rw [wantL_eq hds] at h
 split at h
 ·rename_i hw
  simp only [Option.map_eq_some_iff] at h
  obtain ⟨⟨v, nw⟩, hp, rfl⟩ := h
  exact wrun_cons (.inl ⟨hic, .inl ⟨hw, dop_sound hp, dop_names hp⟩⟩) k
 ·rename_i hw
  cases h
  exact wrun_cons (nw := []) (.inl ⟨hic, .inr ⟨hw, rfl, rfl⟩⟩) k
 ·cases h
theorem wrun_run (n : Nat) (hds : ops.map (·.dst) = ds) : ∀ {i : Nat} {l l' : List Oper} {st st' : St}, (i + n ≤ c ∨ c < i) → qrun E ds g σ0 n l st = some (l', st') → n ≤ l.length → WRun E ops g σ0 c n0 ob0 ob1 (i + n) K l' st' → WRun E ops g σ0 c n0 ob0 ob1 i K l st := by
 induction n with
 | zero =>
  intro i l l' st st' _ h _ k
  simp only [qrun, Option.some.injEq, Prod.mk.injEq] at h
  obtain ⟨rfl, rfl⟩ := h
  exact k
 | succ n ih =>
  intro i l l' st st' hc h hl k
  cases l with
  | nil => simp at hl
  | cons o r =>
   simp only [qrun] at h
   split at h
   ·rename_i s hs
    exact wrun_step (by omega) hds hs (ih (by omega) h (by simpa using hl) (by rw [show i + 1 + n = i + (n + 1) by omega]; exact k))
   ·cases h
theorem wrun_eval (n : Nat) {l : List Oper} (hds : ops.map (·.dst) = ds) (hl : decide (n ≤ l.length) = true) (hc : (decide (i + n ≤ c) || decide (c < i)) = true) (h : SomeP (qrun E ds g σ0 n l st) fun r => WRun E ops g σ0 c n0 ob0 ob1 (i + n) K r.1 r.2) : WRun E ops g σ0 c n0 ob0 ob1 i K l st := by
 obtain ⟨⟨l', st'⟩, h1, h2⟩ := h.elim
 exact wrun_run n hds (by simpa using hc) h1 (by simpa using hl) h2
theorem wrun_last (n : Nat) {l : List Oper} (hds : ops.map (·.dst) = ds) (hl : decide (n ≤ l.length) = true) (hc : (decide (i + n ≤ c) || decide (c < i)) = true) (h : SomeP (qrun E ds g σ0 n l st) fun r => r.1 = [] ∧ K r.2) : WRun E ops g σ0 c n0 ob0 ob1 i K l st := by
 obtain ⟨⟨l', st'⟩, h1, h2, h3⟩ := h.elim
 simp only at h2
 subst h2
 exact wrun_run n hds (by simpa using hc) h1 (by simpa using hl) (wrun_nil h3)
theorem wrun_pure {o : Oper} {r : List Oper} {f : FuncId} {args args' : List D} {nw : Sto} {d : Nat} {x : D} (hic : decide (i ≠ c) = true) (hds : ops.map (·.dst) = ds) (hw : wantL ds st.env o.guard = some true) (hd : o.dst = some d) (hc : calleeD o (ev E st.env) = some (f, args)) (h : ACalls E f args' [] g d x nw) (hco : CoL args args')
  (hnw : nwOk g (some d) nw = true) (k : WRun E ops g σ0 c n0 ob0 ob1 (i + 1) K r { env := (d, x) :: st.env, σ := nw ++ st.σ }) : WRun E ops g σ0 c n0 ob0 ob1 i K (o :: r) st := by
 refine wrun_cons (v := x) (nw := nw) (.inl ⟨by simpa using hic, .inl ⟨by rw [← wantL_eq hds]; exact hw, Ab.qop_call (σs := []) hc hco hd (by simpa using h) (fun p hp => nomatch hp), by rw [hd]; exact nwOk_spec hnw⟩⟩) ?_
 rw [hd]
 exact k
theorem wrun_obj {o : Oper} {r : List Oper} {f : FuncId} {args args' : List D} {d : Nat} {x : D} (hic : decide (i = c) = true) (hgd : o.guard = none) (hd : o.dst = some d) (hc : calleeD o (ev E st.env) = some (f, args)) (h : ACalls E f args' [(n0, ob0)] g d x [(n0, ob1)]) (hco : CoL args args')
  (k : WRun E ops g σ0 c n0 ob0 ob1 (i + 1) K r { env := (d, x) :: st.env, σ := st.σ }) : WRun E ops g σ0 c n0 ob0 ob1 i K (o :: r) st := by
 have ht := top_call (E := E) (σ := [(n0, ob0)]) hc hco hd h (fun p hp => by
  simp only [List.mem_singleton] at hp
  subst hp
  simp [get])
 have e1 : get [(n0, ob0)] = single n0 ob0 := by funext m; simp [get, single]
 have e2 : get ([(n0, ob1)] ++ dels [(n0, ob0)] ([(n0, ob0)].map (·.1))) = single n0 ob1 := by
  funext m
  rw [get_append]
  simp only [Kp.or, get_dels, get, single, List.map_cons, List.map_nil, List.mem_singleton]
  by_cases hm : n0 = m
  ·subst hm; simp
  ·simp [hm]
 rw [e1, e2] at ht
 refine wrun_cons (v := x) (nw := []) (.inr ⟨by simpa using hic, rfl, hgd, ht⟩) ?_
 rw [hd]
 exact k
end
end Go.Ab
namespace Go.Proofs.T
open Go Go.Ab Go.RowKit
noncomputable def exE (sc : Sc) (e : Ex) : List Ed := visE sc e.type ++ if e.kind = 2 then argsE sc e.targs true e.name 0 else []
noncomputable def dsE (d : Dec) : List Ed :=
 (d.formals.flatMap fun f => visE (fmS [] false d.name d.formals) f.bound) ++ (d.fields.flatMap fun f => visE (fmS [] false d.name d.formals) f.type) ++
  d.sigs.flatMap fun x => siE (fmS (fmS [] false d.name d.formals) true x.name x.formals) x
noncomputable def dmS (d : Dec) : Sc := fmS (putS2 [] false d.name d.vars) true d.sig.name d.sig.formals
noncomputable def dmE (d : Dec) : List Ed := siE (dmS d) d.sig ++ (nodesEx d.body).flatMap (exE (dmS d))
noncomputable def deE (d : Dec) : List Ed := if d.kind = 3 then dmE d else dsE d
theorem smNodes : ∀ e : Ex, smEx e → ∀ x ∈ nodesEx e, smEx x := by
 refine Ex.ind fun e ih he x hx => ?_
 rw [nodesEx_eq] at hx
 rcases List.mem_cons.1 hx with rfl | hx
 ·exact he
 ·rw [nodesExs_flat] at hx
  obtain ⟨y, hy, hx⟩ := List.mem_flatMap.1 hx
  exact ih y hy (((smEx_iff e).1 he).2.2.2.2 y hy) x hx
abbrev dS (g0 q c : Nat) (d : Dec) (R : List Ed) : Sto := [(⟨g0, 2, 0⟩, .box 105 [.mref ⟨q, c, 0⟩]), (⟨g0, 3, 0⟩, .box 71 (deC d)), (⟨q, c, 0⟩, .map ksE (edE R))]
abbrev bS (a b q c : Nat) (S : Sc) (R : List Ed) : Sto := [(⟨a, 2, 0⟩, .box 105 [.mref ⟨q, c, 0⟩]), (⟨b, 8, 0⟩, .box 151 [.fmap ksN (scE S)]), (⟨q, c, 0⟩, .map ksE (edE R))]
set_option maxRecDepth 100000 in
theorem gDecl_calls (q c : Nat) (d : Dec) (hd : smDe d) (R : List Ed) (g r : Nat) :
  ACalls E 55 [.mref ⟨q, c, 0⟩, encDe d] [(⟨q, c, 0⟩, .map ksE (edE R))] g r (.tup []) [(⟨q, c, 0⟩, .map ksE (edE ((deE d).foldl addE R)))] := by
 obtain ⟨k1, ⟨k2, k3⟩, ⟨k4, k5⟩, ⟨k6, k7⟩, k8, ⟨k9, k10⟩, k11, k12⟩ := hd
 by_cases h3 : d.kind = 3
 ·unfold deE
  rw [if_pos h3]
  unfold dmE
  rw [List.foldl_append]
  have hp := fun g r => putNil_calls false d.name d.vars k9 g r
  have hq := fun g r R => gSig_calls (putS2 [] false d.name d.vars) q c d.sig k11 R g r
  unfold dmS
  generalize putS2 [] false d.name d.vars = S1 at hp hq ⊢
  generalize fmS S1 true d.sig.name d.sig.formals = S at hq ⊢
  refine acalls_of_awp (fn := Tryz.f55) (N := 71) Tryz.call55 Tryz.func55 rfl rfl (by simp) ?_
  simp only [go_sem]
  refine awp_seq_k (fun K1 hK1 => ?_)
  refine awp_plain 2 (by kernel_rfl) rfl (fun g0 hg0 => ?_)
  simp only [go_sem]
  refine hK1 _ ?_
  refine awp_seq_k (fun K2 hK2 => ?_)
  have hn0_q : g0 ≠ q := fresh_g hg0 c 0 (by simp [go_sem])
  refine awp_plain 1 (by kernel_rfl) rfl (fun g1 hg1 => ?_)
  simp only [go_sem, List.nil_append]
  refine hK2 _ ?_
  refine awp_seq_k (fun K3 hK3 => ?_)
  refine awp_seq_k (fun K4 hK4 => ?_)
  refine awp_plain 3 (by kernel_rfl) rfl (fun g2 hg2 => ?_)
  simp only [go_sem, h3, decide_true, Bool.not_true, Ne.symm hn0_q, List.nil_append]
  refine hK4 _ ?_
  refine awp_f rfl ?_
  refine awp_skip ?_
  refine hK3 _ ?_
  refine awp_seq_k (fun K5 hK5 => ?_)
  refine awp_mid' 11 9 ⟨q, c, 0⟩ (.map ksE (edE R)) (.map ksE (edE ((siE S d.sig).foldl addE R))) (by simp [go_sem, hn0_q]) (by kernel_rfl) (by kernel_rfl) (by kernel_rfl) rfl (fun g11 hg11 ops11 KR11 hops11 hKR11 => ?_)
  have h10 : g11 ≠ g0 := fresh_g hg11 3 0 (by simp [go_sem])
  have h1q : g11 ≠ q := fresh_g hg11 c 0 (by simp [go_sem, hn0_q])
  refine wrun_eval 6 hops11 rfl rfl ?_
  simp only [go_sem, hn0_q, List.nil_append]
  refine wrun_pure rfl hops11 rfl rfl rfl (hp _ _) (CoL.refl _) (by simp [nwOk]) ?_
  refine wrun_eval 2 hops11 rfl rfl ?_
  simp only [go_sem, List.nil_append]
  refine wrun_obj rfl rfl rfl rfl (hq _ _ R) (CoL.refl _) ?_
  refine wrun_last 1 hops11 rfl rfl ?_
  simp only [go_sem, List.cons_append, List.nil_append]
  refine aops_last 1 hops11 ?_
  simp only [go_sem, List.cons_append, List.nil_append, Ne.symm h10, Ne.symm h1q]
  refine hKR11 _ ?_
  refine hK5 _ ?_
  refine awp_seq_k (fun K6 hK6 => ?_)
  generalize (siE S d.sig).foldl addE R = R1 at *
  generalize d.body = e at *
  have hes := smNodes e k12
  refine awp_ops (by kernel_rfl) rfl (fun g12 hg12 ops12 KR12 hops12 hKR12 => ?_)
  refine aops_eval 2 hops12 ?_
  simp only [go_sem, Ne.symm hn0_q, List.nil_append, h10]
  refine aops_pure hops12 rfl rfl rfl (allX_calls e _ _) (.cons (Co.of_eq (by rw [encEx_agg]; rfl)) .nil) ?_
  refine aops_last 0 hops12 ?_
  simp only [go_sem, exC, List.nil_append]
  refine hKR12 _ ?_
  refine hK6 _ ?_
  refine awp_block ?_
  refine awp_range_k rfl rfl (by decide) ((nodesEx e).map encEx) (fun k σ => ∀ n o, Ab.get (bS g0 g11 q c S ((((nodesEx e).take k).flatMap (exE S)).foldl addE R1)) n = some o → Ab.get σ n = some o) (subT_of ?_) (fun n I hY => all1_calls e (smEx.ok _ k12) n I hY) (fun k hk σ hσ KA hKA => ?_) (fun σ hσ => ?_)
  ·simp only [go_sem, List.take_zero, List.flatMap_nil, List.foldl_nil, hn0_q, Ne.symm hn0_q, h10, h1q, Ne.symm h10, Ne.symm h1q]
   try trivial
  ·have hk' : k < (nodesEx e).length := by simpa using hk
   have hn1 : (((nodesEx e).take (k + 1)).flatMap (exE S)).foldl addE R1 = (exE S (nodesEx e)[k]).foldl addE ((((nodesEx e).take k).flatMap (exE S)).foldl addE R1) := by
    rw [flatTake _ hk', List.foldl_append]
   have hsm := (smEx_iff _).1 (hes _ (List.getElem_mem hk'))
   rw [hn1] at hKA
   refine awp_keepT (st' := { env := [(55, encEx (nodesEx e)[k]), (2, .ptr ⟨g0, 2, 0⟩ 0), (8, .ptr ⟨g11, 8, 0⟩ 0)], σ := bS g0 g11 q c S ((((nodesEx e).take k).flatMap (exE S)).foldl addE R1) }) ⟨leE_spec ?_, hσ⟩ ?_
   ·simp only [go_sem, List.getElem_map]
    try trivial
   generalize (nodesEx e)[k] = X at *
   generalize (((nodesEx e).take k).flatMap (exE S)).foldl addE R1 = R2 at *
   refine awp_plain 2 (by kernel_rfl) rfl (fun g13 hg13 => ?_)
   simp only [go_sem, bS, List.cons_append, List.nil_append]
   refine hKA _ (fun KB hKB => ?_)
   refine awp_block ?_
   refine awp_seq_k (fun K7 hK7 => ?_)
   have h130 : g13 ≠ g0 := fresh_g hg13 2 0 (by simp [go_sem])
   have h13b : g13 ≠ g11 := fresh_g hg13 8 0 (by simp [go_sem, Ne.symm h10])
   have h13q : g13 ≠ q := fresh_g hg13 c 0 (by simp [go_sem, hn0_q, h1q])
   refine awp_ops (by kernel_rfl) rfl (fun g14 hg14 ops14 KR14 hops14 hKR14 => ?_)
   refine aops_eval 4 hops14 ?_
   simp only [go_sem, Ne.symm hn0_q, List.nil_append, h10, Ne.symm h10, Ne.symm h1q, h130, Ne.symm h130, h13b, Ne.symm h13b, Ne.symm h13q]
   refine aops_call hops14 rfl rfl rfl ((visT_calls S q c X.type (smTy.ok _ hsm.2.1) R2 _ _).rnd) (CoL.refl _) (by simp [go_sem, hn0_q, h1q, h13q]) ?_
   refine aops_last 0 hops14 ?_
   simp only [go_sem, hn0_q, List.cons_append, List.nil_append, h1q, h13q]
   refine hKR14 _ ?_
   refine hK7 _ ?_
   refine awp_seq_k (fun K8 hK8 => ?_)
   by_cases h2 : X.kind = 2
   ·have e1 : (exE S X).foldl addE R2 = (argsE S X.targs true X.name 0).foldl addE ((visE S X.type).foldl addE R2) := by
     unfold exE
     rw [if_pos h2, List.foldl_append]
    rw [e1] at hKB
    generalize (visE S X.type).foldl addE R2 = R3 at *
    refine awp_plain 3 (by kernel_rfl) rfl (fun g15 hg15 => ?_)
    simp only [go_sem, h2, decide_true, List.nil_append, Ne.symm h130, Ne.symm h13b, Ne.symm h13q]
    refine hK8 _ ?_
    refine awp_t rfl ?_
    refine awp_ops (by kernel_rfl) rfl (fun g16 hg16 ops16 KR16 hops16 hKR16 => ?_)
    refine aops_eval 6 hops16 ?_
    simp only [go_sem, Ne.symm hn0_q, List.nil_append, h10, Ne.symm h10, Ne.symm h1q, h130, Ne.symm h130, h13b, Ne.symm h13b, Ne.symm h13q]
    refine aops_call hops16 rfl rfl rfl ((args_calls S q c X.targs (Nat.le_trans hsm.2.2.1.1 (by decide)) (fun x hx => smTy.ok _ (hsm.2.2.1.2 x hx)) true X.name R3 _ _).rnd) (CoL.refl _) (by simp [go_sem]) ?_
    refine aops_last 0 hops16 ?_
    simp only [go_sem, hn0_q, List.cons_append, List.nil_append, h1q, h13q]
    refine hKR16 _ ?_
    refine hKB _ ?_
    refine subT_of ?_
    simp only [go_sem, hn0_q, Ne.symm hn0_q, h10, h1q, Ne.symm h10, Ne.symm h1q, h130, h13b, h13q]
    try trivial
   ·have e1 : (exE S X).foldl addE R2 = (visE S X.type).foldl addE R2 := by
     unfold exE
     rw [if_neg h2, List.append_nil]
    rw [e1] at hKB
    generalize (visE S X.type).foldl addE R2 = R3 at *
    refine awp_plain 3 (by kernel_rfl) rfl (fun g15 hg15 => ?_)
    simp only [go_sem, h2, decide_false, List.nil_append, Ne.symm h130, Ne.symm h13b, Ne.symm h13q]
    refine hK8 _ ?_
    refine awp_f rfl ?_
    refine awp_skip ?_
    refine hKB _ ?_
    refine subT_of ?_
    simp only [go_sem, hn0_q, Ne.symm hn0_q, h10, h1q, Ne.symm h10, Ne.symm h1q, h130, h13b, h13q]
    try trivial
  ·rw [List.length_map, List.take_length] at hσ
   show Go.Ab.Ends E _ _ _ _ _ _
   refine ends_keep rfl (fun p hp => hσ p.1 p.2 ?_) ?_
   ·rw [List.mem_singleton.1 hp]
    simp only [go_sem, hn0_q, h1q]
   simp only [go_sem]
   exact Co.refl _
 ·unfold deE
  rw [if_neg h3]
  unfold dsE
  rw [List.foldl_append, List.foldl_append]
  have hp := fun g r => putNil_calls false d.name (d.formals.map (·.name)) (by rw [List.length_map]; omega) g r
  unfold fmS
  generalize putS2 [] false d.name (d.formals.map (·.name)) = S at hp ⊢
  refine acalls_of_awp (fn := Tryz.f55) (N := 71) Tryz.call55 Tryz.func55 rfl rfl (by simp) ?_
  simp only [go_sem]
  refine awp_seq_k (fun K1 hK1 => ?_)
  refine awp_plain 2 (by kernel_rfl) rfl (fun g0 hg0 => ?_)
  simp only [go_sem]
  refine hK1 _ ?_
  refine awp_seq_k (fun K2 hK2 => ?_)
  have hn0_q : g0 ≠ q := fresh_g hg0 c 0 (by simp [go_sem])
  refine awp_plain 1 (by kernel_rfl) rfl (fun g1 hg1 => ?_)
  simp only [go_sem, List.nil_append]
  refine hK2 _ ?_
  refine awp_seq_k (fun K3 hK3 => ?_)
  refine awp_seq_k (fun K4 hK4 => ?_)
  refine awp_plain 3 (by kernel_rfl) rfl (fun g2 hg2 => ?_)
  simp only [go_sem, h3, decide_false, Bool.not_false, Ne.symm hn0_q, List.nil_append]
  refine hK4 _ ?_
  refine awp_t rfl ?_
  refine awp_seq_k (fun K5 hK5 => ?_)
  refine awp_any 7 (by kernel_rfl) (by kernel_rfl) rfl (fun g3 hg3 ops3 KR3 hops3 hKR3 => ?_)
  refine qrun_eval 5 hops3 ?_
  simp only [go_sem, Ne.symm hn0_q, List.nil_append]
  refine qrun_pure hops3 rfl rfl rfl (flowNames_calls d.formals (by omega) _ _) (CoL.refl _) (by simp [nwOk]) ?_
  refine qrun_pure hops3 rfl rfl rfl (hp _ _) (CoL.refl _) (by simp [nwOk]) ?_
  refine qrun_last 0 hops3 ?_
  simp only [go_sem, List.nil_append]
  refine aops_last 1 hops3 ?_
  simp only [go_sem, List.nil_append]
  refine hKR3 _ ?_
  refine hK5 _ ?_
  refine awp_seq_k (fun K6 hK6 => ?_)
  refine awp_ops (by kernel_rfl) rfl (fun g4 hg4 ops4 KR4 hops4 hKR4 => ?_)
  refine aops_eval 4 hops4 ?_
  simp only [go_sem, Ne.symm hn0_q, List.nil_append]
  refine aops_call hops4 rfl rfl rfl (gFormals_calls S q c d.formals (by omega) (fun f hf => smTy.ok _ (k3 f hf).2) R _ _) (CoL.refl _) (by simp [go_sem, hn0_q]) ?_
  refine aops_last 0 hops4 ?_
  simp only [go_sem, hn0_q, List.cons_append, List.nil_append]
  refine hKR4 _ ?_
  refine hK6 _ ?_
  refine awp_seq_k (fun K7 hK7 => ?_)
  generalize (d.formals.flatMap fun f => visE S f.bound).foldl addE R = R1 at *
  refine awp_ops (by kernel_rfl) rfl (fun g5 hg5 ops5 KR5 hops5 hKR5 => ?_)
  refine aops_eval 4 hops5 ?_
  simp only [go_sem, Ne.symm hn0_q, List.nil_append]
  refine aops_call hops5 rfl rfl rfl (gParams_calls S q c d.fields k4 (fun f hf => smTy.ok _ (k5 f hf).2) R1 _ _) (CoL.refl _) (by simp [go_sem]) ?_
  refine aops_last 0 hops5 ?_
  simp only [go_sem, hn0_q, List.cons_append, List.nil_append]
  refine hKR5 _ ?_
  refine hK7 _ ?_
  refine awp_seq_k (fun K8 hK8 => ?_)
  refine awp_seq_k (fun K9 hK9 => ?_)
  generalize (d.fields.flatMap fun f => visE S f.type).foldl addE R1 = R2 at *
  refine awp_plain 4 (by kernel_rfl) rfl (fun g6 hg6 => ?_)
  simp only [go_sem, Ne.symm hn0_q, List.nil_append]
  refine hK9 _ ?_
  refine awp_block ?_
  refine awp_loop (fun m st => ∃ k, k ≤ d.sigs.length ∧ m = d.sigs.length - k ∧ Le { env := [(2, .ptr ⟨g0, 2, 0⟩ 0), (5, .fmap ksN (scE S)), (31, slSi d.sigs), (32, dN d.sigs.length), (33, dN k)], σ := [(⟨g0, 2, 0⟩, .box 105 [.mref ⟨q, c, 0⟩]), (⟨q, c, 0⟩, .map ksE (edE (((d.sigs.take k).flatMap fun x => siE (putS2 S true x.name (x.formals.map (·.name))) x).foldl addE R2)))] } st) d.sigs.length ?_ ?_
  ·refine ⟨0, Nat.zero_le _, rfl, le_of ?_⟩
   simp only [go_sem, List.take_zero, List.flatMap_nil, List.foldl_nil, hn0_q, Ne.symm hn0_q]
   all_goals first | done | exact rfl | exact ⟨rfl, rfl⟩ | trivial | omega
  ·rintro m st ⟨k, hk, rfl, hle⟩
   refine awp_keep hle ?_
   clear hle
   refine awp_seq_k (fun K10 hK10 => ?_)
   by_cases hlt : k < d.sigs.length
   ·have hfl : ((d.sigs.take (k + 1)).flatMap fun x => siE (putS2 S true x.name (x.formals.map (·.name))) x).foldl addE R2 = (siE (putS2 S true d.sigs[k].name (d.sigs[k].formals.map (·.name))) d.sigs[k]).foldl addE (((d.sigs.take k).flatMap fun x => siE (putS2 S true x.name (x.formals.map (·.name))) x).foldl addE R2) := by
     rw [flatTake _ hlt, List.foldl_append]
    have hgm := getM (f := encSi) hlt
    have hmem := k7 _ (List.getElem_mem hlt)
    generalize d.sigs[k] = X at *
    generalize ((d.sigs.take k).flatMap fun x => siE (putS2 S true x.name (x.formals.map (·.name))) x).foldl addE R2 = R3 at *
    refine awp_plain 1 (by kernel_rfl) rfl (fun g7 hg7 => ?_)
    simp only [go_sem, hlt, List.nil_append]
    refine hK10 _ ?_
    refine awp_seq_k (fun K11 hK11 => ?_)
    refine awp_t rfl ?_
    refine awp_skip ?_
    refine hK11 _ ?_
    refine awp_seq_k (fun K12 hK12 => ?_)
    refine awp_block ?_
    refine awp_seq_k (fun K13 hK13 => ?_)
    refine awp_plain 4 (by kernel_rfl) rfl (fun g8 hg8 => ?_)
    simp only [go_sem, hgm, siC, List.cons_append, List.nil_append]
    refine hK13 _ ?_
    have hn8_q : g8 ≠ q := fresh_g hg8 c 0 (by simp [go_sem, hn0_q])
    refine awp_ops (by kernel_rfl) rfl (fun g9 hg9 ops9 KR9 hops9 hKR9 => ?_)
    refine aops_eval 3 hops9 ?_
    simp only [go_sem, Ne.symm hn0_q, List.nil_append, Ne.symm hn8_q]
    refine aops_call hops9 rfl rfl rfl (gSig_calls S q c X hmem R3 _ _) (CoL.refl _) (by simp [go_sem, hn0_q, hn8_q]) ?_
    refine aops_last 0 hops9 ?_
    simp only [go_sem, hn0_q, List.cons_append, List.nil_append, hn8_q]
    refine hKR9 _ ?_
    refine hK12 _ ?_
    refine awp_plain 2 (by kernel_rfl) rfl (fun g10 hg10 => ?_)
    simp only [go_sem, List.nil_append]
    try simp (disch := omega) only [wrapN]
    refine ⟨_, ?_, k + 1, hlt, rfl, le_of ?_⟩
    ·omega
    simp only [go_sem, hfl, hn0_q, Ne.symm hn0_q, hn8_q]
    all_goals first | done | exact rfl | exact ⟨rfl, rfl⟩ | trivial | omega
   ·have : k = d.sigs.length := by omega
    subst this
    refine awp_plain 1 (by kernel_rfl) rfl (fun g7 hg7 => ?_)
    simp only [go_sem, hlt, List.nil_append]
    refine hK10 _ ?_
    refine awp_seq_k (fun K14 hK14 => ?_)
    refine awp_f rfl ?_
    refine awp_exit ?_
    refine hK8 _ ?_
    refine awp_ret ?_
    refine ends_keep rfl (by simp [go_sem, hn0_q]) ?_
    simp only [go_sem]
    exact Co.refl _
end Go.Proofs.T
namespace Go.Proofs.T
open Go Go.Ab Go.RowKit
theorem nodup_le : ∀ (n : Nat) (l : List Nat), l.Nodup → (∀ x ∈ l, x < n) → l.length ≤ n
 | 0, [], _, _ => Nat.le_refl _
 | 0, x :: l, _, h => absurd (h x List.mem_cons_self) (Nat.not_lt_zero _)
 | n + 1, l, hn, h => by
  by_cases hm : n ∈ l
  ·have h1 := nodup_le n (l.erase n) (hn.erase n) fun x hx => by
    obtain ⟨h1, h2⟩ := (List.Nodup.mem_erase_iff hn).1 hx
    have := h x h2
    omega
   have := List.length_erase_of_mem hm
   have := List.length_pos_of_mem hm
   omega
  ·have := nodup_le n l hn fun x hx => by
    have := h x hx
    have : x ≠ n := fun e => hm (e ▸ hx)
    omega
   omega
def stepK (l : List Ed) (i : List Nat) (x : D) (j : List Nat) : Prop := ∃ n e, l[n]? = some e ∧ n ∉ i ∧ x = encEd e ∧ j = i ++ [n]
def finK (l : List Ed) (i : List Nat) : Prop := ∀ n, n < l.length → n ∈ i
def okK (l : List Ed) (i : List Nat) : Prop := i.Nodup ∧ ∀ n ∈ i, n < l.length
theorem okK_step {l : List Ed} {i j : List Nat} {x : D} (h : okK l i) (hs : stepK l i x j) : okK l j := by
 obtain ⟨n, e, h1, h2, -, rfl⟩ := hs
 refine ⟨?_, fun m hm => ?_⟩
 ·rw [List.nodup_append]
  refine ⟨h.1, by simp, fun a ha b hb => ?_⟩
  rw [List.mem_singleton.1 hb]
  intro e
  exact h2 (e ▸ ha)
 ·rcases List.mem_append.1 hm with hm | hm
  ·exact h.2 m hm
  ·rw [List.mem_singleton.1 hm]
   exact (List.getElem?_eq_some_iff.1 h1).1
theorem okK_lt {l : List Ed} {i : List Nat} (h : okK l i) {n : Nat} (hn : n < l.length) (hni : n ∉ i) : i.length < l.length := by
 have := nodup_le l.length (i ++ [n]) (by
  rw [List.nodup_append]
  refine ⟨h.1, by simp, fun a ha b hb => ?_⟩
  rw [List.mem_singleton.1 hb]
  intro e
  exact hni (e ▸ ha)) fun m hm => by
  rcases List.mem_append.1 hm with hm | hm
  ·exact h.2 m hm
  ·rw [List.mem_singleton.1 hm]
   exact hn
 rw [List.length_append, List.length_singleton] at this
 omega
theorem edE_get (l : List Ed) (n : Nat) : (edE l)[n]? = (l[n]?).map fun e => (edV e, D.val (.bool true)) := by
 unfold edE
 rw [List.getElem?_map]
set_option maxRecDepth 100000 in
theorem keys1_calls (l : List Ed) (n : Nm) (I : List Nat → Sto → Prop) (hY : ∀ i x j, stepK l i x j → YC E n x (I i) (I j)) :
  IC E 130 [.yld n, .eptr [.fmap ksE (edE l)]] (I []) (fun τ => ∃ i, (finK l i ∧ okK l i) ∧ I i τ) (.tup []) := by
 refine icalls_of_awp (fn := Tryz.f130) (N := 14) Tryz.call130 Tryz.func130 rfl rfl (by simp) (fun g d τ hτ => ?_)
 simp only [go_sem]
 refine awp_seq_k (fun K1 hK1 => ?_)
 refine awp_ops (by kernel_rfl) rfl (fun g0 hg0 ops0 KR0 hops0 hKR0 => ?_)
 refine aops_eval 1 hops0 ?_
 simp only [go_sem]
 refine aops_range hops0 rfl rfl rfl rfl rfl ?_
 simp only [go_sem]
 refine aops_last 0 hops0 ?_
 simp only [go_sem]
 refine hKR0 _ ?_
 refine hK1 _ ?_
 refine awp_block ?_
 have hf5 : get τ ⟨g0, 5, 0⟩ = none := by simpa [go_sem] using hg0 5 0
 refine awp_loop (fun m st => ∃ pre τ', okK l pre ∧ m = l.length - pre.length ∧ I pre τ' ∧ get τ' ⟨g0, 5, 0⟩ = none ∧ LeT { env := [(0, .yld n), (5, .ptr ⟨g0, 5, 0⟩ 0)], σ := (⟨g0, 5, 0⟩, .iter ksE (edE l) pre) :: τ' } st) l.length ?_ ?_
 ·refine ⟨[], τ, ⟨List.nodup_nil, fun m hm => nomatch hm⟩, rfl, hτ, hf5, ⟨leE_spec ?_, fun _ _ h => h⟩⟩
  simp only [go_sem]
  all_goals first | done | exact rfl | exact ⟨rfl, rfl⟩ | trivial
 ·rintro m st ⟨pre, τ', hk, rfl, hI, hf, hle⟩
  refine awp_keepT hle ?_
  clear hle
  refine awp_seq_k (fun K2 hK2 => ?_)
  refine awp_ops (by kernel_rfl) rfl (fun g1 hg1 ops1 KR1 hops1 hKR1 => ?_)
  refine aops_eval 0 hops1 ?_
  simp only [go_sem]
  refine aops_next hops1 rfl rfl rfl rfl (by simp only [go_sem]; rfl) (fun v pre2 hout => ?_)
  simp only [go_sem]
  rcases hout with ⟨rfl, rfl, hall⟩ | ⟨i, e', hie, hni, rfl, rfl⟩
  ·refine aops_last 1 hops1 ?_
   simp only [go_sem]
   refine hKR1 _ ?_
   refine hK2 _ ?_
   refine awp_seq_k (fun K3 hK3 => ?_)
   refine awp_f rfl ?_
   refine awp_exit ?_
   refine ends_tail (own := [_]) rfl rfl (by simp [go_sem, hf]) (⟨pre2, ⟨fun n hn => hall n (by rw [edE_len]; exact hn), hk⟩, hI⟩) ?_
   simp only [go_sem]
   exact Co.refl _
  ·rw [edE_get] at hie
   obtain ⟨e, he, rfl⟩ := Option.map_eq_some_iff.1 hie
   have hil := (List.getElem?_eq_some_iff.1 he).1
   have hlt := okK_lt hk hil hni
   refine aops_last 1 hops1 ?_
   simp only [go_sem]
   refine hKR1 _ ?_
   refine hK2 _ ?_
   refine awp_seq_k (fun K4 hK4 => ?_)
   refine awp_t rfl ?_
   refine awp_skip ?_
   refine hK4 _ ?_
   refine awp_block ?_
   refine awp_seq_k (fun K5 hK5 => ?_)
   refine awp_ops (by kernel_rfl) rfl (fun g2 hg2 ops2 KR2 hops2 hKR2 => ?_)
   refine aops_eval 0 hops2 ?_
   simp only [go_sem]
   refine aops_entry2 (pre := pre) (i := i) hops2 rfl rfl rfl rfl (by simp only [go_sem]; rfl) (by rw [edE_get, he]; rfl) ?_
   refine aops_last 3 hops2 ?_
   simp only [go_sem, edV, List.map_cons, List.map_nil]
   refine hKR2 _ ?_
   refine hK5 _ ?_
   refine awp_seq_k (fun K6 hK6 => ?_)
   have h23 : get τ' ⟨g2, 3, 0⟩ = none := by simpa [go_sem] using hg2 3 0
   refine awp_ops (by kernel_rfl) rfl (fun g3 hg3 ops3 KR3 hops3 hKR3 => ?_)
   refine aops_eval 2 hops3 ?_
   simp only [go_sem]
   refine aops_yield (own := [_, _]) (τ := τ') hops3 rfl rfl rfl rfl rfl rfl (hY pre (encEd e) (pre ++ [i]) ⟨i, e, he, hni, rfl, rfl⟩) (Co.refl _) rfl (fun p hp => ?_) hI (fun τ2 hI2 hX => ?_)
   ·rcases List.mem_cons.1 hp with rfl | hp
    ·exact h23
    ·rw [List.mem_singleton.1 hp]; exact hf
   refine aops_last 1 hops3 ?_
   simp only [go_sem]
   refine hKR3 _ ?_
   refine hK6 _ ?_
   refine awp_f rfl ?_
   refine awp_skip ?_
   have h5 := hX _ (List.mem_cons_of_mem _ List.mem_cons_self)
   refine ⟨l.length - (pre ++ [i]).length, ?_, pre ++ [i], τ2, okK_step hk ⟨i, e, he, hni, rfl, rfl⟩, rfl, hI2, h5, ⟨leE_spec ?_, ?_⟩⟩
   ·rw [List.length_append, List.length_singleton]
    omega
   ·simp only [go_sem]
    all_goals first | done | exact rfl | exact ⟨rfl, rfl⟩ | trivial
   ·have h3 := hX _ List.mem_cons_self
    intro m o hm
    simp only [Ab.get] at hm ⊢
    by_cases a : (⟨g0, 5, 0⟩ : Nm) = m
    ·have b : ¬ (⟨g2, 3, 0⟩ : Nm) = m := by rw [← a]; simp
     rw [if_pos a] at hm
     rw [if_neg b, if_pos a]
     exact hm
    ·rw [if_neg a] at hm
     by_cases b : (⟨g2, 3, 0⟩ : Nm) = m
     ·rw [← b, h3] at hm
      cases hm
     ·rw [if_neg b, if_neg a]
      exact hm
theorem keysX_calls (l : List Ed) (g d : Nat) : ACalls E 97 [.fmap ksE (edE l)] [] g d (.func (.func 130) [] [.eptr [.fmap ksE (edE l)]]) [] := by
 refine acalls_of_awp (fn := Tryz.f97) (N := 4) Tryz.call97 Tryz.func97 rfl rfl (by simp) ?_
 simp only [go_sem]
 refine awp_seq_k (fun K1 hK1 => ?_)
 refine awp_plain 2 (by kernel_rfl) rfl (fun g0 hg0 => ?_)
 simp only [go_sem]
 refine hK1 _ ?_
 refine awp_seq_k (fun K2 hK2 => ?_)
 refine awp_still ⟨g0, 1, 0⟩ ?_
 simp only [go_sem]
 refine awp_plain 2 (by kernel_rfl) rfl (fun g1 hg1 => ?_)
 simp only [go_sem]
 refine hK2 _ ?_
 refine awp_ret ?_
 refine ends_ev rfl ?_
 simp only [go_sem]
 exact Co.refl _
end Go.Proofs.T
namespace Go.Proofs.T
open Go Go.Ab Go.RowKit
abbrev kfE (l : List Ed) : D := .func (.func 130) [] [.eptr [.fmap ksE (edE l)]]
def edsK (l : List Ed) (i : List Nat) : List Ed := i.map fun n => l.getD n default
theorem edsK_len (l : List Ed) (i : List Nat) : (edsK l i).length = i.length := by simp [edsK]
theorem edsK_perm {l : List Ed} {i : List Nat} (h : okK l i) (hf : finK l i) : (edsK l i).Perm l := by
 have hp : i.Perm (List.range l.length) := by
  refine (List.perm_ext_iff_of_nodup h.1 List.nodup_range).2 fun n => ?_
  rw [List.mem_range]
  exact ⟨h.2 n, hf n⟩
 have h1 := hp.map (fun n => l.getD n default)
 have h2 : (List.range l.length).map (fun n => l.getD n default) = l := by
  refine List.ext_getElem (by simp) fun k h1 h2 => ?_
  simp [h2]
 rw [h2] at h1
 exact h1
def SomeE (l : List Ed) (g d : Nat) (r : D) (τ : Sto) : Prop := ∃ L : List Ed, L.Perm l ∧ r = .own ⟨g, d, 1⟩ L.length ∧ τ = [(⟨g, d, 1⟩, .arr 78 7 (L.map encEd))]
abbrev apS (q a b : Nat) (L : List Ed) : Sto := [(⟨q, 2, 0⟩, .box 47 [.own ⟨a, b, 0⟩ L.length]), (⟨a, b, 0⟩, .arr 78 7 (L.map encEd))]
set_option maxRecDepth 100000 in
theorem appendSeq_calls (l : List Ed) (hl : l.length ≤ 1000000) (g d : Nat) : EC E 142 [.val (.slice none 0 0), kfE l] [] g d (SomeE l g d) := by
 refine ecalls_of_awp (fn := Tryz.f142) (N := 13) Tryz.call142 Tryz.func142 rfl rfl (by simp) ?_
 simp only [go_sem]
 refine awp_seq_k (fun K1 hK1 => ?_)
 refine awp_plain 2 (by kernel_rfl) rfl (fun g0 hg0 => ?_)
 simp only [go_sem]
 refine hK1 _ ?_
 refine awp_seq_k (fun K2 hK2 => ?_)
 refine awp_seq_k (fun K3 hK3 => ?_)
 refine awp_nil_box ⟨g0, 2, 0⟩ 0 78 7 ?_
 simp only [go_sem]
 intro gn hgn
 refine awp_plain 1 (by kernel_rfl) rfl (fun g1 hg1 => ?_)
 simp only [go_sem]
 refine hK3 _ ?_
 refine awp_block ?_
 have hgn_g0 : gn ≠ g0 := fresh_g hgn 2 0 (by simp [go_sem])
 refine awp_rangeX_k rfl rfl (by decide) [] (stepK l) (fun i => finK l i ∧ okK l i) (fun i σ => okK l i ∧ ∃ a b, a ≠ g0 ∧ ∀ n o, Ab.get (apS g0 a b (edsK l i)) n = some o → Ab.get σ n = some o) ⟨⟨List.nodup_nil, fun m hm => nomatch hm⟩, gn, 0, hgn_g0, subT_of ?_⟩ (fun n I hY => keys1_calls l n I hY) (fun i x j hs σ hJ KA hKA => ?_) (fun i σ hfin hJ => ?_)
 ·simp only [go_sem, List.length_nil, show edsK l [] = [] from rfl, List.map_nil, hgn_g0, Ne.symm hgn_g0]
  all_goals first | done | exact rfl | exact ⟨rfl, rfl⟩ | trivial
 ·obtain ⟨hk, a, b, ha, hσ⟩ := hJ
  have hkj := okK_step hk hs
  obtain ⟨n, e, he, hni, rfl, rfl⟩ := hs
  have hlt := okK_lt hk (List.getElem?_eq_some_iff.1 he).1 hni
  have hlen := edsK_len l i
  have hnext : edsK l (i ++ [n]) = edsK l i ++ [e] := by
   unfold edsK
   rw [List.map_append, List.map_singleton, List.getD_eq_getElem?_getD, he]
   rfl
  rw [hnext] at hKA
  generalize edsK l i = L at *
  refine awp_keepT (st' := { env := [(7, encEd e), (2, .ptr ⟨g0, 2, 0⟩ 0)], σ := apS g0 a b L }) ⟨leE_spec ?_, hσ⟩ ?_
  ·simp only [go_sem]
   try trivial
  refine awp_plain 2 (by kernel_rfl) rfl (fun g2 hg2 => ?_)
  simp only [go_sem, apS]
  refine hKA _ (fun KB hKB => ?_)
  refine awp_block ?_
  have h20 : g2 ≠ g0 := fresh_g hg2 2 0 (by simp [go_sem])
  have h2a : g2 ≠ a := fresh_g hg2 b 0 (by simp [go_sem, Ne.symm ha])
  refine awp_ops (by kernel_rfl) rfl (fun g3 hg3 ops3 KR3 hops3 hKR3 => ?_)
  refine aops_eval 3 hops3 ?_
  simp only [go_sem, ha, h20, Ne.symm h20, Ne.symm h2a]
  refine aops_app hops3 rfl rfl rfl rfl rfl es47 sz78 by78 ze78 rfl (by decide) ?_
  simp only [go_sem, Ne.symm ha, h2a]
  first | refine ⟨⟨by omega, by omega⟩, ?_⟩ | skip
  have hn3_g0 : g3 ≠ g0 := fresh_g hg3 2 0 (by simp [go_sem, h20])
  refine aops_last 1 hops3 ?_
  simp only [go_sem, h20, hn3_g0]
  refine hKR3 _ ?_
  refine hKB _ ?_
  refine ⟨hkj, g3, 11, hn3_g0, subT_of ?_⟩
  simp only [go_sem, List.map_append, List.length_append, h20, hn3_g0, Ne.symm hn3_g0]
  all_goals first | done | exact rfl | exact ⟨rfl, rfl⟩ | trivial
 ·obtain ⟨hk, a, b, ha, hσ⟩ := hJ
  have hperm := edsK_perm hk hfin.1
  generalize edsK l i = L at *
  refine hK2 _ ?_
  refine awp_seq_k (fun K4 hK4 => ?_)
  refine awp_keepT (st' := { env := [(2, .ptr ⟨g0, 2, 0⟩ 0)], σ := apS g0 a b L }) ⟨leE_spec ?_, hσ⟩ ?_
  ·simp only [go_sem]
   try trivial
  refine awp_plain 2 (by kernel_rfl) rfl (fun g4 hg4 => ?_)
  simp only [go_sem, apS, ha]
  refine hK4 _ ?_
  refine awp_ret ?_
  refine ⟨.own ⟨g, d, 1⟩ L.length, [(⟨g, d, 1⟩, .arr 78 7 (L.map encEd))], ⟨L, hperm, rfl, rfl⟩, ?_⟩
  refine ends_own [⟨a, b, 0⟩] rfl ?_
  simp only [go_sem, newSto, Ne.symm ha]
  exact Co.refl _
set_option maxRecDepth 100000 in
theorem collect_calls (l : List Ed) (hl : l.length ≤ 1000000) (g d : Nat) : EC E 128 [kfE l] [] g d (SomeE l g d) := by
 refine ecalls_of_awp (fn := Tryz.f128) (N := 5) Tryz.call128 Tryz.func128 rfl rfl (by simp) ?_
 simp only [go_sem]
 refine awp_seq_k (fun K1 hK1 => ?_)
 refine awp_plain 1 (by kernel_rfl) rfl (fun g0 hg0 => ?_)
 simp only [go_sem]
 refine hK1 _ ?_
 refine awp_seq_k (fun K2 hK2 => ?_)
 refine awp_ops (by kernel_rfl) rfl (fun g1 hg1 ops1 KR1 hops1 hKR1 => ?_)
 refine aops_eval 1 hops1 ?_
 simp only [go_sem]
 refine aops_ecall hops1 rfl rfl rfl (appendSeq_calls l hl _ _) (CoL.refl _) (fun r τ' hS hfr => ?_)
 obtain ⟨L, hperm, rfl, rfl⟩ := hS
 refine aops_last 1 hops1 ?_
 simp only [go_sem]
 refine hKR1 _ ?_
 refine hK2 _ ?_
 refine awp_ret ?_
 refine ⟨.own ⟨g, d, 1⟩ L.length, [(⟨g, d, 1⟩, .arr 78 7 (L.map encEd))], ⟨L, hperm, rfl, rfl⟩, ?_⟩
 refine ends_own [⟨g1, 4, 1⟩] rfl ?_
 simp only [go_sem, newSto]
 exact Co.refl _
theorem srt_perm_eq {l L : List Ed} (h : L.Perm l) : srt ltEd L = srt ltEd l :=
 ed_uniq ((srt_perm ltEd L).trans h) (srt_ord goodEd.swo L)
set_option maxRecDepth 100000 in
theorem sortedFunc_calls (l : List Ed) (hl : l.length ≤ 1000000) (g d : Nat) : ACalls E 96 [kfE l, .func (.func 98) [] []] [] g d (slEd (srt ltEd l)) [] := by
 refine acalls_of_awp (fn := Tryz.f96) (N := 12) Tryz.call96 Tryz.func96 rfl rfl (by simp) ?_
 simp only [go_sem]
 refine awp_seq_k (fun K1 hK1 => ?_)
 refine awp_plain 1 (by kernel_rfl) rfl (fun g0 hg0 => ?_)
 simp only [go_sem]
 refine hK1 _ ?_
 refine awp_seq_k (fun K2 hK2 => ?_)
 refine awp_ops (by kernel_rfl) rfl (fun g1 hg1 ops1 KR1 hops1 hKR1 => ?_)
 refine aops_eval 1 hops1 ?_
 simp only [go_sem]
 refine aops_ecall hops1 rfl rfl rfl (collect_calls l hl _ _) (CoL.refl _) (fun r τ' hS hfr => ?_)
 obtain ⟨L, hperm, rfl, rfl⟩ := hS
 have hL : L.length ≤ 1000000 := by rw [hperm.length_eq]; exact hl
 have hsl := srt_len ltEd L
 have hse := srt_perm_eq hperm
 refine aops_last 1 hops1 ?_
 simp only [go_sem]
 refine hKR1 _ ?_
 refine hK2 _ ?_
 refine awp_seq_k (fun K3 hK3 => ?_)
 refine awp_ops (by kernel_rfl) rfl (fun g2 hg2 ops2 KR2 hops2 hKR2 => ?_)
 refine aops_eval 2 hops2 ?_
 simp only [go_sem]
 refine aops_call hops2 rfl rfl rfl (sortEd_calls L hL ⟨g1, 7, 1⟩ _ _) (CoL.refl _) (by simp [go_sem]) ?_
 refine aops_last 0 hops2 ?_
 simp only [go_sem]
 refine hKR2 _ ?_
 refine hK3 _ ?_
 refine awp_seq_k (fun K4 hK4 => ?_)
 refine awp_plain 2 (by kernel_rfl) rfl (fun g3 hg3 => ?_)
 simp only [go_sem]
 refine hK4 _ ?_
 refine awp_ret ?_
 refine ret_frz ⟨g1, 7, 1⟩ ?_
 simp only [go_sem, hse]
 refine ends_ev rfl ?_
 simp only [go_sem]
 exact Co.refl _
set_option maxRecDepth 100000 in
theorem sorted_calls (l : List Ed) (hl : l.length ≤ 1000000) (g d : Nat) : ACalls E 56 [.fmap ksE (edE l)] [] g d (slEd (srt ltEd l)) [] := by
 refine acalls_of_awp (fn := Tryz.f56) (N := 6) Tryz.call56 Tryz.func56 rfl rfl (by simp) ?_
 simp only [go_sem]
 refine awp_seq_k (fun K1 hK1 => ?_)
 refine awp_plain 1 (by kernel_rfl) rfl (fun g0 hg0 => ?_)
 simp only [go_sem]
 refine hK1 _ ?_
 refine awp_seq_k (fun K2 hK2 => ?_)
 refine awp_ops (by kernel_rfl) rfl (fun g1 hg1 ops1 KR1 hops1 hKR1 => ?_)
 refine aops_eval 1 hops1 ?_
 simp only [go_sem]
 refine aops_pure hops1 rfl rfl rfl (keysX_calls l _ _) (CoL.refl _) ?_
 refine aops_pure hops1 rfl rfl rfl (sortedFunc_calls l hl _ _) (CoL.refl _) ?_
 refine aops_last 1 hops1 ?_
 simp only [go_sem]
 refine hKR1 _ ?_
 refine hK2 _ ?_
 refine awp_ret ?_
 refine ends_ev rfl ?_
 simp only [go_sem]
 exact Co.refl _
end Go.Proofs.T
