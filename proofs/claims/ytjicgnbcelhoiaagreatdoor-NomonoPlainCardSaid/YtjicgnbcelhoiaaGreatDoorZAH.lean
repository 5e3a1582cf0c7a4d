/- A part of the proof, under no conditions of its own: ZAH. -/
import Derived.Test.YtjicgnbcelhoiaaGreatDoorZAF
import Derived.Test.YtjicgnbcelhoiaaGreatDoorZAG
namespace Go.Ab
open Go Go.RowKit
structure TE where
 v : D
 nw : Sto
 dead : List Nm
def minus (κ : Kp) (ms : List Nm) : Kp := fun n => if n ∈ ms then none else κ n
def turnOk (M : List Nat) (ds : List (Option Tmp)) (i : Nat) (ms : List Nm) : Bool :=
 ms.all fun m => (List.range ds.length).all fun j => !((ds[j]?).join == some m.i) || bit M i j
def TStep (E : Ctx) (ops : List Oper) (M : List Nat) (g : Nat) (σ0 : Sto) (i : Nat) (o : Oper) (σ : Sto) (env : List (Nat × D)) (p : TE) : Prop :=
  (∀ q ∈ p.nw, q.1.g = g ∧ o.dst = some q.1.i) ∧
  ((wantD ops env o = some true ∧ QOp E g o (ev E env) (get σ0) p.v p.nw ∧ p.dead = []) ∨ (wantD ops env o = some false ∧ p.v = .val undef ∧ p.nw = [] ∧ p.dead = []) ∨
   (wantD ops env o = some true ∧ ∃ σs : Sto, p.dead = σs.map (·.1) ∧ TOp E g o (ev E env) (get σs) p.v (get p.nw) ∧ (∀ q ∈ σs, get σ q.1 = some q.2) ∧ (∀ m ∈ p.dead, m.g = g) ∧ turnOk M (ops.map (·.dst)) i p.dead = true))
inductive TTrace (E : Ctx) (ops : List Oper) (M : List Nat) (g : Nat) (σ0 : Sto) : Nat → Sto → List Oper → List (Nat × D) → List TE → List (Nat × D) → Prop
 | nil {i : Nat} {σ : Sto} {env : List (Nat × D)} : TTrace E ops M g σ0 i σ [] env [] env
 | cons {i : Nat} {σ : Sto} {o : Oper} {r : List Oper} {env env' : List (Nat × D)} {p : TE} {tr : List TE} : TStep E ops M g σ0 i o σ env p → TTrace E ops M g σ0 (i + 1) (p.nw ++ dels σ p.dead) r (putE env o.dst p.v) tr env' →
   TTrace E ops M g σ0 i σ (o :: r) env (p :: tr) env'
def accT : List TE → Sto → Sto
 | [], σ => σ
 | p :: r, σ => accT r (p.nw ++ dels σ p.dead)
def QRunT (E : Ctx) (ops : List Oper) (M : List Nat) (g : Nat) (σ0 : Sto) (i : Nat) (K : St → Prop) (l : List Oper) (st : St) : Prop :=
 ∃ tr env', TTrace E ops M g σ0 i st.σ l st.env tr env' ∧ K ⟨env', accT tr st.σ⟩
section
variable {E : Ctx} {N : Nat} {ops : List Oper} {M : List Nat} {g i0 : Nat} {σ0 : Sto} {st : St}
theorem qrunT_nil {K : St → Prop} (h : K st) : QRunT E ops M g σ0 i0 K [] st := ⟨[], st.env, .nil, h⟩
theorem qrunT_cons {K : St → Prop} {o : Oper} {r : List Oper} {p : TE} (hs : TStep E ops M g σ0 i0 o st.σ st.env p) (h : QRunT E ops M g σ0 (i0 + 1) K r { env := putE st.env o.dst p.v, σ := p.nw ++ dels st.σ p.dead }) : QRunT E ops M g σ0 i0 K (o :: r) st :=
 let ⟨tr, env', h1, h2⟩ := h
 ⟨p :: tr, env', .cons hs h1, h2⟩
theorem TTrace.length {l : List Oper} {σ : Sto} {env env' : List (Nat × D)} {tr : List TE} (h : TTrace E ops M g σ0 i0 σ l env tr env') : tr.length = l.length := by
 induction h with
 | nil => rfl
 | cons _ _ ih => simp [ih]
theorem TTrace.split {l : List Oper} {σ : Sto} {env env' : List (Nat × D)} {tr : List TE} (h : TTrace E ops M g σ0 i0 σ l env tr env') :
  ∀ (i : Nat) o, l[i]? = some o → ∃ envi p, TTrace E ops M g σ0 i0 σ (l.take i) env (tr.take i) envi ∧ tr[i]? = some p ∧ TStep E ops M g σ0 (i0 + i) o (accT (tr.take i) σ) envi p := by
 induction h with
 | nil => intro i o h; simp at h
 | cons hs _ ih =>
  intro i o ho
  cases i with
  | zero => simp only [List.getElem?_cons_zero, Option.some.injEq] at ho; subst ho; exact ⟨_, _, .nil, rfl, hs⟩
  | succ i =>
   obtain ⟨envi, p, h1, h2, h3⟩ := ih i o (by simpa using ho)
   refine ⟨envi, p, .cons hs h1, h2, ?_⟩
   rw [show ∀ a : Nat, a + (i + 1) = a + 1 + i by omega]
   exact h3
theorem TTrace.env {l : List Oper} {σ : Sto} {env env' : List (Nat × D)} {tr : List TE} (h : TTrace E ops M g σ0 i0 σ l env tr env') (t : Nat) :
  (∃ (j : Nat) (o : Oper) (p : TE), l[j]? = some o ∧ o.dst = some t ∧ tr[j]? = some p ∧ lk env' t = some p.v) ∨ ((∀ (j : Nat) o, l[j]? = some o → o.dst ≠ some t) ∧ lk env' t = lk env t) := by
 induction h with
 | nil => exact .inr ⟨fun j o h => by simp at h, rfl⟩
 | cons hs _ ih =>
  rename_i i σ o r env env' p tr _
  rcases ih with ⟨j, o', p', h1, h2, h3, h4⟩ | ⟨h1, h2⟩
  ·exact .inl ⟨j + 1, o', p', by simpa using h1, h2, by simpa using h3, h4⟩
  ·by_cases hd : o.dst = some t
   ·refine .inl ⟨0, o, p, rfl, hd, rfl, ?_⟩
    rw [h2, hd]
    simp [putE, lk]
   ·refine .inr ⟨fun j o' ho => ?_, ?_⟩
    ·cases j with
     | zero => simp only [List.getElem?_cons_zero, Option.some.injEq] at ho; subst ho; exact hd
     | succ j => exact h1 j o' (by simpa using ho)
    ·rw [h2]
     cases hx : o.dst with
     | none => rfl
     | some d =>
      simp only [putE, lk]
      rw [if_neg (fun e => hd (by rw [hx, e]))]
def kappT (L : Nat → Bool) : Nat → List TE → Kp → Kp
 | _, [], κ => κ
 | k, p :: r, κ => kappT L (k + 1) r (if L k then Kp.or (get p.nw) (minus κ p.dead) else κ)
theorem get_dels_minus (σ : Sto) (ms : List Nm) : get (dels σ ms) = minus (get σ) ms := by
 funext n
 rw [get_dels, minus]
theorem kappT_congr {L L' : Nat → Bool} : ∀ (k : Nat) (tr : List TE) (κ : Kp), (∀ j, k ≤ j → L j = L' j) → kappT L k tr κ = kappT L' k tr κ
 | _, [], _, _ => rfl
 | k, _ :: r, κ, h => by
  simp only [kappT, h k (Nat.le_refl _)]
  exact kappT_congr (k + 1) r _ fun j hj => h j (by omega)
theorem kappT_in (L : Nat → Bool) (a : Kp) (ms : List Nm) : ∀ (k : Nat) (tr : List TE) (κ : Kp),
  (∀ (j : Nat) p, tr[j]? = some p → L (k + j) = true → Dis a (get p.nw) ∧ (∀ n, a n ≠ none → n ∉ p.dead) ∧ ∀ n ∈ ms, get p.nw n = none) → kappT L k tr (Kp.or a (minus κ ms)) = Kp.or a (minus (kappT L k tr κ) ms)
 | _, [], _, _ => rfl
 | k, p :: r, κ, h => by
  simp only [kappT]
  have ih := fun κ' => kappT_in L a ms (k + 1) r κ' (fun j q hj hL => h (j + 1) q (by simpa using hj) (by rw [show k + (j + 1) = k + 1 + j by omega]; exact hL))
  split
  ·rename_i hL
   obtain ⟨h1, h2, h3⟩ := h 0 p rfl (by simpa using hL)
   rw [← ih]
   congr 1
   funext n
   simp only [Kp.or, minus]
   rcases h1 n with e | e
   ·simp only [e, Option.none_or]
    by_cases hm : n ∈ ms
    ·simp [hm, h3 n hm]
    ·simp [hm]
   ·simp only [e, Option.none_or]
    by_cases hd : n ∈ p.dead
    ·have : a n = none := by
      cases ha : a n with
      | none => rfl
      | some y => exact absurd hd (h2 n (by simp [ha]))
     simp [hd, this]
    ·simp [hd]
  ·exact ih κ
theorem kappT_put {L L' : Nat → Bool} {i : Nat} (hi : L i = false) (hi' : L' i = true) (ho : ∀ j, j ≠ i → L' j = L j) : ∀ (k : Nat) (tr : List TE) (κ : Kp) (p : TE), k ≤ i → tr[i - k]? = some p →
  (∀ (j : Nat) q, tr[j]? = some q → i < k + j → L (k + j) = true → Dis (get p.nw) (get q.nw) ∧ (∀ n, get p.nw n ≠ none → n ∉ q.dead) ∧ ∀ n ∈ p.dead, get q.nw n = none) → kappT L' k tr κ = Kp.or (get p.nw) (minus (kappT L k tr κ) p.dead)
 | k, [], κ, p, _, h, _ => by simp at h
 | k, q :: r, κ, p, hk, h, hd => by
  simp only [kappT]
  by_cases he : k = i
  ·subst he
   simp only [Nat.sub_self, List.getElem?_cons_zero, Option.some.injEq] at h
   subst h
   rw [hi, hi']
   simp only [if_true, Bool.false_eq_true, if_false]
   rw [kappT_congr (L' := L) (k + 1) r _ fun j hj => ho j (by omega)]
   exact kappT_in L _ _ (k + 1) r κ fun j x hx hL => hd (j + 1) x (by simpa using hx) (by omega) (by rw [show k + (j + 1) = k + 1 + j by omega]; exact hL)
  ·rw [ho k he]
   rw [show i - k = (i - (k + 1)) + 1 by omega, List.getElem?_cons_succ] at h
   exact kappT_put hi hi' ho (k + 1) r _ p (by omega) h (fun j x hj hlt hL => hd (j + 1) x (by simpa using hj) (by omega) (by rw [show k + (j + 1) = k + 1 + j by omega]; exact hL))
theorem kappT_get {L : Nat → Bool} {m : Nm} {ob : Ob} : ∀ (k : Nat) (tr : List TE) (κ : Kp), (∀ (j : Nat) p, tr[j]? = some p → L (k + j) = true → m ∉ p.dead) →
  (∀ (j : Nat) p, tr[j]? = some p → L (k + j) = true → get p.nw m = none ∨ get p.nw m = some ob) → (κ m = some ob ∨ ∃ (j : Nat) (p : TE), tr[j]? = some p ∧ L (k + j) = true ∧ get p.nw m = some ob) → kappT L k tr κ m = some ob
 | _, [], _, _, _, h => by
  rcases h with h | ⟨j, p, h, _⟩
  ·exact h
  ·simp at h
 | k, p :: r, κ, h1, h2, h3 => by
  simp only [kappT]
  refine kappT_get (k + 1) r _ (fun j q hj hL => h1 (j + 1) q (by simpa using hj) (by rw [show k + (j + 1) = k + 1 + j by omega]; exact hL)) (fun j q hj hL => h2 (j + 1) q (by simpa using hj) (by rw [show k + (j + 1) = k + 1 + j by omega]; exact hL)) ?_
  rcases h3 with h3 | ⟨j, q, hj, hL, hq⟩
  ·left
   split
   ·rename_i hL
    have a1 := h1 0 p rfl (by simpa using hL)
    rcases h2 0 p rfl (by simpa using hL) with a2 | a2
    ·simp [Kp.or, a2, minus, a1, h3]
    ·simp [Kp.or, a2]
   ·exact h3
  ·cases j with
   | zero =>
    left
    simp only [List.getElem?_cons_zero, Option.some.injEq] at hj
    subst hj
    rw [if_pos (by simpa using hL)]
    simp [Kp.or, hq]
   | succ j => exact .inr ⟨j, q, by simpa using hj, by rw [show k + 1 + j = k + (j + 1) by omega]; exact hL, hq⟩
theorem kappT_old {L : Nat → Bool} {n : Nm} : ∀ (k : Nat) (tr : List TE) (κ : Kp), (∀ p ∈ tr, get p.nw n = none ∧ n ∉ p.dead) → kappT L k tr κ n = κ n
 | _, [], _, _ => rfl
 | k, p :: r, κ, h => by
  simp only [kappT]
  rw [kappT_old (k + 1) r _ fun p hp => h p (List.mem_cons_of_mem _ hp)]
  obtain ⟨h1, h2⟩ := h p List.mem_cons_self
  split
  ·simp [Kp.or, h1, minus, h2]
  ·rfl
theorem kappT_all {L : Nat → Bool} : ∀ (k : Nat) (tr : List TE) (σ : Sto), (∀ j, k ≤ j → j < k + tr.length → L j = true) → kappT L k tr (get σ) = get (accT tr σ)
 | _, [], _, _ => rfl
 | k, p :: r, σ, h => by
  simp only [kappT, accT]
  rw [h k (Nat.le_refl _) (by simp), if_pos rfl, ← get_dels_minus, ← get_append]
  exact kappT_all (k + 1) r _ fun j h1 h2 => h j (by omega) (by simp; omega)
theorem kappT_none {L : Nat → Bool} : ∀ (k : Nat) (tr : List TE) (κ : Kp), (∀ j, L j = false) → kappT L k tr κ = κ
 | _, [], _, _ => rfl
 | k, p :: r, κ, h => by
  simp only [kappT]
  rw [h k]
  exact kappT_none (k + 1) r _ h
theorem get_app_some {a b : Sto} {m : Nm} {ob : Ob} (h : get (a ++ b) m = some ob) : get a m = some ob ∨ (get a m = none ∧ get b m = some ob) := by
 rw [get_append] at h
 simp only [Kp.or] at h
 cases ha : get a m with
 | none => rw [ha] at h; exact .inr ⟨rfl, by simpa using h⟩
 | some x => rw [ha] at h; exact .inl (by simpa using h)
theorem accT_some {m : Nm} {ob : Ob} : ∀ (tr : List TE) (σ : Sto), get (accT tr σ) m = some ob → get σ m = some ob ∨ ∃ (j : Nat) (p : TE), tr[j]? = some p ∧ get p.nw m = some ob
 | [], σ, h => .inl h
 | p :: r, σ, h => by
  rcases accT_some r _ h with h | ⟨j, q, h1, h2⟩
  ·rcases get_app_some h with h | ⟨_, h⟩
   ·exact .inr ⟨0, p, rfl, h⟩
   ·rw [get_dels_minus, minus] at h
    split at h
    ·cases h
    ·exact .inl h
  ·exact .inr ⟨j + 1, q, by simpa using h1, h2⟩
theorem accT_gone {m : Nm} : ∀ (tr : List TE) (σ : Sto), get σ m = none → (∀ p ∈ tr, get p.nw m = none) → get (accT tr σ) m = none
 | [], _, h, _ => h
 | p :: r, σ, h, hn => by
  refine accT_gone r _ ?_ fun q hq => hn q (List.mem_cons_of_mem _ hq)
  rw [get_append, Kp.or, hn p List.mem_cons_self, get_dels_minus, minus, h]
  simp
theorem accT_dead {m : Nm} : ∀ (tr : List TE) (σ : Sto) (k : Nat) (p : TE), tr[k]? = some p → m ∈ p.dead → (∀ (j : Nat) q, k ≤ j → tr[j]? = some q → get q.nw m = none) → get (accT tr σ) m = none
 | [], _, _, _, h, _, _ => by simp at h
 | q :: r, σ, 0, p, h, hm, hn => by
  simp only [List.getElem?_cons_zero, Option.some.injEq] at h
  subst h
  refine accT_gone r _ ?_ fun x hx => ?_
  ·rw [get_append, Kp.or, hn 0 q (Nat.le_refl _) rfl, get_dels_minus, minus, if_pos hm]
   rfl
  ·obtain ⟨j, hj⟩ := List.mem_iff_getElem?.1 hx
   exact hn (j + 1) x (by omega) (by simpa using hj)
 | q :: r, σ, k + 1, p, h, hm, hn => accT_dead r _ k p (by simpa using h) hm fun j x hkj hx => hn (j + 1) x (by omega) (by simpa using hx)
end
end Go.Ab
namespace Go.Ab
open Go Go.RowKit
section
variable {E : Ctx} {N : Nat} {l : List Oper} {g : Nat} {st : St}
structure InvT (w0 : World) (E : Ctx) (N : Nat) (l : List Oper) (g : Nat) (st : St) (tr : List TE) (G1 : Gh) (w1 : World) (L : Nat → Bool) (G : Gh) (w : World) (a : Act) : Prop where
 size : a.tmps.size = N
 defers : Marks G w a.defers
 wf : WF w0 G w
 old : ∀ t d, lk st.env t = some d → (∀ (j : Nat) o, L j = true → l[j]? = some o → o.dst ≠ some t) → t < N ∧ V G w (a.tmps.getD t undef) d
 new : ∀ (j : Nat) o t p, L j = true → l[j]? = some o → o.dst = some t → tr[j]? = some p → V G w (a.tmps.getD t undef) p.v
 objs : Objs w0 G w (kappT L 0 tr (get st.σ))
 fresh : g < G.top ∧ ∀ (j : Nat) o d, L j = false → l[j]? = some o → o.dst = some d → ∀ q, G.ρ ⟨g, d, q⟩ = none
 step : Step (fun n => n.g = g) G1 w1 (get st.σ) G w (kappT L 0 tr (get st.σ))
 down : Down l (fun i => L i = true)
theorem invT_step {w0 : World} (hA : E.A w0) {nq : Nat} (hok : regOk N l nq = true) {tr : List TE} {env' : List (Nat × D)} (htr : TTrace E l (masks l []) g st.σ 0 st.σ (l.take nq) st.env tr env') (hσg : ∀ i j, get st.σ ⟨g, i, j⟩ = none)
  {G1 : Gh} {w1 : World} {L : Nat → Bool} {G : Gh} {w : World} {a : Act} (hI : InvT w0 E N l g st tr G1 w1 L G w a) {i : Nat} {o : Oper} (hi : l[i]? = some o) (hin : i < nq) (hL : L i = false) (hready : ∀ e ∈ o.after, Region.binds .any e = true → L e.on = true)
  {L' : Nat → Bool} (hL' : L' i = true) (hLo : ∀ j, j ≠ i → L' j = L j) {Q' : Exit → Act → World → Prop} {K : Act → World → Prop} (hK : ∀ G' w' a', InvT w0 E N l g st tr G1 w1 L' G' w' a' → K a' w') : ∀ r, wpOpIn (Fr r) 0 E.P l.toArray Q' i K a w := by
 intro rd
 simp only [regOk, Bool.and_eq_true] at hok
 obtain ⟨⟨⟨hd, hE⟩, hlk⟩, _⟩ := hok
 obtain ⟨hnd, hlt⟩ := dstsOk_spec hd
 have hlook := allIdx_spec hlk i o hi
 simp only [Nat.zero_add] at hlook
 have hq : (l.take nq)[i]? = some o := by rw [List.getElem?_take, if_pos hin]; exact hi
 obtain ⟨envi, ⟨v, nw, dead⟩, ht1, ht2, hnames, hstep⟩ := htr.split i o hq
 -- a temporary that the operation looks at holds what it did in the order of the text
 have hsee : ∀ t d, t ∈ looks l o → lk envi t = some d → t < a.tmps.size ∧ V G w (a.tmps.getD t undef) d := by
  intro t d ht hl
  rw [hI.size]
  rcases ht1.env t with ⟨j, o', p', k1, k2, k3, k4⟩ | ⟨k1, k2⟩
  ·rw [k4] at hl
   cases hl
   have hji : j < i ∧ l[j]? = some o' := by
    rw [List.getElem?_take] at k1
    split at k1
    ·rename_i h1
     rw [List.getElem?_take] at k1
     split at k1
     ·exact ⟨h1, k1⟩
     ·cases k1
    ·cases k1
   have hb := looksOk_spec hlook ht hji.2 k2 (by omega)
   rw [if_pos hji.1] at hb
   obtain ⟨m, hm, hbit⟩ := bit_spec hb
   have hLj := anc hE hI.down i o hi hready j m hm hbit
   have k3' : tr[j]? = some p' := by
    rw [List.getElem?_take] at k3
    split at k3
    ·exact k3
    ·cases k3
   exact ⟨hlt o' (List.mem_of_getElem? hji.2) t k2, hI.new j o' t p' hLj hji.2 k2 k3'⟩
  ·rw [k2] at hl
   refine hI.old t d hl fun j o' hLj hj hdj => ?_
   have hji : ¬ j < i := fun h => k1 j o' (by rw [List.getElem?_take, if_pos h, List.getElem?_take, if_pos (by omega)]; exact hj) hdj
   have hne : j ≠ i := fun e => by subst e; rw [hL] at hLj; cases hLj
   have hb := looksOk_spec hlook ht hj hdj hne
   rw [if_neg hji] at hb
   obtain ⟨m, hm, hbit⟩ := bit_spec hb
   have := anc hE hI.down j o' hj (hI.down j o' hj hLj) i m hm hbit
   rw [hL] at this
   cases this
 have hdst : ∀ d, o.dst = some d → d < a.tmps.size := fun d hd' => by rw [hI.size]; exact hlt o (List.mem_of_getElem? hi) d hd'
 have hlen := htr.length
 have hilt : i < (l.take nq).length := (List.getElem?_eq_some_iff.1 hq).1
 -- names of different operations' new things are different
 have names : ∀ (j : Nat) p, tr[j]? = some p → ∀ m, get p.nw m ≠ none → m.g = g ∧ ∃ o', l[j]? = some o' ∧ o'.dst = some m.i := by
  intro j p hp m hm
  have hjl : j < (l.take nq).length := by have := (List.getElem?_eq_some_iff.1 hp).1; omega
  have hoj : (l.take nq)[j]? = some (l.take nq)[j] := List.getElem?_eq_getElem hjl
  obtain ⟨_, p', _, k2, k3, _⟩ := htr.split j _ hoj
  rw [hp] at k2
  cases k2
  have hoj' : l[j]? = some (l.take nq)[j] := by
   rw [List.getElem?_take] at hoj
   split at hoj
   ·exact hoj
   ·cases hoj
  cases hg : get p.nw m with
  | none => exact absurd hg hm
  | some y => exact ⟨(k3 _ (mem_of_get hg)).1, _, hoj', (k3 _ (mem_of_get hg)).2⟩
 have once : ∀ (j k : Nat) p q m, tr[j]? = some p → tr[k]? = some q → get p.nw m ≠ none → get q.nw m ≠ none → j = k := by
  intro j k p q m hp hq' h1 h2
  obtain ⟨_, o1, q1, q2⟩ := names j p hp m h1
  obtain ⟨_, o2, q3, q4⟩ := names k q hq' m h2
  exact nodup_dst hnd j k o1 o2 _ q1 q3 q2 q4
 have deads : ∀ (k : Nat) p m, tr[k]? = some p → m ∈ p.dead → m.g = g ∧ (∃ ob, get (accT (tr.take k) st.σ) m = some ob) ∧ (∃ (j : Nat) (p' : TE), j < k ∧ tr[j]? = some p' ∧ get p'.nw m ≠ none) ∧ ∀ (j : Nat) o', l[j]? = some o' → o'.dst = some m.i → bit (masks l []) k j = true := by
  intro k p m hp hm
  have hkl : k < (l.take nq).length := by have := (List.getElem?_eq_some_iff.1 hp).1; omega
  obtain ⟨_, p', _, k2, _, k3⟩ := htr.split k _ (List.getElem?_eq_getElem hkl)
  rw [hp] at k2
  cases k2
  rcases k3 with ⟨_, _, k3⟩ | ⟨_, _, _, k3⟩ | ⟨_, σs, k3, _, k4, k5, k6⟩
  ·rw [k3] at hm; cases hm
  ·rw [k3] at hm; cases hm
  ·have hg := k5 m hm
   have hm' := hm
   rw [k3] at hm'
   obtain ⟨q, hqs, rfl⟩ := List.mem_map.1 hm'
   refine ⟨hg, ⟨q.2, k4 q hqs⟩, ?_, fun j o' hj hdj => ?_⟩
   ·rcases accT_some _ _ (k4 q hqs) with h | ⟨j, p', h1, h2⟩
    ·obtain ⟨⟨ng, ni, nj⟩, qo⟩ := q
     have hg' : ng = g := hg
     subst hg'
     rw [hσg] at h; cases h
    ·rw [List.getElem?_take] at h1
     split at h1
     ·rename_i hjk; exact ⟨j, p', hjk, h1, by rw [h2]; simp⟩
     ·cases h1
   ·have hx := List.all_eq_true.1 k6 q.1 hm
    have hjl := (List.getElem?_eq_some_iff.1 hj).1
    have hy := List.all_eq_true.1 hx j (List.mem_range.2 (by simpa using hjl))
    simp only [List.getElem?_map, hj, Option.map_some, Option.join_some, hdj, beq_self_eq_true, Bool.not_true, Bool.false_or, Nat.zero_add] at hy
    exact hy
 have twice' : ∀ (j k : Nat) p q m, j < k → tr[j]? = some p → tr[k]? = some q → m ∈ p.dead → m ∈ q.dead → False := by
  intro j k p q m hjk hp hq' h1 h2
  obtain ⟨_, _, ⟨j0, p0, hj0, hp0, hn0⟩, _⟩ := deads j p m hp h1
  obtain ⟨_, ⟨ob, hob⟩, _, _⟩ := deads k q m hq' h2
  have := accT_dead (m := m) (tr.take k) st.σ j p (by rw [List.getElem?_take, if_pos hjk]; exact hp) h1 fun x y hx hy => by
   rw [List.getElem?_take] at hy
   split at hy
   ·cases hz : get y.nw m with
    | none => rfl
    | some z => exact absurd (once j0 x p0 y m hp0 hy hn0 (by simp [hz])) (by omega)
   ·cases hy
  rw [this] at hob; cases hob
 have twice : ∀ (j k : Nat) p q m, j ≠ k → tr[j]? = some p → tr[k]? = some q → m ∈ p.dead → m ∉ q.dead := by
  intro j k p q m hjk hp hq' h1 h2
  rcases Nat.lt_or_gt_of_ne hjk with h | h
  ·exact twice' j k p q m h hp hq' h1 h2
  ·exact twice' k j q p m h hq' hp h2 h1
 have hput := kappT_put hL hL' hLo 0 tr (get st.σ) ⟨v, nw, dead⟩ (Nat.zero_le _) (by simpa using ht2) (by
  intro j q hq' hij hLj
  simp only [Nat.zero_add] at hij hLj
  refine ⟨fun n => ?_, fun n hn hd' => ?_, fun n hn => ?_⟩
  ·cases h1 : get nw n with
   | none => exact .inl rfl
   | some x =>
    cases h2 : get q.nw n with
    | none => exact .inr rfl
    | some y => exact absurd (once i j _ q n ht2 hq' (by simp [h1]) (by simp [h2])) (by omega)
  ·obtain ⟨_, o1, q1, q2⟩ := names i _ ht2 n hn
   obtain ⟨_, _, _, hb⟩ := deads j q n hq' hd'
   obtain ⟨mm, hmm, hbit⟩ := bit_spec (hb i o1 q1 q2)
   have hjl : j < (l.take nq).length := by have := (List.getElem?_eq_some_iff.1 hq').1; omega
   obtain ⟨oj, hjo⟩ : ∃ oj, l[j]? = some oj := ⟨_, List.getElem?_eq_getElem (show j < l.length by simp at hjl; omega)⟩
   have := anc hE hI.down j oj hjo (hI.down j oj hjo hLj) i mm hmm hbit
   rw [hL] at this; cases this
  ·obtain ⟨_, _, ⟨j0, p0, hj0, hp0, hn0⟩, _⟩ := deads i _ n ht2 hn
   cases hz : get q.nw n with
   | none => rfl
   | some z => exact absurd (once j0 j p0 q n hp0 hq' hn0 (by simp [hz])) (by omega))
 -- what follows once a value is there
 have fin : ∀ G' w' x, WF w0 G' w' → V G' w' x v → Objs w0 G' w' (kappT L' 0 tr (get st.σ)) → Step (rsv g o.dst) G w (kappT L 0 tr (get st.σ)) G' w' (kappT L' 0 tr (get st.σ)) → K (a.put o.dst x) w' := by
  intro G' w' x hw' hv ho hs
  have hsame : ∀ t, o.dst ≠ some t → (a.put o.dst x).tmps.getD t undef = a.tmps.getD t undef := by
   intro t ht
   cases hdo : o.dst with
   | none => rfl
   | some d =>
    simp only [Act.put, Array.getD_eq_getD_getElem?, Array.getElem?_setIfInBounds]
    rw [if_neg (fun e => ht (by rw [hdo, e]))]
  refine hK G' w' _ ⟨by rw [put_size, hI.size], by cases o.dst <;> exact hI.defers.step hs hI.wf hI.objs, hw', fun t d hl hno => ?_, fun j o' t p' hLj hj hdj hp => ?_, ho, ⟨Nat.lt_of_lt_of_le hI.fresh.1 hs.top, fun j o' d hLj hj hdj q => ?_⟩, hI.step.trans (hs.weaken fun n _ hn => hn.1), fun j o' hj hLj e he hb => ?_⟩
  ·have hne : o.dst ≠ some t := hno i o hL' hi
   rw [hsame t hne]
   obtain ⟨h1, h2⟩ := hI.old t d hl fun j o' hLj hj => by
    by_cases hji : j = i
    ·subst hji; rw [hL] at hLj; cases hLj
    ·exact hno j o' (by rw [hLo j hji]; exact hLj) hj
   exact ⟨h1, h2.step hs hI.wf hI.objs⟩
  ·by_cases hji : j = i
   ·subst hji
    rw [hi] at hj
    cases hj
    rw [ht2] at hp
    cases hp
    have := hdst t hdj
    simp only [hdj, Act.put, Array.getD_eq_getD_getElem?, Array.getElem?_setIfInBounds]
    simp only [↓reduceIte, this, Option.getD_some]
    exact hv
   ·rw [hLo j hji] at hLj
    rw [hsame t fun e => hji (nodup_dst hnd j i o' o t hj hi hdj e)]
    exact (hI.new j o' t p' hLj hj hdj hp).step hs hI.wf hI.objs
  ·have hji : j ≠ i := fun e => by subst e; rw [hL'] at hLj; cases hLj
   rw [hLo j hji] at hLj
   exact hs.fresh hI.fresh.1 (hI.fresh.2 j o' d hLj hj hdj q) fun ⟨_, he⟩ => hji (nodup_dst hnd j i o' o d hj hi hdj he)
  ·have keep : L e.on = true → L' e.on = true := fun h => by
    by_cases h' : e.on = i
    ·rw [h']; exact hL'
    ·rw [hLo _ h']; exact h
   by_cases hji : j = i
   ·subst hji
    rw [hi] at hj
    cases hj
    exact keep (hready e he hb)
   ·simp only at hLj
    rw [hLo j hji] at hLj
    exact keep (hI.down j o' hj hLj e he hb)
 unfold wpOpIn
 simp only [List.getElem?_toArray, hi]
 have opnd : ∀ x ∈ o.op.operands, V G w (a.eval x) (ev E envi x) := by
  intro x hx
  cases x with
  | tmp t =>
   simp only [Act.eval, Ab.ev]
   cases hl : lk envi t with
   | none => exact .any _
   | some d => exact (hsee t d (by unfold looks; exact List.mem_append_left _ (List.mem_filterMap.2 ⟨.tmp t, by simpa using hx, rfl⟩)) hl).2
  | const v => exact V.ofV G w v
  | global g => exact E.hglob w0 hA G w hI.wf g
  | func f => exact .func rfl rfl (by simp) (by simp)
 rcases hstep with ⟨hw, hqop, hde⟩ | ⟨hw, hv0, hn0, hde⟩ | ⟨hw, σs, hde, htop, hσs, _, _⟩
 ·simp only at hqop hde
  rw [if_pos (wanted_of hw hsee)]
  have hold : ∀ n x, get st.σ n = some x → kappT L 0 tr (get st.σ) n = some x := by
   intro n x hn
   rw [kappT_old 0 tr _ fun p hp => ?_]
   ·exact hn
   ·obtain ⟨j, hj⟩ := List.mem_iff_getElem?.1 hp
    have hng : n.g ≠ g := fun e => by
     obtain ⟨ng, ni, nj⟩ := n
     have e' : ng = g := e
     subst e'
     rw [hσg] at hn; cases hn
    refine ⟨?_, fun hd' => hng (deads j p n hj hd').1⟩
    cases hz : get p.nw n with
    | none => rfl
    | some y => exact absurd (names j p hj n (by simp [hz])).1 hng
  refine hqop w0 hA G w a hI.wf opnd (hI.objs.sub hold) (fun d hd' => ⟨hI.fresh.1, fun j => hI.fresh.2 i o d hL hi hd' j⟩) K Q' (fun G' w' x hw' hv ho hs => ?_) rd
  obtain ⟨f1, f2⟩ := frame (κs := get st.σ) (τ := fun n => if get st.σ n = none then kappT L 0 tr (get st.σ) n else none) hI.wf hI.objs hold (fun n x hn => by
    split at hn
    ·rename_i h0; exact ⟨hn, h0⟩
    ·cases hn) hs ho
  have he : Kp.or (Kp.or (get nw) (get st.σ)) (fun n => if get st.σ n = none then kappT L 0 tr (get st.σ) n else none) = kappT L' 0 tr (get st.σ) := by
   rw [hput]
   funext n
   simp only [Kp.or, minus, hde, List.not_mem_nil, if_false]
   cases h1 : get nw n with
   | some y => simp
   | none =>
    simp only [Option.none_or]
    cases h2 : get st.σ n with
    | none => simp
    | some y => simp [hold n y h2]
  rw [he] at f1 f2
  exact fin G' w' x hw' hv f1 f2
 ·simp only at hv0 hn0 hde
  rw [wanted_of hw hsee, if_neg (by simp)]
  refine ⟨fun f _ => fr_fn rd f, ?_⟩
  have he : kappT L' 0 tr (get st.σ) = kappT L 0 tr (get st.σ) := by
   rw [hput]
   funext n
   simp [Kp.or, get, hn0, minus, hde]
  exact fin G w undef hI.wf (by rw [hv0]; exact .val _) (by rw [he]; exact hI.objs) (by rw [he]; exact .refl _ _ _ _)
 ·simp only at hde htop hσs
  rw [if_pos (wanted_of hw hsee)]
  have hsub : ∀ n x, get σs n = some x → kappT L 0 tr (get st.σ) n = some x := by
   intro n x hn
   have hmem := mem_of_get hn
   have hdead : n ∈ dead := by rw [hde]; exact List.mem_map.2 ⟨_, hmem, rfl⟩
   obtain ⟨hng, _, _, hbit⟩ := deads i _ n ht2 hdead
   rcases accT_some _ _ (hσs _ hmem) with h | ⟨j, p', h1, h2⟩
   ·obtain ⟨ng, ni, nj⟩ := n
    have e' : ng = g := hng
    subst e'
    rw [hσg] at h; cases h
   ·have hj : j < i ∧ tr[j]? = some p' := by
     rw [List.getElem?_take] at h1
     split at h1
     ·rename_i hj; exact ⟨hj, h1⟩
     ·cases h1
    obtain ⟨_, o1, q1, q2⟩ := names j p' hj.2 n (by simp only at h2; simp [h2])
    obtain ⟨mm, hmm, hb⟩ := bit_spec (hbit j o1 q1 q2)
    have hLj := anc hE hI.down i o hi hready j mm hmm hb
    refine kappT_get 0 tr _ (fun k p hk hLk hd' => ?_) (fun k p hk _ => ?_) (.inr ⟨j, p', hj.2, by simpa using hLj, h2⟩)
    ·have hki : k ≠ i := fun e => by subst e; simp only [Nat.zero_add] at hLk; rw [hL] at hLk; cases hLk
     exact twice k i p _ n hki hk ht2 hd' hdead
    ·cases hz : get p.nw n with
     | none => exact .inl rfl
     | some y =>
      have := once j k p' p n hj.2 hk (by simp only at h2; simp [h2]) (by simp [hz])
      subst this
      rw [hj.2] at hk
      cases hk
      simp only at h2
      rw [← hz, h2]
      exact .inr rfl
  have hτ : ∀ n x, minus (kappT L 0 tr (get st.σ)) dead n = some x → kappT L 0 tr (get st.σ) n = some x ∧ get σs n = none := by
   intro n x hn
   simp only [minus] at hn
   split at hn
   ·cases hn
   ·rename_i hnd'
    refine ⟨hn, ?_⟩
    cases hz : get σs n with
    | none => rfl
    | some y => exact absurd (by rw [hde]; exact List.mem_map.2 ⟨_, mem_of_get hz, rfl⟩) hnd'
  have hfr := htop.frame hsub hτ
  refine hfr w0 hA G w a hI.wf opnd hI.objs (fun d hd' => ⟨hI.fresh.1, fun j => hI.fresh.2 i o d hL hi hd' j⟩) K Q' (fun G' w' x hw' hv ho hs => ?_) rd
  rw [← hput] at ho hs
  exact fin G' w' x hw' hv ho hs
theorem any_of_invT {rd : Option Nat} {w0 : World} (hA : E.A w0) {nq : Nat} (hnq : nq ≤ l.length) (hok : regOk N l nq = true) {tr : List TE} {env' : List (Nat × D)} (htr : TTrace E l (masks l []) g st.σ 0 st.σ (l.take nq) st.env tr env') (hσg : ∀ i j, get st.σ ⟨g, i, j⟩ = none)
  {G1 : Gh} {w1 : World} {Q' : Exit → Act → World → Prop} (hend : ∀ L G w a, (∀ j, j < nq → L j = true) → (∀ j, nq ≤ j → L j = false) → InvT w0 E N l g st tr G1 w1 L G w a → wpListIn (Fr rd) 0 E.P l.toArray Q' (l.drop nq) a w) :
  ∀ (fuel : Nat) (A : Array Bool) (G : Gh) (w : World) (a : Act), A.size = l.length → left A l.length = fuel → (∀ j, nq ≤ j → j < l.length → A.getD j true = false) → InvT w0 E N l g st tr G1 w1 (fun j => A.getD j false) G w a →
   wpAnyIn (Fr rd) 0 E.P .any l.toArray Q' fuel A a w := by
 have hok' := hok
 simp only [regOk, Bool.and_eq_true] at hok'
 obtain ⟨⟨⟨_, hE⟩, _⟩, htail⟩ := hok'
 have same : ∀ (A : Array Bool) (j : Nat), A.size = l.length → j < l.length → A.getD j true = A.getD j false := fun A j h1 h2 => by
  simp [show j < A.size by omega]
 intro fuel
 induction fuel with
 | zero =>
  intro A G w a hsz hlf hT hI
  have hall := left_zero hlf
  have hn : nq = l.length := by
   refine Nat.le_antisymm hnq (Nat.le_of_not_lt fun hlt => ?_)
   have h1 := hall nq hlt
   rw [hT nq (Nat.le_refl _) hlt] at h1
   cases h1
  refine any_of_list hE htail 0 l.length A a w hsz hnq (by omega) (fun j hj => by rw [hall j hj]; simp [hj]) ?_
  rw [← hn]
  refine hend _ G w a (fun j hj => by rw [← same A j hsz (by omega)]; exact hall j (by omega)) (fun j hj => ?_) hI
  simp [Array.getElem?_eq_none (show A.size ≤ j by omega)]
 | succ fuel ih =>
  intro A G w a hsz hlf hT hI
  by_cases hQ : left A nq = 0
  ·have hall := left_zero hQ
   have hcount : left A l.length = l.length - nq := by
    have : ∀ m, nq ≤ m → m ≤ l.length → left A m = m - nq := by
     intro m
     induction m with
     | zero => intro h1 _; rw [Nat.le_zero.1 h1] at hQ; simp [left]
     | succ m ihm =>
      intro h1 h2
      by_cases h3 : nq = m + 1
      ·rw [← h3, hQ]; omega
      ·rw [left_succ, ihm (by omega) (by omega), hT m (by omega) (by omega)]
       simp
       omega
    exact this _ hnq (Nat.le_refl _)
   refine any_of_list hE htail (fuel + 1) nq A a w hsz (Nat.le_refl _) (by omega) (fun j hj => ?_) ?_
   ·by_cases h : j < nq
    ·rw [hall j h]; simp [h]
    ·rw [hT j (by omega) hj]; simp [h]
   ·refine hend _ G w a (fun j hj => by rw [← same A j hsz (by omega)]; exact hall j hj) (fun j hj => ?_) hI
    by_cases h : j < l.length
    ·rw [← same A j hsz h]; exact hT j hj h
    ·simp [Array.getElem?_eq_none (show A.size ≤ j by omega)]
  ·obtain ⟨q, hq1, hq2, hq3⟩ := left_pos hQ
   have hoq : l[q]? = some l[q] := List.getElem?_eq_getElem (by omega)
   have hqr : q ∈ Region.ready .any l.toArray A := by
    refine mem_ready.2 ⟨hq2, l[q], by simp, fun e he hb => ?_⟩
    have := edgesOk_spec 0 l hE q _ hoq e he hb
    rw [← same A e.on hsz (by omega)]
    exact hq3 e.on (by omega)
   refine ⟨fun h0 => (by rw [h0] at hqr; cases hqr), fun i hi => ?_⟩
   obtain ⟨h1, o, h2, h3⟩ := mem_ready.1 hi
   simp only [List.getElem?_toArray] at h2
   have hil := (List.getElem?_eq_some_iff.1 h2).1
   have hin : i < nq := by
    refine Nat.lt_of_not_le fun hge => ?_
    have ht := allIdx_spec htail i o h2
    simp only [Nat.zero_add, Bool.or_eq_true, decide_eq_true_eq, List.all_eq_true] at ht
    have hb := (ht.resolve_left (by omega)) q (List.mem_range.2 (by omega))
    obtain ⟨m, hm, hbit⟩ := bit_spec hb
    have := anc hE hI.down i o h2 h3 q m hm hbit
    rw [← same A q hsz (by omega), hq2] at this
    cases this
   refine invT_step hA hok htr hσg hI h2 hin (by rw [← same A i hsz hil]; exact h1) h3 (L' := fun j => (A.setIfInBounds i true).getD j false) (by simp [show i < A.size by omega]) (fun j hj => getD_set_ne false (Ne.symm hj)) (fun G' w' a' hI' => ?_) rd
   refine ih (A.setIfInBounds i true) G' w' a' (by simpa using hsz) ?_ (fun j hj1 hj2 => by rw [getD_set_ne true (by omega)]; exact hT j hj1 hj2) hI'
   have := left_set A h1 l.length
   rw [if_pos hil] at this
   omega
theorem awp_drawT {Q : Exit → St → Prop} {id : Nat} (nq : Nat) (hnq : nq ≤ l.length) (hok : regOk N l nq = true)
  (h : ∀ g, (∀ i j, get st.σ ⟨g, i, j⟩ = none) → QRunT E l (masks l []) g st.σ 0 (AOps E N l g (fun s => Q .normal s) (l.drop nq)) (l.take nq) st) : AWp E N (.region id l.toArray true) Q st := by
 intro w0 hA G w a hN hr rd hrd
 obtain ⟨G1, ht, hf, hσ, hr1, hs1⟩ := bump hr
 have hok' := hok
 simp only [regOk, Bool.and_eq_true] at hok'
 obtain ⟨hnd, hlt⟩ := dstsOk_spec hok'.1.1.1
 obtain ⟨tr, env', htr, hK⟩ := h G.top hσ
 refine wpIn_region_any E.mixed ?_
 -- the draw
 have hV : ∀ v d, V G1 w v d → V G1 { w with drawn := w.drawn + 1 } v d := fun v d h => h.mono (fun _ h => h) (fun _ _ => rfl) (fun _ _ h => h)
 have hI0 : InvT w0 E N l G.top st tr G1 { w with drawn := w.drawn + 1 } (fun j => (Array.replicate l.length false).getD j false) G1 { w with drawn := w.drawn + 1 } a := by
  have hno : ∀ j, (Array.replicate l.length false).getD j false = false := fun j => by
   by_cases hj : j < l.length
   ·simp [hj]
   ·simp [Array.getElem?_eq_none (show (Array.replicate l.length false).size ≤ j by simp; omega)]
  have hk0 : kappT (fun j => (Array.replicate l.length false).getD j false) 0 tr (get st.σ) = get st.σ := kappT_none 0 tr _ hno
  refine ⟨hN, hr1.defers, ⟨hr1.wf.below.draw, hr1.wf.old, hr1.wf.lt, hr1.wf.nm⟩, fun t d hl _ => ⟨by rw [← hN]; exact (hr1.env t d hl).1, hV _ _ (hr1.env t d hl).2⟩, fun j o t p hL => ?_, ?_, ⟨by omega, fun j o d _ _ _ q => hf d q⟩, ?_, fun i o _ hL => ?_⟩
  ·rw [hno] at hL; cases hL
  ·rw [hk0]
   exact ⟨fun n o hn => let ⟨v, h1, h2, h3⟩ := hr1.objs.ob n o hn; ⟨v, h1, h2.mono hV fun _ _ => rfl, h3⟩, hr1.objs.ne⟩
  ·rw [hk0]; exact .refl _ _ _ _
  ·have hL' : (Array.replicate l.length false).getD i false = true := hL
   rw [hno] at hL'; cases hL'
 refine any_of_invT hA hnq hok htr hσ (fun L G' w' a' hL1 hL2 hI => ?_) l.toArray.size (Array.replicate l.toArray.size false) G1 _ a (by simp) (by simp only [List.size_toArray]; exact left_full _ _ (Nat.le_refl _)) (fun j h1 h2 => by simp [h2]) (by simpa using hI0)
 have hlen := htr.length
 have hkall : kappT L 0 tr (get st.σ) = get (accT tr st.σ) := kappT_all 0 tr st.σ fun j _ hj => hL1 j (by rw [hlen, List.length_take] at hj; omega)
 have hrel : Rel w0 G' w' a' ⟨env', accT tr st.σ⟩ := by
  refine ⟨hI.wf, fun t d hl => ?_, by rw [← hkall]; exact hI.objs, hI.defers⟩
  rw [hI.size]
  have get_take : ∀ (j : Nat) o, (l.take nq)[j]? = some o → j < nq ∧ l[j]? = some o := fun j o h => by
   rw [List.getElem?_take] at h
   split at h
   ·rename_i hj; exact ⟨hj, h⟩
   ·cases h
  rcases htr.env t with ⟨j, o, p, k1, k2, k3, k4⟩ | ⟨k1, k2⟩
  ·simp only at hl
   rw [k4] at hl
   cases hl
   obtain ⟨hj, hjo⟩ := get_take j o k1
   exact ⟨hlt o (List.mem_of_getElem? hjo) t k2, hI.new j o t p (hL1 j hj) hjo k2 k3⟩
  ·simp only at hl
   rw [k2] at hl
   refine hI.old t d hl fun j o hLj hj => ?_
   by_cases hjn : j < nq
   ·exact k1 j o (by rw [List.getElem?_take, if_pos hjn]; exact hj)
   ·rw [hL2 j (by omega)] at hLj; cases hLj
 refine hK w0 hA G' w' a' hI.size hrel hI.fresh.1 ?_ (fun o ho d hd => ?_) _ (fun G2 st2 a2 w2 q1 q2 q3 q4 => ⟨G2, st2, q1, q2, ?_, q4⟩) rd
 ·exact hnd.sublist ((List.drop_sublist nq l).filterMap _)
 ·obtain ⟨j, hj⟩ := List.mem_iff_getElem?.1 ho
  rw [List.getElem?_drop] at hj
  exact ⟨hlt o (List.mem_of_getElem? hj) d hd, hI.fresh.2 (nq + j) o d (hL2 _ (by omega)) hj hd⟩
 ·have hs2 : Step (fun n => n.g = G.top) G w (get st.σ) G1 { w with drawn := w.drawn + 1 } (get st.σ) :=
   ⟨Nat.le_refl _, fun _ _ _ => rfl, hs1.F, hs1.F', hs1.ρ, fun n h1 h2 _ => hs1.ρ' n h1 h2 fun h => h, hs1.top, hs1.blk', hs1.dom, hs1.base⟩
  have hstep := hI.step
  rw [hkall] at hstep
  exact ((hs2.trans hstep).trans q3).weaken fun n hn he => by omega
end
end Go.Ab
namespace Go.Ab
open Go Go.RowKit
section
variable {E : Ctx} {N : Nat} {ops : List Oper} {g : Nat} {σ0 : Sto} {st st' : St} {K : St → Prop} {ds : List (Option Tmp)} {M : List Nat} {i : Nat}
theorem qrunT_step {o : Oper} {r : List Oper} (hds : ops.map (·.dst) = ds) (h : stepQ E ds g σ0 o st = some st') (k : QRunT E ops M g σ0 (i + 1) K r st') : QRunT E ops M g σ0 i K (o :: r) st := by
 unfold stepQ at h
 rw [wantL_eq hds] at h
 split at h
 ·rename_i hw
  obtain ⟨⟨v, nw⟩, hd, he⟩ := Option.map_eq_some_iff.1 h
  subst he
  exact qrunT_cons (p := ⟨v, nw, []⟩) ⟨fun q hq => dop_names hd q hq, .inl ⟨hw, dop_sound hd, rfl⟩⟩ k
 ·rename_i hw
  cases h
  exact qrunT_cons (p := ⟨.val undef, [], []⟩) ⟨fun q hq => (by cases hq), .inr (.inl ⟨hw, rfl, rfl, rfl⟩)⟩ k
 ·cases h
theorem qrunT_run (n : Nat) (hds : ops.map (·.dst) = ds) : ∀ {i : Nat} {l l' : List Oper} {st st' : St}, qrun E ds g σ0 n l st = some (l', st') → n ≤ l.length → QRunT E ops M g σ0 (i + n) K l' st' → QRunT E ops M g σ0 i K l st := by
 induction n with
 | zero =>
  intro i l l' st st' h _ k
  simp only [qrun, Option.some.injEq, Prod.mk.injEq] at h
  obtain ⟨rfl, rfl⟩ := h
  exact k
 | succ n ih =>
  intro i l l' st st' h hl k
  cases l with
  | nil => simp at hl
  | cons o r =>
   simp only [qrun] at h
   split at h
   ·rename_i s hs
    exact qrunT_step hds hs (ih h (by simpa using hl) (by rw [show i + 1 + n = i + (n + 1) by omega]; exact k))
   ·cases h
theorem qrunT_eval (n : Nat) {l : List Oper} (hds : ops.map (·.dst) = ds) (hl : decide (n ≤ l.length) = true) (h : SomeP (qrun E ds g σ0 n l st) fun r => QRunT E ops M g σ0 (i + n) K r.1 r.2) : QRunT E ops M g σ0 i K l st := by
 obtain ⟨⟨l', st'⟩, h1, h2⟩ := h.elim
 exact qrunT_run n hds h1 (by simpa using hl) h2
theorem qrunT_last (n : Nat) {l : List Oper} (hds : ops.map (·.dst) = ds) (hl : decide (n ≤ l.length) = true) (h : SomeP (qrun E ds g σ0 n l st) fun r => r.1 = [] ∧ K r.2) : QRunT E ops M g σ0 i K l st := by
 obtain ⟨⟨l', st'⟩, h1, h2, h3⟩ := h.elim
 simp only at h2
 subst h2
 exact qrunT_run n hds h1 (by simpa using hl) (qrunT_nil h3)
theorem qrunT_call {o : Oper} {r : List Oper} {f : FuncId} {args args' : List D} {σs nw : Sto} {d : Nat} {x : D} (hds : ops.map (·.dst) = ds) (hw : wantL ds st.env o.guard = some true) (hd : o.dst = some d) (hc : calleeD o (ev E st.env) = some (f, args)) (h : ACalls E f args' σs g d x (nw ++ σs)) (hco : CoL args args')
  (hsub : ∀ p ∈ σs, get σ0 p.1 = some p.2) (hnw : nwOk g (some d) nw = true) (k : QRunT E ops M g σ0 (i + 1) K r { env := (d, x) :: st.env, σ := nw ++ st.σ }) : QRunT E ops M g σ0 i K (o :: r) st := by
 refine qrunT_cons (p := ⟨x, nw, []⟩) ⟨fun q hq => by rw [hd]; exact nwOk_spec hnw q hq, .inl ⟨by rw [← wantL_eq hds]; exact hw, Ab.qop_call hc hco hd h hsub, rfl⟩⟩ ?_
 rw [hd]
 exact k
theorem qrunT_pure {o : Oper} {r : List Oper} {f : FuncId} {args args' : List D} {nw : Sto} {d : Nat} {x : D} (hds : ops.map (·.dst) = ds) (hw : wantL ds st.env o.guard = some true) (hd : o.dst = some d) (hc : calleeD o (ev E st.env) = some (f, args)) (h : ACalls E f args' [] g d x nw) (hco : CoL args args')
  (hnw : nwOk g (some d) nw = true) (k : QRunT E ops M g σ0 (i + 1) K r { env := (d, x) :: st.env, σ := nw ++ st.σ }) : QRunT E ops M g σ0 i K (o :: r) st :=
 qrunT_call (σs := []) hds hw hd hc (by simpa using h) hco (fun p hp => by cases hp) hnw k
theorem qrunT_app {o : Oper} {r : List Oper} {t el : TypeId} {so x : Operand} {d : Nat} (hds : ops.map (·.dst) = ds) (hw : wantL ds st.env o.guard = some true) (hop : o.op = .call { callee := .builtin .append, args := #[so, x], argTypes := #[t, t] }) (hd : o.dst = some d)
  {n : Nm} {len : Nat} (hs : ev E st.env so = .own n len) {xf : Bool} {rows2 : List D} (hx : ev E st.env x = .sl xf rows2) {k : Nat}
  (he : elemS E.P t = some el) (hk : szOf E.P el = some k) {bs : Nat} (hbs : bytesOf E.P el = some bs) {z : Value} (hz : zeroOf E.P el = some z) (hzs : z.cells.size = k) (hk0 : 0 < k) (hng : n.g = g) (htk : turnOk M ds i [n] = true)
  (h : SomeP (get st.σ n) fun ob => SomeP (arrOf el k ob) fun rows => okRows k rows2 ∧ (rows.length + rows2.length ≤ 9223372036854775807 ∧ (rows.length + rows2.length) * bs ≤ 140737488355328) ∧
   QRunT E ops M g σ0 (i + 1) K r { env := (d, .own ⟨g, d, 0⟩ (rows.length + rows2.length)) :: st.env, σ := (⟨g, d, 0⟩, .arr el k (rows ++ rows2)) :: del st.σ n }) : QRunT E ops M g σ0 i K (o :: r) st := by
 obtain ⟨ob, h1, h⟩ := h.elim
 obtain ⟨rows, h2, h3, h4, h5⟩ := h.elim
 cases ob with
 | arr t' k' rows' =>
  simp only [arrOf] at h2
  split at h2
  ·rename_i hc
   obtain ⟨rfl, rfl⟩ := hc
   cases h2
   have htop := top_append (E := E) (g := g) (e := ev E st.env) (κ := get [(n, Ob.arr t' k' rows)]) hop hd hs (by simp [get]) hx he hk hbs hz hzs hk0 h3 h4.1 h4.2
   have he2 : (Kp.del (get [(n, Ob.arr t' k' rows)]) n).put ⟨g, d, 0⟩ (.arr t' k' (rows ++ rows2)) = get [(⟨g, d, 0⟩, .arr t' k' (rows ++ rows2))] := by
    funext m
    simp only [Kp.put, Kp.del, get]
    split <;> simp
   rw [he2] at htop
   refine qrunT_cons (p := ⟨.own ⟨g, d, 0⟩ (rows.length + rows2.length), [(⟨g, d, 0⟩, .arr t' k' (rows ++ rows2))], [n]⟩) ⟨fun q hq => ?_, .inr (.inr ⟨by rw [← wantL_eq hds]; exact hw, [(n, .arr t' k' rows)], rfl, htop, fun q hq => ?_, fun m hm => ?_, by rw [hds]; exact htk⟩)⟩ ?_
   ·simp only [List.mem_singleton] at hq
    subst hq
    exact ⟨rfl, hd⟩
   ·simp only [List.mem_singleton] at hq
    subst hq
    exact h1
   ·simp only [List.mem_singleton] at hm
    subst hm
    exact hng
   ·rw [hd]
    exact h5
  ·cases h2
 | _ => cases h2
theorem ret_nil {fn : Func} {d : Nat} {r : D} {σ' : Sto} (t : Nat) (ty : TypeId) (k : Nat) (ht : lk st.env t = some (.val (.slice none 0 0))) (h : ∀ g', (∀ i j, get st.σ ⟨g', i, j⟩ = none) → retQ E fn g d r σ' .ret { env := (t, .own ⟨g', 0, 0⟩ 0) :: st.env, σ := (⟨g', 0, 0⟩, .arr ty k []) :: st.σ }) : retQ E fn g d r σ' .ret st := Ends.sees (sees_nil t ty k ht h)
theorem awp_anyT {Q : Exit → St → Prop} {id : Nat} {l : List Oper} (nq : Nat) (M : List Nat) (hM : masks l [] = M) (hnq : decide (nq ≤ l.length) = true) (hok : regOk N l nq = true) (hds : l.map (·.dst) = ds)
  (h : ∀ g, (∀ i j, get st.σ ⟨g, i, j⟩ = none) → ∀ (ops : List Oper) (K : St → Prop), ops.map (·.dst) = ds → (∀ s, Q .normal s → K s) → QRunT E ops M g st.σ 0 (AOps E N ops g K (l.drop nq)) (l.take nq) st) : AWp E N (.region id l.toArray true) Q st :=
 awp_drawT nq (by simpa using hnq) hok fun g hg => by rw [hM]; exact h g hg l _ hds fun _ h => h
end
end Go.Ab
namespace Go.Ab
open Go Go.RowKit
section
variable {E : Ctx} {N : Nat} {l : List Oper} {g : Nat} {st : St}
def regOkA (N : Nat) (l : List Oper) (nq : Nat) : Bool :=
 dstsOk N l && edgesOk 0 l && allIdx (looksOk (masks l []) l) 0 l && allIdx (fun i _ => decide (i < nq) || (List.range nq).all fun j => bit (masks l []) i j) 0 l
def AAny (E : Ctx) (N : Nat) (l : List Oper) (g : Nat) (Q : St → Prop) (A : Array Bool) (st : St) : Prop :=
 ∀ w0, E.A w0 → ∀ G w a, a.tmps.size = N → Rel w0 G w a st → g < G.top → (∀ (i : Nat) o d, l[i]? = some o → A.getD i true = false → o.dst = some d → d < N ∧ ∀ j, G.ρ ⟨g, d, j⟩ = none) →
  ∀ (Q' : Exit → Act → World → Prop), (∀ G' st' a' w', a'.tmps.size = N → Rel w0 G' w' a' st' → Step (fun n => n.g = g) G w (get st.σ) G' w' (get st'.σ) → Q st' → Q' .normal a' w') →
   ∀ r, wpAnyIn (Fr r) 0 E.P .any l.toArray Q' (left A l.length) A a w
def AGo (E : Ctx) (N : Nat) (l : List Oper) (g : Nat) (Q : St → Prop) (A : Array Bool) (st : St) (i : Nat) : Prop :=
 ∃ o v σ', l[i]? = some o ∧ wantD l st.env o = some true ∧ TOp E g o (ev E st.env) (get st.σ) v (get σ') ∧ AAny E N l g Q (A.setIfInBounds i true) (st.env' o.dst v σ')
end
end Go.Ab
namespace Go.Ab
open Go Go.RowKit
theorem sl_true_cap {G : Gh} {w : World} {ad : Addr} {n c : Nat} {rows : List D} (h : V G w (.slice (some ad) n c) (.sl true rows)) (hr : 0 < rows.length) : c = rows.length := by
 cases h with
 | esl a => simp at hr
 | sl X hn h2 h3 hF hl hc hV => rw [h2 rfl, hn]
theorem top_appx {E : Ctx} {g : Nat} {o : Oper} {e : Operand → D} {κ : Kp} {t el : TypeId} {so x : Operand} (hop : o.op = .call { callee := .builtin .append, args := #[so, x], argTypes := #[t, t] }) {d : Nat} (hd : o.dst = some d)
  {rows rows2 : List D} (hs : e so = .sl true rows) {k : Nat} {xf : Bool} (hx : e x = .sl xf rows2) (hr : 0 < rows.length) (hr2 : 0 < rows2.length)
  (he : elemS E.P t = some el) (hk : szOf E.P el = some k) {bs : Nat} (hbs : bytesOf E.P el = some bs) {z : Value} (hz : zeroOf E.P el = some z) (hzs : z.cells.size = k) (hk0 : 0 < k) (hok : okRows k rows) (hok2 : okRows k rows2)
  (h63 : rows.length + rows2.length ≤ 9223372036854775807) (hb : (rows.length + rows2.length) * bs ≤ 140737488355328) :
  QOp E g o e κ (.own ⟨g, d, 0⟩ (rows.length + rows2.length)) [(⟨g, d, 0⟩, .arr el k (rows ++ rows2))] := by
 intro w0 hA G w a hw hV ho hf K Q' hK
 obtain ⟨hg, hfresh⟩ := hf d hd
 have hn2 := hfresh 0
 have hvs := hV so (by simp [hop, Op.operands, Call.operands])
 have hvx := hV x (by simp [hop, Op.operands, Call.operands])
 rw [hs] at hvs
 rw [hx] at hvx
 obtain ⟨i, hi⟩ : ∃ i, E.P.info? el = some i := by
  unfold szOf at hk
  cases hi : E.P.info? el with
  | none => rw [hi] at hk; cases hk
  | some i => exact ⟨i, rfl⟩
 have hik : i.size = k := by simpa [szOf, hi] using hk
 have hib : i.bytes = bs := by simpa [bytesOf, hi] using hbs
 have hiz : i.zero = some z := by simpa [zeroOf, hi] using hz
 have ht := elemS_spec he
 rcases sl_cells hvs hok hk0 with ⟨_, rfl⟩ | ⟨ad, c, olds, hsrc, hl, hcell, hone, hfl⟩
 ·simp at hr
 rcases sl_cells hvx hok2 hk0 with ⟨_, rfl⟩ | ⟨ad2, c2, news, hsrc2, hl2, hcell2, hone2, hfl2⟩
 ·simp at hr2
 have hc : c = rows.length := sl_true_cap (hsrc ▸ hvs) hr
 subst hc
 subst hik
 have hrun := run_append_grow (P := E.P) w t o.type el i z ht hi hiz ad rows.length rows.length olds hl hcell ad2 rows2.length c2 news hl2 hcell2 (by omega) (by omega) (growslice_fits (by omega) (by rw [hib]; exact hb))
 generalize hcp : grownCap w (rows.length + rows2.length) rows.length el = cp at hrun
 have hcp1 : rows.length + rows2.length ≤ cp := by rw [← hcp]; exact grownCap_ge _ _ _ _
 have hcp2 : cp ≤ maxLen := by rw [← hcp]; exact grownCap_le_maxLen _ _ _ _ (by simp only [maxLen]; omega)
 generalize hcur : (olds.toArray ++ news.toArray ++ Builtin.zeroCells z.cells (cp - (rows.length + rows2.length))) = cur at hrun
 have hcs : cur.size = cp * i.size := by
  rw [← hcur]
  simp only [Array.size_append, List.size_toArray, hl, hl2, size_zeroCells, hzs]
  rw [← Nat.add_mul, ← Nat.add_mul]
  congr 1
  omega
 have htake : cur.toList.take ((rows.length + rows2.length) * i.size) = olds ++ news := by
  rw [← hcur]
  simp only [Array.toList_append]
  rw [List.take_append_of_le_length (by simp [hl, hl2, Nat.add_mul])]
  exact List.take_of_length_le (by simp [hl, hl2, Nat.add_mul])
 have hnew : (w.drew.alloc (.cells cur el)).heap[w.heap.size]? = some (.cells cur el (0, 0)) := heap_alloc_n w.drew _
 have hsz : (w.drew.alloc (.cells cur el)).heap.size = w.heap.size + 1 := World.size_alloc w.drew _
 have hgr : Gr w (w.drew.alloc (.cells cur el)) none := Gr.of ⟨rfl, rfl, rfl, by rw [hsz]; omega, fun k hk _ => heap_alloc_o w.drew _ k hk⟩
 obtain ⟨h1, h2, h3⟩ := new_obj hw ho (hfresh 0) hg (v := .slice (some ⟨w.heap.size, 0, none⟩) (rows.length + rows2.length) cp) (ob := .arr el i.size (rows ++ rows2)) hgr (fun b hb => by simp [blk] at hb; omega)
  ⟨olds ++ news, ⟨by rw [List.length_append, List.length_append, hl, hl2, Nat.add_mul], .inr ⟨w.heap.size, cp, cur, by rw [List.length_append], hw.below.size, hnew, by rw [List.length_append]; exact hcp1, hcp2, hcs, by rw [List.length_append]; exact htake⟩⟩,
   (Flat.append hfl hl hfl2).mono fun y d' h => h.upd hn2 fun b hF => hgr.block b (hw.lt b hF) (by simp)⟩
 have hex : (execOp a.eval o).run E.P w = .ok (.value (.slice (some ⟨w.heap.size, 0, none⟩) (rows.length + rows2.length) cp)) (w.drew.alloc (.cells cur el)) := by
  simp [execOp, hop, resolve, invoke, builtin, hsrc, hsrc2, hrun]
 refine op_val hex ?_
 have hget : get [((⟨g, d, 0⟩ : Nm), Ob.arr el i.size (rows ++ rows2))] = single ⟨g, d, 0⟩ (.arr el i.size (rows ++ rows2)) := (get_single _ _).symm ▸ rfl
 refine hK _ _ _ h1 (.own (by simp [Gh.upd])) ?_ ?_
 ·rw [hget]; exact h2
 ·rw [hget]; exact h3.weaken fun m _ hm => by subst hm; exact ⟨rfl, hd⟩
theorem aops_appx {E : Ctx} {N : Nat} {st : St} {ops : List Oper} {ds : List (Option Tmp)} {g : Nat} {K : St → Prop} {o : Oper} {r : List Oper} {t el : TypeId} {so x : Operand} {d : Nat} (hds : ops.map (·.dst) = ds) (hw : wantL ds st.env o.guard = some true) (hop : o.op = .call { callee := .builtin .append, args := #[so, x], argTypes := #[t, t] }) (hd : o.dst = some d)
  {rows rows2 : List D} (hs : ev E st.env so = .sl true rows) {xf : Bool} (hx : ev E st.env x = .sl xf rows2) {k : Nat}
  (he : elemS E.P t = some el) (hk : szOf E.P el = some k) {bs : Nat} (hbs : bytesOf E.P el = some bs) {z : Value} (hz : zeroOf E.P el = some z) (hzs : z.cells.size = k) (hk0 : 0 < k)
  (h : (0 < rows.length ∧ 0 < rows2.length) ∧ (okRows k rows ∧ okRows k rows2) ∧ (rows.length + rows2.length ≤ 9223372036854775807 ∧ (rows.length + rows2.length) * bs ≤ 140737488355328) ∧
   AOps E N ops g K r { env := (d, .own ⟨g, d, 0⟩ (rows.length + rows2.length)) :: st.env, σ := (⟨g, d, 0⟩, .arr el k (rows ++ rows2)) :: st.σ }) : AOps E N ops g K (o :: r) st := by
 obtain ⟨⟨h1, h2⟩, ⟨h3, h4⟩, ⟨h5, h6⟩, h7⟩ := h
 refine aops_q (by rw [← wantL_eq hds]; exact hw) (top_appx hop hd hs hx h1 h2 he hk hbs hz hzs hk0 h3 h4 h5 h6) ?_
 simpa [St.put, hd] using h7
end Go.Ab
