/- A part of the proof, under no conditions of its own: ZAE. -/
import Derived.Test.YtkddeobmfhchfaaDoorZAD
namespace Go.Ab
open Go Go.RowKit

/-! ### Which operation waits for which -/

def maskOf (acc : List Nat) (o : Oper) : Nat :=
  o.after.toList.foldl (fun m e => if Region.binds .any e then m ||| 2 ^ e.on ||| acc.getD e.on 0 else m) 0

def masks : List Oper → List Nat → List Nat
  | [], acc => acc
  | o :: r, acc => masks r (acc ++ [maskOf acc o])

theorem foldl_bit (acc : List Nat) (j : Nat) : ∀ (l : List Edge) (m : Nat), (l.foldl (fun m e => if Region.binds .any e then m ||| 2 ^ e.on ||| acc.getD e.on 0 else m) m).testBit j = true →
    m.testBit j = true ∨ ∃ e ∈ l, Region.binds .any e = true ∧ (e.on = j ∨ (acc.getD e.on 0).testBit j = true)
  | [], m, h => .inl h
  | e :: l, m, h => by
    simp only [List.foldl_cons] at h
    rcases foldl_bit acc j l _ h with h1 | ⟨e', he, h2⟩
    · split at h1
      · rename_i hb
        simp only [Nat.testBit_or, Bool.or_eq_true] at h1
        rcases h1 with (h1 | h1) | h1
        · exact .inl h1
        · refine .inr ⟨e, List.mem_cons_self, hb, .inl ?_⟩
          rw [Nat.testBit_two_pow] at h1
          simpa using h1
        · exact .inr ⟨e, List.mem_cons_self, hb, .inr h1⟩
      · exact .inl h1
    · exact .inr ⟨e', List.mem_cons_of_mem _ he, h2⟩

theorem masks_get : ∀ (l : List Oper) (acc : List Nat), (masks l acc).length = acc.length + l.length ∧ (∀ i : Nat, i < acc.length → (masks l acc)[i]? = acc[i]?) ∧
    ∀ (i : Nat) o, l[i]? = some o → (masks l acc)[acc.length + i]? = some (maskOf ((masks l acc).take (acc.length + i)) o)
  | [], acc => ⟨by simp [masks], fun _ _ => rfl, fun i o h => by simp at h⟩
  | o :: r, acc => by
    obtain ⟨h1, h2, h3⟩ := masks_get r (acc ++ [maskOf acc o])
    simp only [masks]
    refine ⟨by rw [h1]; simp; omega, fun i hi => ?_, fun i o' ho => ?_⟩
    · rw [h2 i (by simp; omega), List.getElem?_append_left hi]
    · cases i with
      | zero =>
        simp only [List.getElem?_cons_zero, Option.some.injEq] at ho
        subst ho
        rw [Nat.add_zero, h2 acc.length (by simp), List.getElem?_append_right (by omega)]
        simp only [Nat.sub_self, List.getElem?_cons_zero, Option.some.injEq]
        congr 1
        apply List.ext_getElem?
        intro j
        rw [List.getElem?_take]
        split
        · rename_i hj
          rw [h2 j (by simp; omega), List.getElem?_append_left hj]
        · rename_i hj
          rw [List.getElem?_eq_none (by omega)]
      | succ i =>
        have := h3 i o' (by simpa using ho)
        simp only [List.length_append, List.length_singleton] at this
        rw [show acc.length + (i + 1) = acc.length + 1 + i by omega]
        exact this

def edgesOk : Nat → List Oper → Bool
  | _, [] => true
  | i, o :: r => (o.after.toList.all fun e => !Region.binds .any e || decide (e.on < i)) && edgesOk (i + 1) r

theorem edgesOk_spec : ∀ (k : Nat) (l : List Oper), edgesOk k l = true → ∀ (i : Nat) o, l[i]? = some o → ∀ e ∈ o.after, Region.binds .any e = true → e.on < k + i
  | _, [], _, i, o, h, _, _, _ => by simp at h
  | k, x :: r, h, i, o, ho, e, he, hb => by
    simp only [edgesOk, Bool.and_eq_true, List.all_eq_true, Bool.or_eq_true, Bool.not_eq_true', decide_eq_true_eq] at h
    cases i with
    | zero =>
      simp only [List.getElem?_cons_zero, Option.some.injEq] at ho
      subst ho
      rcases h.1 e (by simpa using he) with h1 | h1
      · rw [hb] at h1; cases h1
      · omega
    | succ i =>
      have := edgesOk_spec (k + 1) r h.2 i o (by simpa using ho) e he hb
      omega

/-- What has come up is closed: with an operation all that it waits for. -/
def Down (l : List Oper) (L : Nat → Prop) : Prop := ∀ (i : Nat) o, l[i]? = some o → L i → ∀ e ∈ o.after, Region.binds .any e = true → L e.on

theorem anc {l : List Oper} (hE : edgesOk 0 l = true) {L : Nat → Prop} (hL : Down l L) : ∀ (i : Nat) o, l[i]? = some o → (∀ e ∈ o.after, Region.binds .any e = true → L e.on) → ∀ j m, (masks l [])[i]? = some m → m.testBit j = true → L j := by
  intro i
  induction i using Nat.strongRecOn with
  | _ i ih =>
    intro o ho hall j m hm hb
    obtain ⟨h1, _, h3⟩ := masks_get l []
    have := h3 i o ho
    simp only [List.length_nil, Nat.zero_add] at this h1
    rw [this] at hm
    cases hm
    rcases foldl_bit _ j _ _ hb with h | ⟨e, he, hbd, h⟩
    · simp at h
    · have he' : e ∈ o.after := by simpa using he
      have hlt := edgesOk_spec 0 l hE i o ho e he' hbd
      simp only [Nat.zero_add] at hlt
      rcases h with rfl | h
      · exact hall e he' hbd
      · have hi := (List.getElem?_eq_some_iff.1 ho).1
        have hoe : l[e.on]? = some l[e.on] := List.getElem?_eq_getElem (by omega)
        have hme : (masks l [])[e.on]? = some (masks l [])[e.on] := List.getElem?_eq_getElem (by omega)
        refine ih e.on hlt _ hoe (hL e.on _ hoe (hall e he' hbd)) j _ hme ?_
        rw [List.getD_eq_getElem?_getD, List.getElem?_take, if_pos hlt, hme] at h
        exact h

/-- The temporaries that an operation looks at. -/
def looks (l : List Oper) (o : Oper) : List Nat :=
  (o.op.operands.toList.filterMap fun | .tmp t => some t | _ => none) ++
  (match o.guard with
   | some (j, _) => ((l[j]?).bind (·.dst)).toList
   | none => [])

def bit (M : List Nat) (i j : Nat) : Bool := (M.getD i 0).testBit j

/-- For operation i: each temporary that it looks at and that operation j writes: one waits for the other. -/
def looksOk (M : List Nat) (l : List Oper) (i : Nat) (o : Oper) : Bool :=
  (looks l o).all fun t => (List.range l.length).all fun j =>
    !((l[j]?).bind (·.dst) == some t) || j == i || (if j < i then bit M i j else bit M j i)

def allIdx (f : Nat → Oper → Bool) : Nat → List Oper → Bool
  | _, [] => true
  | i, o :: r => f i o && allIdx f (i + 1) r

theorem allIdx_spec {f : Nat → Oper → Bool} : ∀ {k : Nat} {l : List Oper}, allIdx f k l = true → ∀ (i : Nat) o, l[i]? = some o → f (k + i) o = true
  | _, [], _, i, o, h => by simp at h
  | k, x :: r, h, i, o, ho => by
    simp only [allIdx, Bool.and_eq_true] at h
    cases i with
    | zero => simp only [List.getElem?_cons_zero, Option.some.injEq] at ho; subst ho; exact h.1
    | succ i =>
      have := allIdx_spec h.2 i o (by simpa using ho)
      rw [show k + (i + 1) = k + 1 + i by omega]
      exact this

def regOk (N : Nat) (l : List Oper) (nq : Nat) : Bool :=
  dstsOk N l && edgesOk 0 l && allIdx (looksOk (masks l []) l) 0 l && allIdx (fun i _ => decide (i < nq) || (List.range i).all fun j => bit (masks l []) i j) 0 l

/-! ### The first part, in the order of the text -/

def putE (env : List (Nat × D)) (dst : Option Tmp) (v : D) : List (Nat × D) :=
  match dst with
  | some d => (d, v) :: env
  | none => env

def QStep (E : Ctx) (ops : List Oper) (g : Nat) (σ0 : Sto) (o : Oper) (env : List (Nat × D)) (v : D) (nw : Sto) : Prop :=
  (wantD ops env o = some true ∧ QOp E g o (ev E env) (get σ0) v nw ∧ ∀ p ∈ nw, p.1.g = g ∧ o.dst = some p.1.i) ∨ (wantD ops env o = some false ∧ v = .val undef ∧ nw = [])

inductive QTrace (E : Ctx) (ops : List Oper) (g : Nat) (σ0 : Sto) : List Oper → List (Nat × D) → List (D × Sto) → List (Nat × D) → Prop
  | nil {env : List (Nat × D)} : QTrace E ops g σ0 [] env [] env
  | cons {o : Oper} {r : List Oper} {env env' : List (Nat × D)} {v : D} {nw : Sto} {tr : List (D × Sto)} : QStep E ops g σ0 o env v nw → QTrace E ops g σ0 r (putE env o.dst v) tr env' → QTrace E ops g σ0 (o :: r) env ((v, nw) :: tr) env'

def accN : List (D × Sto) → Sto → Sto
  | [], acc => acc
  | (_, nw) :: r, acc => accN r (nw ++ acc)

def QRun (E : Ctx) (ops : List Oper) (g : Nat) (σ0 : Sto) (K : St → Prop) (l : List Oper) (st : St) : Prop :=
  ∃ tr env', QTrace E ops g σ0 l st.env tr env' ∧ K ⟨env', accN tr st.σ⟩

section
variable {E : Ctx} {N : Nat} {ops : List Oper} {g : Nat} {σ0 : Sto} {st : St}

theorem qrun_nil {K : St → Prop} (h : K st) : QRun E ops g σ0 K [] st := ⟨[], st.env, .nil, h⟩

theorem qrun_cons {K : St → Prop} {o : Oper} {r : List Oper} {v : D} {nw : Sto} (hs : QStep E ops g σ0 o st.env v nw) (h : QRun E ops g σ0 K r { env := putE st.env o.dst v, σ := nw ++ st.σ }) : QRun E ops g σ0 K (o :: r) st :=
  let ⟨tr, env', h1, h2⟩ := h
  ⟨(v, nw) :: tr, env', .cons hs h1, h2⟩

theorem QTrace.length {l : List Oper} {env env' : List (Nat × D)} {tr : List (D × Sto)} (h : QTrace E ops g σ0 l env tr env') : tr.length = l.length := by
  induction h with
  | nil => rfl
  | cons _ _ ih => simp [ih]

theorem QTrace.split {l : List Oper} {env env' : List (Nat × D)} {tr : List (D × Sto)} (h : QTrace E ops g σ0 l env tr env') : ∀ (i : Nat) o, l[i]? = some o → ∃ envi v nw, QTrace E ops g σ0 (l.take i) env (tr.take i) envi ∧ tr[i]? = some (v, nw) ∧ QStep E ops g σ0 o envi v nw := by
  induction h with
  | nil => intro i o h; simp at h
  | cons hs _ ih =>
    intro i o ho
    cases i with
    | zero => simp only [List.getElem?_cons_zero, Option.some.injEq] at ho; subst ho; exact ⟨_, _, _, .nil, rfl, hs⟩
    | succ i =>
      obtain ⟨envi, v, nw, h1, h2, h3⟩ := ih i o (by simpa using ho)
      exact ⟨envi, v, nw, .cons hs h1, h2, h3⟩

theorem QTrace.env {l : List Oper} {env env' : List (Nat × D)} {tr : List (D × Sto)} (h : QTrace E ops g σ0 l env tr env') (t : Nat) :
    (∃ (j : Nat) (o : Oper) (v : D) (nw : Sto), l[j]? = some o ∧ o.dst = some t ∧ tr[j]? = some (v, nw) ∧ lk env' t = some v) ∨ ((∀ (j : Nat) o, l[j]? = some o → o.dst ≠ some t) ∧ lk env' t = lk env t) := by
  induction h with
  | nil => exact .inr ⟨fun j o h => by simp at h, rfl⟩
  | cons hs _ ih =>
    rename_i o r env env' v nw tr _
    rcases ih with ⟨j, o', v', nw', h1, h2, h3, h4⟩ | ⟨h1, h2⟩
    · exact .inl ⟨j + 1, o', v', nw', by simpa using h1, h2, by simpa using h3, h4⟩
    · by_cases hd : o.dst = some t
      · refine .inl ⟨0, o, v, nw, rfl, hd, rfl, ?_⟩
        rw [h2, hd]
        simp [putE, lk]
      · refine .inr ⟨fun j o' ho => ?_, ?_⟩
        · cases j with
          | zero => simp only [List.getElem?_cons_zero, Option.some.injEq] at ho; subst ho; exact hd
          | succ j => exact h1 j o' (by simpa using ho)
        · rw [h2]
          cases hx : o.dst with
          | none => rfl
          | some d =>
            simp only [putE, lk]
            rw [if_neg (fun e => hd (by rw [hx, e]))]

/-- The objects when the operations in 'L' have come up. -/
def kapp (L : Nat → Bool) : Nat → List (D × Sto) → Kp → Kp
  | _, [], κ => κ
  | k, (_, nw) :: r, κ => kapp L (k + 1) r (if L k then Kp.or (get nw) κ else κ)

def Dis (a b : Kp) : Prop := ∀ n, a n = none ∨ b n = none

theorem or_comm' {a b κ : Kp} (h : Dis a b) : Kp.or a (Kp.or b κ) = Kp.or b (Kp.or a κ) := by
  funext n
  unfold Kp.or
  rcases h n with h | h <;> simp [h]

theorem kapp_or (L : Nat → Bool) (a : Kp) : ∀ (k : Nat) (tr : List (D × Sto)) (κ : Kp), (∀ p ∈ tr, Dis a (get p.2)) → kapp L k tr (Kp.or a κ) = Kp.or a (kapp L k tr κ)
  | _, [], _, _ => rfl
  | k, (v, nw) :: r, κ, h => by
    simp only [kapp]
    split
    · rw [← or_comm' (h (v, nw) List.mem_cons_self), kapp_or L a (k + 1) r _ fun p hp => h p (List.mem_cons_of_mem _ hp)]
    · exact kapp_or L a (k + 1) r κ fun p hp => h p (List.mem_cons_of_mem _ hp)

theorem kapp_congr {L L' : Nat → Bool} : ∀ (k : Nat) (tr : List (D × Sto)) (κ : Kp), (∀ j, k ≤ j → L j = L' j) → kapp L k tr κ = kapp L' k tr κ
  | _, [], _, _ => rfl
  | k, (_, _) :: r, κ, h => by
    simp only [kapp, h k (Nat.le_refl _)]
    exact kapp_congr (k + 1) r _ fun j hj => h j (by omega)

theorem kapp_put {L L' : Nat → Bool} {i : Nat} (hi : L i = false) (hi' : L' i = true) (ho : ∀ j, j ≠ i → L' j = L j) : ∀ (k : Nat) (tr : List (D × Sto)) (κ : Kp) (v : D) (nw : Sto), k ≤ i → tr[i - k]? = some (v, nw) →
    (∀ (j : Nat) p, tr[j]? = some p → k + j ≠ i → Dis (get nw) (get p.2)) → kapp L' k tr κ = Kp.or (get nw) (kapp L k tr κ)
  | k, [], κ, v, nw, _, h, _ => by simp at h
  | k, (v0, nw0) :: r, κ, v, nw, hk, h, hd => by
    simp only [kapp]
    by_cases he : k = i
    · subst he
      simp only [Nat.sub_self, List.getElem?_cons_zero, Option.some.injEq, Prod.mk.injEq] at h
      obtain ⟨rfl, rfl⟩ := h
      rw [hi, hi']
      simp only [if_true, Bool.false_eq_true, if_false]
      rw [kapp_congr (L' := L) (k + 1) r _ fun j hj => ho j (by omega)]
      refine kapp_or L _ (k + 1) r κ fun p hp => ?_
      obtain ⟨j, hj⟩ := List.mem_iff_getElem?.1 hp
      exact hd (j + 1) p (by simpa using hj) (by omega)
    · rw [ho k he]
      rw [show i - k = (i - (k + 1)) + 1 by omega, List.getElem?_cons_succ] at h
      have ih := fun κ' => kapp_put hi hi' ho (k + 1) r κ' v nw (by omega) h (fun j p hj hne => hd (j + 1) p (by simpa using hj) (by omega))
      split
      · rw [ih]
      · rw [ih]

theorem kapp_old {L : Nat → Bool} {n : Nm} : ∀ (k : Nat) (tr : List (D × Sto)) (κ : Kp), (∀ p ∈ tr, get p.2 n = none) → kapp L k tr κ n = κ n
  | _, [], _, _ => rfl
  | k, (v, nw) :: r, κ, h => by
    simp only [kapp]
    rw [kapp_old (k + 1) r _ fun p hp => h p (List.mem_cons_of_mem _ hp)]
    split
    · unfold Kp.or
      rw [h (v, nw) List.mem_cons_self]
      simp
    · rfl

theorem kapp_all {L : Nat → Bool} : ∀ (k : Nat) (tr : List (D × Sto)) (σ : Sto), (∀ j, k ≤ j → j < k + tr.length → L j = true) → kapp L k tr (get σ) = get (accN tr σ)
  | _, [], _, _ => rfl
  | k, (v, nw) :: r, σ, h => by
    simp only [kapp, accN]
    rw [h k (Nat.le_refl _) (by simp), if_pos rfl, ← get_append]
    exact kapp_all (k + 1) r _ fun j h1 h2 => h j (by omega) (by simp; omega)

theorem kapp_none {L : Nat → Bool} : ∀ (k : Nat) (tr : List (D × Sto)) (κ : Kp), (∀ j, L j = false) → kapp L k tr κ = κ
  | _, [], _, _ => rfl
  | k, (v, nw) :: r, κ, h => by
    simp only [kapp]
    rw [h k]
    exact kapp_none (k + 1) r _ h

end
end Go.Ab

namespace Go.Ab
open Go Go.RowKit

section
variable {E : Ctx} {N : Nat} {l : List Oper} {g : Nat} {st : St}

theorem wanted_of {env : List (Nat × D)} {G : Gh} {w : World} {tmps : Array Value} {o : Oper} {b : Bool} (h : wantD l env o = some b)
    (H : ∀ t d, t ∈ looks l o → lk env t = some d → t < tmps.size ∧ V G w (tmps.getD t undef) d) : Region.wanted o (yielded l.toArray tmps) = b := by
  unfold wantD at h
  unfold Region.wanted
  split at h
  · rename_i hg; cases h; simp [hg]
  · rename_i j want hg
    simp only [hg]
    unfold yielded
    simp only [List.getElem?_toArray]
    split at h
    · rename_i t ht
      have hmem : t ∈ looks l o := by
        unfold looks
        simp [hg, ht]
      simp only [ht, Option.bind_some]
      split at h
      · rename_i c hl
        cases h
        obtain ⟨hlt, hv⟩ := H t _ hmem hl
        have := V.of_val hv
        simp only [Array.getD_eq_getD_getElem?, hlt, getElem?_pos, Option.getD_some] at this
        simp only [hlt, getElem?_pos, this]
        cases c <;> cases want <;> rfl
      · rename_i vs hl
        cases h
        obtain ⟨hlt, hv⟩ := H t _ hmem hl
        have := V.of_val hv
        simp only [Array.getD_eq_getD_getElem?, hlt, getElem?_pos, Option.getD_some] at this
        simp only [hlt, getElem?_pos, this]
        cases want <;> rfl
      · cases h
    · rename_i ht
      cases h
      simp only [ht, Option.bind_none]
      cases want <;> rfl

/-- What holds when the operations in L have come up. -/
structure Inv (w0 : World) (E : Ctx) (N : Nat) (l : List Oper) (g : Nat) (st : St) (tr : List (D × Sto)) (G1 : Gh) (w1 : World) (L : Nat → Bool) (G : Gh) (w : World) (a : Act) : Prop where
  size : a.tmps.size = N
  defers : Marks G w a.defers
  wf : WF w0 G w
  old : ∀ t d, lk st.env t = some d → (∀ (j : Nat) o, L j = true → l[j]? = some o → o.dst ≠ some t) → t < N ∧ V G w (a.tmps.getD t undef) d
  new : ∀ (j : Nat) o t v nw, L j = true → l[j]? = some o → o.dst = some t → tr[j]? = some (v, nw) → V G w (a.tmps.getD t undef) v
  objs : Objs w0 G w (kapp L 0 tr (get st.σ))
  fresh : g < G.top ∧ ∀ (j : Nat) o d, L j = false → l[j]? = some o → o.dst = some d → ∀ q, G.ρ ⟨g, d, q⟩ = none
  step : Step (fun n => n.g = g) G1 w1 (get st.σ) G w (kapp L 0 tr (get st.σ))
  down : Down l (fun i => L i = true)

theorem nodup_dst {l : List Oper} (h : (l.filterMap (·.dst)).Nodup) : ∀ (i j : Nat) o o' d, l[i]? = some o → l[j]? = some o' → o.dst = some d → o'.dst = some d → i = j := by
  induction l with
  | nil => intro i j o o' d h; simp at h
  | cons x r ih =>
    intro i j o o' d hi hj hd hd'
    cases hx : x.dst with
    | none =>
      have h' : (r.filterMap (·.dst)).Nodup := by simpa only [List.filterMap_cons, hx] using h
      cases i with
      | zero => simp only [List.getElem?_cons_zero, Option.some.injEq] at hi; subst hi; rw [hx] at hd; cases hd
      | succ i =>
        cases j with
        | zero => simp only [List.getElem?_cons_zero, Option.some.injEq] at hj; subst hj; rw [hx] at hd'; cases hd'
        | succ j => rw [ih h' i j o o' d (by simpa using hi) (by simpa using hj) hd hd']
    | some y =>
      simp only [List.filterMap_cons, hx, List.nodup_cons] at h
      cases i with
      | zero =>
        simp only [List.getElem?_cons_zero, Option.some.injEq] at hi
        subst hi
        rw [hx] at hd
        cases hd
        cases j with
        | zero => rfl
        | succ j => exact absurd (List.mem_filterMap.2 ⟨o', List.mem_of_getElem? (by simpa using hj), hd'⟩) h.1
      | succ i =>
        cases j with
        | zero =>
          simp only [List.getElem?_cons_zero, Option.some.injEq] at hj
          subst hj
          rw [hx] at hd'
          cases hd'
          exact absurd (List.mem_filterMap.2 ⟨o, List.mem_of_getElem? (by simpa using hi), hd⟩) h.1
        | succ j => rw [ih h.2 i j o o' d (by simpa using hi) (by simpa using hj) hd hd']

theorem looksOk_spec {M : List Nat} {i : Nat} {o : Oper} (h : looksOk M l i o = true) {t : Nat} (ht : t ∈ looks l o) {j : Nat} {o' : Oper} (hj : l[j]? = some o') (hd : o'.dst = some t) (hne : j ≠ i) : if j < i then bit M i j = true else bit M j i = true := by
  unfold looksOk at h
  rw [List.all_eq_true] at h
  have h1 := h t ht
  rw [List.all_eq_true] at h1
  have h2 := h1 j (List.mem_range.2 (List.getElem?_eq_some_iff.1 hj).1)
  simp only [hj, Option.bind_some, hd, beq_self_eq_true, Bool.not_true, Bool.false_or, Bool.or_eq_true, beq_iff_eq] at h2
  rcases h2 with h2 | h2
  · exact absurd h2 hne
  · split
    · rename_i hlt; rw [if_pos hlt] at h2; exact h2
    · rename_i hlt; rw [if_neg hlt] at h2; exact h2

theorem bit_spec {M : List Nat} {i j : Nat} (h : bit M i j = true) : ∃ m, M[i]? = some m ∧ m.testBit j = true := by
  unfold bit at h
  rw [List.getD_eq_getElem?_getD] at h
  cases hm : M[i]? with
  | none => rw [hm] at h; simp at h
  | some m => rw [hm] at h; exact ⟨m, rfl, h⟩

/-- An operation of the first part comes up. -/
theorem inv_step {w0 : World} (hA : E.A w0) {nq : Nat} (hok : regOk N l nq = true) {tr : List (D × Sto)} {env' : List (Nat × D)} (htr : QTrace E l g st.σ (l.take nq) st.env tr env') (hσg : ∀ i j, get st.σ ⟨g, i, j⟩ = none)
    {G1 : Gh} {w1 : World} {L : Nat → Bool} {G : Gh} {w : World} {a : Act} (hI : Inv w0 E N l g st tr G1 w1 L G w a) {i : Nat} {o : Oper} (hi : l[i]? = some o) (hin : i < nq) (hL : L i = false) (hready : ∀ e ∈ o.after, Region.binds .any e = true → L e.on = true)
    {L' : Nat → Bool} (hL' : L' i = true) (hLo : ∀ j, j ≠ i → L' j = L j) {Q' : Exit → Act → World → Prop} {K : Act → World → Prop} (hK : ∀ G' w' a', Inv w0 E N l g st tr G1 w1 L' G' w' a' → K a' w') : ∀ r, wpOpIn (Fr r) 0 E.P l.toArray Q' i K a w := by
  intro rd
  simp only [regOk, Bool.and_eq_true] at hok
  obtain ⟨⟨⟨hd, hE⟩, hlk⟩, _⟩ := hok
  obtain ⟨hnd, hlt⟩ := dstsOk_spec hd
  have hlook := allIdx_spec hlk i o hi
  simp only [Nat.zero_add] at hlook
  have hq : (l.take nq)[i]? = some o := by rw [List.getElem?_take, if_pos hin]; exact hi
  obtain ⟨envi, v, nw, ht1, ht2, hstep⟩ := htr.split i o hq
  -- a temporary that the operation looks at holds what it did in the order of the text
  have hsee : ∀ t d, t ∈ looks l o → lk envi t = some d → t < a.tmps.size ∧ V G w (a.tmps.getD t undef) d := by
    intro t d ht hl
    rw [hI.size]
    rcases ht1.env t with ⟨j, o', v', nw', k1, k2, k3, k4⟩ | ⟨k1, k2⟩
    · rw [k4] at hl
      cases hl
      have hji : j < i ∧ l[j]? = some o' := by
        rw [List.getElem?_take] at k1
        split at k1
        · rename_i h1
          rw [List.getElem?_take] at k1
          split at k1
          · exact ⟨h1, k1⟩
          · cases k1
        · cases k1
      have hb := looksOk_spec hlook ht hji.2 k2 (by omega)
      rw [if_pos hji.1] at hb
      obtain ⟨m, hm, hbit⟩ := bit_spec hb
      have hLj := anc hE hI.down i o hi hready j m hm hbit
      have k3' : tr[j]? = some (d, nw') := by
        rw [List.getElem?_take] at k3
        split at k3
        · exact k3
        · cases k3
      exact ⟨hlt o' (List.mem_of_getElem? hji.2) t k2, hI.new j o' t d nw' hLj hji.2 k2 k3'⟩
    · rw [k2] at hl
      refine hI.old t d hl fun j o' hLj hj hdj => ?_
      have hji : ¬ j < i := fun h => k1 j o' (by rw [List.getElem?_take, if_pos h, List.getElem?_take, if_pos (by omega)]; exact hj) hdj
      have hne : j ≠ i := fun e => by subst e; rw [hL] at hLj; cases hLj
      have hb := looksOk_spec hlook ht hj hdj hne
      rw [if_neg hji] at hb
      obtain ⟨m, hm, hbit⟩ := bit_spec hb
      have := anc hE hI.down j o' hj (hI.down j o' hj hLj) i m hm hbit
      rw [hL] at this
      cases this
  have hdst : ∀ d, o.dst = some d → d < a.tmps.size := fun d hd' => by rw [hI.size]; exact hlt o (List.mem_of_getElem? hi) d hd'
  have hlen := htr.length
  have hilt : i < (l.take nq).length := (List.getElem?_eq_some_iff.1 hq).1
  -- names of different operations' new things are different
  have names : ∀ (j : Nat) p, tr[j]? = some p → ∀ q ∈ p.2, q.1.g = g ∧ ∃ o', l[j]? = some o' ∧ o'.dst = some q.1.i := by
    intro j p hp q hq'
    have hjl : j < (l.take nq).length := by have := (List.getElem?_eq_some_iff.1 hp).1; omega
    have hoj : (l.take nq)[j]? = some (l.take nq)[j] := List.getElem?_eq_getElem hjl
    obtain ⟨_, v', nw', _, k2, k3⟩ := htr.split j _ hoj
    rw [hp] at k2
    cases k2
    have hoj' : l[j]? = some (l.take nq)[j] := by
      rw [List.getElem?_take] at hoj
      split at hoj
      · exact hoj
      · cases hoj
    rcases k3 with ⟨_, _, k3⟩ | ⟨_, _, k3⟩
    · exact ⟨(k3 q hq').1, _, hoj', (k3 q hq').2⟩
    · simp only at hq'
      rw [k3] at hq'
      cases hq'
  have hdis : ∀ (j : Nat) p, tr[j]? = some p → 0 + j ≠ i → Dis (get nw) (get p.2) := by
    intro j p hp hne n
    cases h1 : get nw n with
    | none => exact .inl rfl
    | some x =>
      cases h2 : get p.2 n with
      | none => exact .inr rfl
      | some y =>
        obtain ⟨_, o1, q1, q2⟩ := names i _ ht2 (n, x) (mem_of_get h1)
        obtain ⟨_, o2, q3, q4⟩ := names j _ hp (n, y) (mem_of_get h2)
        exact absurd (nodup_dst hnd i j o1 o2 _ q1 q3 q2 q4) (by omega)
  have hput := kapp_put hL hL' hLo 0 tr (get st.σ) v nw (Nat.zero_le _) (by simpa using ht2) hdis
  -- what follows once a value is there
  have fin : ∀ G' w' x, WF w0 G' w' → V G' w' x v → Objs w0 G' w' (kapp L' 0 tr (get st.σ)) → Step (rsv g o.dst) G w (kapp L 0 tr (get st.σ)) G' w' (kapp L' 0 tr (get st.σ)) → K (a.put o.dst x) w' := by
    intro G' w' x hw' hv ho hs
    have hsame : ∀ t, o.dst ≠ some t → (a.put o.dst x).tmps.getD t undef = a.tmps.getD t undef := by
      intro t ht
      cases hdo : o.dst with
      | none => rfl
      | some d =>
        simp only [Act.put, Array.getD_eq_getD_getElem?, Array.getElem?_setIfInBounds]
        rw [if_neg (fun e => ht (by rw [hdo, e]))]
    refine hK G' w' _ ⟨by rw [put_size, hI.size], by cases o.dst <;> exact hI.defers.step hs hI.wf hI.objs, hw', fun t d hl hno => ?_, fun j o' t v' nw' hLj hj hdj hp => ?_, ho, ⟨Nat.lt_of_lt_of_le hI.fresh.1 hs.top, fun j o' d hLj hj hdj q => ?_⟩, hI.step.trans (hs.weaken fun n _ hn => hn.1), fun j o' hj hLj e he hb => ?_⟩
    · have hne : o.dst ≠ some t := hno i o hL' hi
      rw [hsame t hne]
      obtain ⟨h1, h2⟩ := hI.old t d hl fun j o' hLj hj => by
        by_cases hji : j = i
        · subst hji; rw [hL] at hLj; cases hLj
        · exact hno j o' (by rw [hLo j hji]; exact hLj) hj
      exact ⟨h1, h2.step hs hI.wf hI.objs⟩
    · by_cases hji : j = i
      · subst hji
        rw [hi] at hj
        cases hj
        rw [ht2] at hp
        cases hp
        have := hdst t hdj
        simp only [hdj, Act.put, Array.getD_eq_getD_getElem?, Array.getElem?_setIfInBounds]
        simp only [↓reduceIte, this, Option.getD_some]
        exact hv
      · rw [hLo j hji] at hLj
        rw [hsame t fun e => hji (nodup_dst hnd j i o' o t hj hi hdj e)]
        exact (hI.new j o' t v' nw' hLj hj hdj hp).step hs hI.wf hI.objs
    · have hji : j ≠ i := fun e => by subst e; rw [hL'] at hLj; cases hLj
      rw [hLo j hji] at hLj
      exact hs.fresh hI.fresh.1 (hI.fresh.2 j o' d hLj hj hdj q) fun ⟨_, he⟩ => hji (nodup_dst hnd j i o' o d hj hi hdj he)
    · have keep : L e.on = true → L' e.on = true := fun h => by
        by_cases h' : e.on = i
        · rw [h']; exact hL'
        · rw [hLo _ h']; exact h
      by_cases hji : j = i
      · subst hji
        rw [hi] at hj
        cases hj
        exact keep (hready e he hb)
      · simp only at hLj
        rw [hLo j hji] at hLj
        exact keep (hI.down j o' hj hLj e he hb)
  unfold wpOpIn
  simp only [List.getElem?_toArray, hi]
  rcases hstep with ⟨hw, hqop, _⟩ | ⟨hw, rfl, rfl⟩
  · rw [if_pos (wanted_of hw hsee)]
    have hold : ∀ n x, get st.σ n = some x → kapp L 0 tr (get st.σ) n = some x := by
      intro n x hn
      rw [kapp_old 0 tr _ fun p hp => ?_]
      · exact hn
      · cases hg : get p.2 n with
        | none => rfl
        | some y =>
          obtain ⟨j, hj⟩ := List.mem_iff_getElem?.1 hp
          have := (names j p hj (n, y) (mem_of_get hg)).1
          obtain ⟨ng, ni, nj⟩ := n
          have this' : ng = g := this
          subst this'
          rw [hσg] at hn
          cases hn
    refine hqop w0 hA G w a hI.wf (fun x hx => ?_) (hI.objs.sub hold) (fun d hd' => ⟨hI.fresh.1, fun j => hI.fresh.2 i o d hL hi hd' j⟩) K Q' (fun G' w' x hw' hv ho hs => ?_) rd
    · cases x with
      | tmp t =>
        simp only [Act.eval, Ab.ev]
        cases hl : lk envi t with
        | none => exact .any _
        | some d => exact (hsee t d (by unfold looks; exact List.mem_append_left _ (List.mem_filterMap.2 ⟨.tmp t, by simpa using hx, rfl⟩)) hl).2
      | const v => exact V.ofV G w v
      | global g => exact E.hglob w0 hA G w hI.wf g
      | func f => exact .func rfl rfl (by simp) (by simp)
    · obtain ⟨f1, f2⟩ := frame (κs := get st.σ) (τ := fun n => if get st.σ n = none then kapp L 0 tr (get st.σ) n else none) hI.wf hI.objs hold (fun n x hn => by
        split at hn
        · rename_i h0; exact ⟨hn, h0⟩
        · cases hn) hs ho
      have he : Kp.or (Kp.or (get nw) (get st.σ)) (fun n => if get st.σ n = none then kapp L 0 tr (get st.σ) n else none) = kapp L' 0 tr (get st.σ) := by
        rw [hput]
        funext n
        simp only [Kp.or]
        cases h1 : get nw n with
        | some y => simp
        | none =>
          simp only [Option.none_or]
          cases h2 : get st.σ n with
          | none => simp
          | some y => simp [hold n y h2]
      rw [he] at f1 f2
      exact fin G' w' x hw' hv f1 f2
  · rw [wanted_of hw hsee, if_neg (by simp)]
    refine ⟨fun f _ => fr_fn rd f, ?_⟩
    have he : kapp L' 0 tr (get st.σ) = kapp L 0 tr (get st.σ) := by
      rw [hput]
      funext n
      simp [Kp.or, get]
    exact fin G w undef hI.wf (.val _) (by rw [he]; exact hI.objs) (by rw [he]; exact .refl _ _ _ _)

end
end Go.Ab

namespace Go.Ab
open Go Go.RowKit

section
variable {E : Ctx} {N : Nat} {l : List Oper} {g : Nat} {st : St}

/-- How many have not come up. -/
def left (A : Array Bool) (n : Nat) : Nat := (List.range n).countP fun i => !A.getD i true

theorem left_succ (A : Array Bool) (n : Nat) : left A (n + 1) = left A n + (if A.getD n true then 0 else 1) := by
  unfold left
  rw [List.range_succ, List.countP_append]
  congr 1
  simp only [List.countP_cons, List.countP_nil, Nat.zero_add]
  cases A.getD n true <;> rfl

theorem left_set (A : Array Bool) {i : Nat} (hi : A.getD i true = false) : ∀ n, left (A.setIfInBounds i true) n + (if i < n then 1 else 0) = left A n
  | 0 => by simp [left]
  | n + 1 => by
    have ih := left_set A hi n
    rw [left_succ, left_succ]
    by_cases hn : n = i
    · subst hn
      have hlt : n < A.size := by
        rcases Nat.lt_or_ge n A.size with h | h
        · exact h
        · simp [Array.getElem?_eq_none h] at hi
      have : (A.setIfInBounds n true).getD n true = true := by simp [hlt]
      rw [this, hi]
      simp at ih ⊢
      omega
    · rw [getD_set_ne true (Ne.symm hn)]
      by_cases h : i < n
      · rw [if_pos h] at ih; rw [if_pos (show i < n + 1 by omega)]; omega
      · rw [if_neg h] at ih; rw [if_neg (show ¬ i < n + 1 by omega)]; omega

theorem left_zero {A : Array Bool} {n : Nat} (h : left A n = 0) : ∀ i, i < n → A.getD i true = true := by
  intro i hi
  unfold left at h
  rw [List.countP_eq_zero] at h
  have := h i (List.mem_range.2 hi)
  simpa using this

theorem left_pos {A : Array Bool} : ∀ {n : Nat}, left A n ≠ 0 → ∃ i, i < n ∧ A.getD i true = false ∧ ∀ j, j < i → A.getD j true = true
  | 0, h => by simp [left] at h
  | n + 1, h => by
    by_cases h0 : left A n = 0
    · rw [left_succ, h0] at h
      refine ⟨n, by omega, ?_, fun j hj => left_zero h0 j hj⟩
      cases hA : A.getD n true
      · rfl
      · rw [hA] at h; simp at h
    · obtain ⟨i, h1, h2, h3⟩ := left_pos h0
      exact ⟨i, by omega, h2, h3⟩

theorem left_full (n m : Nat) (h : m ≤ n) : left (Array.replicate n false) m = m := by
  unfold left
  have : (List.range m).countP (fun i => !(Array.replicate n false).getD i true) = (List.range m).length := by
    rw [List.countP_eq_length]
    intro i hi
    have := List.mem_range.1 hi
    simp [show i < n by omega]
  rw [this, List.length_range]

/-- The last part: each waits for all ahead of it. -/
theorem any_of_list {rd : Option Nat} {P : Program} {Q' : Exit → Act → World → Prop} {nq : Nat} (hE : edgesOk 0 l = true) (htail : allIdx (fun i _ => decide (i < nq) || (List.range i).all fun j => bit (masks l []) i j) 0 l = true) :
    ∀ (fuel k : Nat) (A : Array Bool) (a : Act) (w : World), A.size = l.length → nq ≤ k → k + fuel = l.length → (∀ j, j < l.length → A.getD j true = decide (j < k)) → wpListIn (Fr rd) 0 P l.toArray Q' (l.drop k) a w →
      wpAnyIn (Fr rd) 0 P .any l.toArray Q' fuel A a w := by
  intro fuel
  induction fuel with
  | zero =>
    intro k A a w _ _ hk hA h
    rw [List.drop_eq_nil_of_le (by omega)] at h
    refine ⟨?_, h⟩
    cases hr : Region.ready .any l.toArray A with
    | nil => rfl
    | cons i r =>
      have hi : i ∈ Region.ready .any l.toArray A := by rw [hr]; exact List.mem_cons_self
      obtain ⟨h1, o, h2, _⟩ := mem_ready.1 hi
      simp only [List.getElem?_toArray] at h2
      have := (List.getElem?_eq_some_iff.1 h2).1
      rw [hA i this] at h1
      simp at h1
      omega
  | succ fuel ih =>
    intro k A a w hsz hnq hk hA h
    have hkl : k < l.length := by omega
    have hok : l[k]? = some l[k] := List.getElem?_eq_getElem hkl
    have hkr : k ∈ Region.ready .any l.toArray A := by
      refine mem_ready.2 ⟨by rw [hA k hkl]; simp, l[k], by simp, fun e he hb => ?_⟩
      have := edgesOk_spec 0 l hE k _ hok e he hb
      have hA' := hA e.on (by omega)
      rw [Array.getD_eq_getD_getElem?] at hA' ⊢
      simp only [show e.on < A.size by omega, getElem?_pos, Option.getD_some] at hA' ⊢
      rw [hA']
      simp
      omega
    have hdown : Down l fun j => j < l.length ∧ A.getD j true = true := by
      intro i o hi hL e he hb
      have hil := (List.getElem?_eq_some_iff.1 hi).1
      have := edgesOk_spec 0 l hE i o hi e he hb
      have h1 := hL.2
      rw [hA i hil] at h1
      simp only [decide_eq_true_eq] at h1
      exact ⟨by omega, by rw [hA e.on (by omega)]; simp; omega⟩
    refine ⟨fun h0 => (by rw [h0] at hkr; cases hkr), fun i hi => ?_⟩
    obtain ⟨h1, o, h2, h3⟩ := mem_ready.1 hi
    simp only [List.getElem?_toArray] at h2
    have hil := (List.getElem?_eq_some_iff.1 h2).1
    rw [hA i hil] at h1
    simp only [decide_eq_false_iff_not] at h1
    have hik : i = k := by
      refine Nat.le_antisymm (Nat.le_of_not_lt fun hlt => ?_) (by omega)
      have ht := allIdx_spec htail i o h2
      simp only [Nat.zero_add, Bool.or_eq_true, decide_eq_true_eq, List.all_eq_true] at ht
      have hb := (ht.resolve_left (by omega)) k (List.mem_range.2 hlt)
      obtain ⟨m, hm, hbit⟩ := bit_spec hb
      have := anc hE hdown i o h2 (fun e he hb => by
        have h4 := h3 e he hb
        have := edgesOk_spec 0 l hE i o h2 e he hb
        refine ⟨by omega, ?_⟩
        rw [Array.getD_eq_getD_getElem?] at h4 ⊢
        simp only [show e.on < A.size by omega, getElem?_pos, Option.getD_some] at h4 ⊢
        exact h4) k m hm hbit
      have := this.2
      rw [hA k hkl] at this
      simp at this
    subst hik
    rw [List.drop_eq_getElem_cons hkl] at h
    simp only [wpListIn] at h
    unfold wpOpIn
    simp only [List.getElem?_toArray, hok]
    have next : ∀ a w, wpListIn (Fr rd) 0 P l.toArray Q' (l.drop (i + 1)) a w → wpAnyIn (Fr rd) 0 P .any l.toArray Q' fuel (A.setIfInBounds i true) a w := fun a w hw => by
      refine ih (i + 1) (A.setIfInBounds i true) a w (by simpa using hsz) (by omega) (by omega) (fun j hj => ?_) hw
      by_cases hji : i = j
      · subst hji
        simp [show i < A.size by omega]
      · rw [getD_set_ne true hji, hA j hj]
        congr 1
        simp only [eq_iff_iff]
        omega
    split
    · rename_i hw
      rw [if_pos hw] at h
      exact Oper.wpIn_mono next h
    · rename_i hw
      rw [if_neg hw] at h
      exact ⟨fun f _ => fr_fn rd f, next _ _ h.2⟩

theorem any_of_inv {rd : Option Nat} {w0 : World} (hA : E.A w0) {nq : Nat} (hnq : nq ≤ l.length) (hok : regOk N l nq = true) {tr : List (D × Sto)} {env' : List (Nat × D)} (htr : QTrace E l g st.σ (l.take nq) st.env tr env') (hσg : ∀ i j, get st.σ ⟨g, i, j⟩ = none)
    {G1 : Gh} {w1 : World} {Q' : Exit → Act → World → Prop} (hend : ∀ L G w a, (∀ j, j < nq → L j = true) → (∀ j, nq ≤ j → L j = false) → Inv w0 E N l g st tr G1 w1 L G w a → wpListIn (Fr rd) 0 E.P l.toArray Q' (l.drop nq) a w) :
    ∀ (fuel : Nat) (A : Array Bool) (G : Gh) (w : World) (a : Act), A.size = l.length → left A l.length = fuel → (∀ j, nq ≤ j → j < l.length → A.getD j true = false) → Inv w0 E N l g st tr G1 w1 (fun j => A.getD j false) G w a →
      wpAnyIn (Fr rd) 0 E.P .any l.toArray Q' fuel A a w := by
  have hok' := hok
  simp only [regOk, Bool.and_eq_true] at hok'
  obtain ⟨⟨⟨_, hE⟩, _⟩, htail⟩ := hok'
  have same : ∀ (A : Array Bool) (j : Nat), A.size = l.length → j < l.length → A.getD j true = A.getD j false := fun A j h1 h2 => by
    simp [show j < A.size by omega]
  intro fuel
  induction fuel with
  | zero =>
    intro A G w a hsz hlf hT hI
    have hall := left_zero hlf
    have hn : nq = l.length := by
      refine Nat.le_antisymm hnq (Nat.le_of_not_lt fun hlt => ?_)
      have h1 := hall nq hlt
      rw [hT nq (Nat.le_refl _) hlt] at h1
      cases h1
    refine any_of_list hE htail 0 l.length A a w hsz hnq (by omega) (fun j hj => by rw [hall j hj]; simp [hj]) ?_
    rw [← hn]
    refine hend _ G w a (fun j hj => by rw [← same A j hsz (by omega)]; exact hall j (by omega)) (fun j hj => ?_) hI
    simp [Array.getElem?_eq_none (show A.size ≤ j by omega)]
  | succ fuel ih =>
    intro A G w a hsz hlf hT hI
    by_cases hQ : left A nq = 0
    · have hall := left_zero hQ
      have hcount : left A l.length = l.length - nq := by
        have : ∀ m, nq ≤ m → m ≤ l.length → left A m = m - nq := by
          intro m
          induction m with
          | zero => intro h1 _; rw [Nat.le_zero.1 h1] at hQ; simp [left]
          | succ m ihm =>
            intro h1 h2
            by_cases h3 : nq = m + 1
            · rw [← h3, hQ]; omega
            · rw [left_succ, ihm (by omega) (by omega), hT m (by omega) (by omega)]
              simp
              omega
        exact this _ hnq (Nat.le_refl _)
      refine any_of_list hE htail (fuel + 1) nq A a w hsz (Nat.le_refl _) (by omega) (fun j hj => ?_) ?_
      · by_cases h : j < nq
        · rw [hall j h]; simp [h]
        · rw [hT j (by omega) hj]; simp [h]
      · refine hend _ G w a (fun j hj => by rw [← same A j hsz (by omega)]; exact hall j hj) (fun j hj => ?_) hI
        by_cases h : j < l.length
        · rw [← same A j hsz h]; exact hT j hj h
        · simp [Array.getElem?_eq_none (show A.size ≤ j by omega)]
    · obtain ⟨q, hq1, hq2, hq3⟩ := left_pos hQ
      have hoq : l[q]? = some l[q] := List.getElem?_eq_getElem (by omega)
      have hqr : q ∈ Region.ready .any l.toArray A := by
        refine mem_ready.2 ⟨hq2, l[q], by simp, fun e he hb => ?_⟩
        have := edgesOk_spec 0 l hE q _ hoq e he hb
        rw [← same A e.on hsz (by omega)]
        exact hq3 e.on (by omega)
      refine ⟨fun h0 => (by rw [h0] at hqr; cases hqr), fun i hi => ?_⟩
      obtain ⟨h1, o, h2, h3⟩ := mem_ready.1 hi
      simp only [List.getElem?_toArray] at h2
      have hil := (List.getElem?_eq_some_iff.1 h2).1
      have hin : i < nq := by
        refine Nat.lt_of_not_le fun hge => ?_
        have ht := allIdx_spec htail i o h2
        simp only [Nat.zero_add, Bool.or_eq_true, decide_eq_true_eq, List.all_eq_true] at ht
        have hb := (ht.resolve_left (by omega)) q (List.mem_range.2 (by omega))
        obtain ⟨m, hm, hbit⟩ := bit_spec hb
        have := anc hE hI.down i o h2 h3 q m hm hbit
        rw [← same A q hsz (by omega), hq2] at this
        cases this
      refine inv_step hA hok htr hσg hI h2 hin (by rw [← same A i hsz hil]; exact h1) h3 (L' := fun j => (A.setIfInBounds i true).getD j false) (by simp [show i < A.size by omega]) (fun j hj => getD_set_ne false (Ne.symm hj)) (fun G' w' a' hI' => ?_) rd
      refine ih (A.setIfInBounds i true) G' w' a' (by simpa using hsz) ?_ (fun j hj1 hj2 => by rw [getD_set_ne true (by omega)]; exact hT j hj1 hj2) hI'
      have := left_set A h1 l.length
      rw [if_pos hil] at this
      omega

/-- **A region that draws its order.** 'nq': how many operations the first part has. -/
theorem awp_draw {Q : Exit → St → Prop} {id : Nat} (nq : Nat) (hnq : nq ≤ l.length) (hok : regOk N l nq = true)
    (h : ∀ g, (∀ i j, get st.σ ⟨g, i, j⟩ = none) → QRun E l g st.σ (AOps E N l g (fun s => Q .normal s) (l.drop nq)) (l.take nq) st) : AWp E N (.region id l.toArray true) Q st := by
  intro w0 hA G w a hN hr rd hrd
  obtain ⟨G1, ht, hf, hσ, hr1, hs1⟩ := bump hr
  have hok' := hok
  simp only [regOk, Bool.and_eq_true] at hok'
  obtain ⟨hnd, hlt⟩ := dstsOk_spec hok'.1.1.1
  obtain ⟨tr, env', htr, hK⟩ := h G.top hσ
  refine wpIn_region_any E.mixed ?_
  -- the draw
  have hV : ∀ v d, V G1 w v d → V G1 { w with drawn := w.drawn + 1 } v d := fun v d h => h.mono (fun _ h => h) (fun _ _ => rfl) (fun _ _ h => h)
  have hI0 : Inv w0 E N l G.top st tr G1 { w with drawn := w.drawn + 1 } (fun j => (Array.replicate l.length false).getD j false) G1 { w with drawn := w.drawn + 1 } a := by
    have hno : ∀ j, (Array.replicate l.length false).getD j false = false := fun j => by
      by_cases hj : j < l.length
      · simp [hj]
      · simp [Array.getElem?_eq_none (show (Array.replicate l.length false).size ≤ j by simp; omega)]
    have hk0 : kapp (fun j => (Array.replicate l.length false).getD j false) 0 tr (get st.σ) = get st.σ := kapp_none 0 tr _ hno
    refine ⟨hN, hr1.defers, ⟨hr1.wf.below.draw, hr1.wf.old, hr1.wf.lt, hr1.wf.nm⟩, fun t d hl _ => ⟨by rw [← hN]; exact (hr1.env t d hl).1, hV _ _ (hr1.env t d hl).2⟩, fun j o t v nw hL => ?_, ?_, ⟨by omega, fun j o d _ _ _ q => hf d q⟩, ?_, fun i o _ hL => ?_⟩
    · rw [hno] at hL; cases hL
    · rw [hk0]
      exact ⟨fun n o hn => let ⟨v, h1, h2, h3⟩ := hr1.objs.ob n o hn; ⟨v, h1, h2.mono hV fun _ _ => rfl, h3⟩, hr1.objs.ne⟩
    · rw [hk0]; exact .refl _ _ _ _
    · have hL' : (Array.replicate l.length false).getD i false = true := hL
      rw [hno] at hL'; cases hL'
  refine any_of_inv hA hnq hok htr hσ (fun L G' w' a' hL1 hL2 hI => ?_) l.toArray.size (Array.replicate l.toArray.size false) G1 _ a (by simp) (by simp only [List.size_toArray]; exact left_full _ _ (Nat.le_refl _)) (fun j h1 h2 => by simp [h2]) (by simpa using hI0)
  have hlen := htr.length
  have hkall : kapp L 0 tr (get st.σ) = get (accN tr st.σ) := kapp_all 0 tr st.σ fun j _ hj => hL1 j (by rw [hlen, List.length_take] at hj; omega)
  have hrel : Rel w0 G' w' a' ⟨env', accN tr st.σ⟩ := by
    refine ⟨hI.wf, fun t d hl => ?_, by rw [← hkall]; exact hI.objs, hI.defers⟩
    rw [hI.size]
    have get_take : ∀ (j : Nat) o, (l.take nq)[j]? = some o → j < nq ∧ l[j]? = some o := fun j o h => by
      rw [List.getElem?_take] at h
      split at h
      · rename_i hj; exact ⟨hj, h⟩
      · cases h
    rcases htr.env t with ⟨j, o, v, nw, k1, k2, k3, k4⟩ | ⟨k1, k2⟩
    · simp only at hl
      rw [k4] at hl
      cases hl
      obtain ⟨hj, hjo⟩ := get_take j o k1
      exact ⟨hlt o (List.mem_of_getElem? hjo) t k2, hI.new j o t d nw (hL1 j hj) hjo k2 k3⟩
    · simp only at hl
      rw [k2] at hl
      refine hI.old t d hl fun j o hLj hj => ?_
      by_cases hjn : j < nq
      · exact k1 j o (by rw [List.getElem?_take, if_pos hjn]; exact hj)
      · rw [hL2 j (by omega)] at hLj; cases hLj
  refine hK w0 hA G' w' a' hI.size hrel hI.fresh.1 ?_ (fun o ho d hd => ?_) _ (fun G2 st2 a2 w2 q1 q2 q3 q4 => ⟨G2, st2, q1, q2, ?_, q4⟩) rd
  · exact hnd.sublist ((List.drop_sublist nq l).filterMap _)
  · obtain ⟨j, hj⟩ := List.mem_iff_getElem?.1 ho
    rw [List.getElem?_drop] at hj
    exact ⟨hlt o (List.mem_of_getElem? hj) d hd, hI.fresh.2 (nq + j) o d (hL2 _ (by omega)) hj hd⟩
  · have hs2 : Step (fun n => n.g = G.top) G w (get st.σ) G1 { w with drawn := w.drawn + 1 } (get st.σ) :=
      ⟨Nat.le_refl _, fun _ _ _ => rfl, hs1.F, hs1.F', hs1.ρ, fun n h1 h2 _ => hs1.ρ' n h1 h2 fun h => h, hs1.top, hs1.blk', hs1.dom, hs1.base⟩
    have hstep := hI.step
    rw [hkall] at hstep
    exact ((hs2.trans hstep).trans q3).weaken fun n hn he => by omega

end
end Go.Ab

namespace Go.Ab
open Go Go.RowKit

section
variable {E : Ctx} {N : Nat} {ops l l' : List Oper} {ds : List (Option Tmp)} {g : Nat} {σ0 : Sto} {st st' : St} {K : St → Prop}

def nwOk (g : Nat) (dst : Option Tmp) (nw : Sto) : Bool := nw.all fun p => p.1.g == g && decide (dst = some p.1.i)

theorem nwOk_spec {dst : Option Tmp} {nw : Sto} (h : nwOk g dst nw = true) : ∀ p ∈ nw, p.1.g = g ∧ dst = some p.1.i := by
  simp only [nwOk, List.all_eq_true, Bool.and_eq_true, beq_iff_eq, decide_eq_true_eq] at h
  exact h

noncomputable def stepQ (E : Ctx) (ds : List (Option Tmp)) (g : Nat) (σ0 : Sto) (o : Oper) (st : St) : Option St :=
  match wantL ds st.env o.guard with
  | some true => (dop E.P g o (ev E st.env) (get σ0)).map fun p => { env := putE st.env o.dst p.1, σ := p.2 ++ st.σ }
  | some false => some { env := putE st.env o.dst (.val undef), σ := st.σ }
  | none => none

noncomputable def qrun (E : Ctx) (ds : List (Option Tmp)) (g : Nat) (σ0 : Sto) : Nat → List Oper → St → Option (List Oper × St)
  | 0, l, st => some (l, st)
  | _ + 1, [], st => some ([], st)
  | n + 1, o :: r, st => match stepQ E ds g σ0 o st with
    | some st' => qrun E ds g σ0 n r st'
    | none => none

theorem dop_names {P : Program} {o : Oper} {e : Operand → D} {κ : Kp} {v : D} {nw : Sto} (h : dop P g o e κ = some (v, nw)) : ∀ p ∈ nw, p.1.g = g ∧ o.dst = some p.1.i := by
  unfold dop at h
  split at h
  · split at h
    · rename_i hd _; cases h; intro p hp; simp only [List.mem_singleton] at hp; subst hp; exact ⟨rfl, hd⟩
    · cases h
  · split at h
    · rename_i hd
      split at h
      · cases h; intro p hp; simp only [List.mem_singleton] at hp; subst hp; exact ⟨rfl, hd⟩
      · cases h
    · cases h
  · split at h
    · cases h; intro p hp; simp only [List.mem_singleton] at hp; subst hp; exact ⟨rfl, by assumption⟩
    · cases h
  · split at h
    · split at h
      · obtain ⟨k, _, he⟩ := Option.map_eq_some_iff.1 h
        cases he; intro p hp; simp only [List.mem_singleton] at hp; subst hp; exact ⟨rfl, by assumption⟩
      · cases h
    · simp only [Option.map_eq_some_iff, Prod.mk.injEq] at h
      obtain ⟨_, _, _, h⟩ := h
      subst h
      intro p hp; cases hp
  · simp only [Option.map_eq_some_iff, Prod.mk.injEq] at h
    obtain ⟨_, _, _, h⟩ := h
    subst h
    intro p hp; cases hp

theorem qrun_step {o : Oper} {r : List Oper} (hds : ops.map (·.dst) = ds) (h : stepQ E ds g σ0 o st = some st') (k : QRun E ops g σ0 K r st') : QRun E ops g σ0 K (o :: r) st := by
  unfold stepQ at h
  rw [wantL_eq hds] at h
  split at h
  · rename_i hw
    simp only [Option.map_eq_some_iff] at h
    obtain ⟨⟨v, nw⟩, hp, rfl⟩ := h
    exact qrun_cons (.inl ⟨hw, dop_sound hp, dop_names hp⟩) k
  · rename_i hw
    cases h
    exact qrun_cons (nw := []) (.inr ⟨hw, rfl, rfl⟩) k
  · cases h

theorem qrun_run (n : Nat) (hds : ops.map (·.dst) = ds) : ∀ {l : List Oper} {st : St}, qrun E ds g σ0 n l st = some (l', st') → QRun E ops g σ0 K l' st' → QRun E ops g σ0 K l st := by
  induction n with
  | zero =>
    intro l st h k
    simp only [qrun, Option.some.injEq, Prod.mk.injEq] at h
    obtain ⟨rfl, rfl⟩ := h
    exact k
  | succ n ih =>
    intro l st h k
    cases l with
    | nil =>
      simp only [qrun, Option.some.injEq, Prod.mk.injEq] at h
      obtain ⟨rfl, rfl⟩ := h
      exact k
    | cons o r =>
      simp only [qrun] at h
      split at h
      · rename_i s hs
        exact qrun_step hds hs (ih h k)
      · cases h

/-- A call that is handed the objects 'σs' and leaves them as they were. -/
theorem qrun_call {o : Oper} {r : List Oper} {f : FuncId} {args args' : List D} {σs nw : Sto} {d : Nat} {x : D} (hds : ops.map (·.dst) = ds) (hw : wantL ds st.env o.guard = some true) (hd : o.dst = some d) (hc : calleeD o (ev E st.env) = some (f, args)) (h : ACalls E f args' σs g d x (nw ++ σs)) (hco : CoL args args')
    (hsub : ∀ p ∈ σs, get σ0 p.1 = some p.2) (hnw : nwOk g (some d) nw = true) (k : QRun E ops g σ0 K r { env := (d, x) :: st.env, σ := nw ++ st.σ }) : QRun E ops g σ0 K (o :: r) st := by
  refine qrun_cons (v := x) (nw := nw) (.inl ⟨by rw [← wantL_eq hds]; exact hw, Ab.qop_call hc hco hd h hsub, by rw [hd]; exact nwOk_spec hnw⟩) ?_
  rw [hd]
  exact k

theorem qrun_pure {o : Oper} {r : List Oper} {f : FuncId} {args args' : List D} {nw : Sto} {d : Nat} {x : D} (hds : ops.map (·.dst) = ds) (hw : wantL ds st.env o.guard = some true) (hd : o.dst = some d) (hc : calleeD o (ev E st.env) = some (f, args)) (h : ACalls E f args' [] g d x nw) (hco : CoL args args')
    (hnw : nwOk g (some d) nw = true) (k : QRun E ops g σ0 K r { env := (d, x) :: st.env, σ := nw ++ st.σ }) : QRun E ops g σ0 K (o :: r) st :=
  qrun_call (σs := []) hds hw hd hc (by simpa using h) hco (fun p hp => by cases hp) hnw k

end

/-! ### Other views -/

/-- A map over the parts of a value, one level deep. -/
def D.sub (f : D → D) : D → D
  | .agg cs => .agg (cs.map f)
  | .tup cs => .tup (cs.map f)
  | .func fn a c => .func fn (a.map f) (c.map f)
  | d => f d

theorem V.sub {G G' : Gh} {w w' : World} {f : D → D} (hf : ∀ v d, V G w v d → V G' w' v (f d)) {v : Value} {d : D} (h : V G w v d) : V G' w' v (d.sub f) := by
  have lists : ∀ {cs : Array Value} {ds : List D}, (∀ (i : Nat) c d, cs[i]? = some c → ds[i]? = some d → V G w c d) → ∀ (i : Nat) c d, cs[i]? = some c → (ds.map f)[i]? = some d → V G' w' c d := by
    intro cs ds h i c d hc hd
    simp only [List.getElem?_map, Option.map_eq_some_iff] at hd
    obtain ⟨d0, h0, rfl⟩ := hd
    exact hf _ _ (h i c d0 hc h0)
  cases h with
  | agg h1 h2 => exact .agg (by simpa using h1) (lists h2)
  | tup h1 h2 => exact .tup (by simpa using h1) (lists h2)
  | func h1 h2 h3 h4 => exact .func (by simpa using h1) (by simpa using h2) (lists h3) (lists h4)
  | any v => exact hf _ _ (.any v)
  | unk b => exact hf _ _ (.unk b)
  | val v => exact hf _ _ (.val v)
  | nilsl x => exact hf _ _ (.nilsl x)
  | esl a x => exact hf _ _ (.esl a x)
  | sl X h1 h2 h3 h4 h5 h6 h7 => exact hf _ _ (.sl X h1 h2 h3 h4 h5 h6 h7)
  | own h => exact hf _ _ (.own h)
  | osl h1 h2 h3 h4 => exact hf _ _ (.osl h1 h2 h3 h4)
  | fms h1 h2 => exact hf _ _ (.fms h1 h2)
  | ptr h => exact hf _ _ (.ptr h)
  | aptr h => exact hf _ _ (.aptr h)
  | eptr X h1 h2 h3 => exact hf _ _ (.eptr X h1 h2 h3)
  | mref h => exact hf _ _ (.mref h)
  | yld h => exact hf _ _ (.yld h)
  | fmap ms clock h1 h2 h0 h3 h4 h5 h6 => exact hf _ _ (.fmap ms clock h1 h2 h0 h3 h4 h5 h6)
  | iface h => exact hf _ _ (.iface h)

def Ob.sub (f : D → D) : Ob → Ob
  | .box t cs => .box t (cs.map f)
  | .map ks es => .map ks (es.map fun e => (e.1, e.2.sub f))
  | o => o

def mapEnv (f : D → D) : List (Nat × D) → List (Nat × D)
  | [] => []
  | (t, d) :: r => (t, d.sub f) :: mapEnv f r

def mapSto (f : D → D) : Sto → Sto
  | [] => []
  | (n, o) :: r => (n, o.sub f) :: mapSto f r

theorem lk_mapEnv (f : D → D) : ∀ (l : List (Nat × D)) (t : Nat), lk (mapEnv f l) t = (lk l t).map (D.sub f)
  | [], _ => rfl
  | (k, d) :: r, t => by
    simp only [mapEnv, lk]
    split
    · rfl
    · exact lk_mapEnv f r t

theorem get_mapSto (f : D → D) : ∀ (σ : Sto) (n : Nm), get (mapSto f σ) n = (get σ n).map (Ob.sub f)
  | [], _ => rfl
  | (m, o) :: r, n => by
    simp only [mapSto, get]
    split
    · rfl
    · exact get_mapSto f r n

section
variable {E : Ctx} {st : St}

/-- An object goes still: nothing of it is written any more. 'f': how what pointed to it reads from now on. -/
theorem sees_still {K : St → Prop} {n : Nm} {ob : Ob} (hn : get st.σ n = some ob) (f : D → D)
    (hf : ∀ w0 G w v, WF w0 G w → G.ρ n = some v → OV w0 G w v ob → ∀ G', (∀ b, G.F b → G'.F b) → (∀ b, blk v = some b → G'.F b) → G'.ρ = G.ρ → ∀ x d, V G w x d → V G' w x (f d))
    (h : K { env := mapEnv f st.env, σ := mapSto f (del st.σ n) }) : Sees E st K := by
  intro w0 _ G w a hr
  obtain ⟨v, hv, hov, hnF⟩ := hr.objs.ob n ob hn
  let G' : Gh := { G with F := fun b => G.F b ∨ blk v = some b }
  have hV := hf w0 G w v hr.wf hv hov G' (fun b h => .inl h) (fun b h => .inr h) rfl
  have hV0 : ∀ x d, V G w x d → V G' w x d := fun x d h => h.mono (fun b h => .inl h) (fun _ _ => rfl) (fun _ _ h => h)
  have hlt := hov.lt
  have hget : ∀ m o, get (mapSto f (del st.σ n)) m = some o → n ≠ m ∧ ∃ o0, get st.σ m = some o0 ∧ o = o0.sub f := by
    intro m o hm
    rw [get_mapSto, get_del] at hm
    split at hm
    · simp at hm
    · rename_i hne
      simp only [Option.map_eq_some_iff] at hm
      obtain ⟨o0, h0, rfl⟩ := hm
      exact ⟨hne, o0, h0, rfl⟩
  have hbox : ∀ m o b, get st.σ m = some o → n ≠ m → ∀ u, G.ρ m = some u → blk u = some b → blk v ≠ some b := fun m o b hm hne u hu hb => fun hvb => hr.objs.ne n m ob o v u b hn hm hne hv hu hvb hb
  refine ⟨G', _, ⟨⟨hr.wf.below, fun b hb => .inl (hr.wf.old b hb), fun b hb => ?_, hr.wf.nm⟩, fun t d ht => ?_, ⟨fun m o hm => ?_, fun m m' o o' u u' b h1 h2 => ?_⟩, hr.defers.mono (Nat.le_refl _) (fun _ h => .inl h) rfl fun _ _ => rfl⟩, ⟨Nat.le_refl _, fun _ _ _ => rfl, fun b h => .inl h, fun b hb => ?_, fun _ _ h => h, fun _ _ h _ => h, Nat.le_refl _, fun b ⟨m, o, u, h1, h2, h3⟩ => ?_, fun m hm => ?_, rfl⟩, h⟩
  · rcases hb with h | h
    · exact hr.wf.lt b h
    · exact hlt b h
  · rw [lk_mapEnv] at ht
    simp only [Option.map_eq_some_iff] at ht
    obtain ⟨d0, h0, rfl⟩ := ht
    exact ⟨(hr.env t d0 h0).1, (hr.env t d0 h0).2.sub hV⟩
  · obtain ⟨hne, o0, h0, rfl⟩ := hget m o hm
    obtain ⟨u, hu, hou, huF⟩ := hr.objs.ob m o0 h0
    refine ⟨u, hu, ?_, fun b hb hF => ?_⟩
    · cases o0 with
      | box t cs =>
        obtain ⟨b, c, rfl, h1, h2, h3⟩ := hou
        refine ⟨b, c, rfl, h1, by simpa using h2, fun i x d hx hd => ?_⟩
        simp only [List.getElem?_map, Option.map_eq_some_iff] at hd
        obtain ⟨d0, hd0, rfl⟩ := hd
        exact hV _ _ (h3 i x d0 hx hd0)
      | arr t k rows => exact hou.mono hV0 fun _ _ => rfl
      | loop rc env => exact hou.mono hV0 fun _ _ => rfl
      | iter ks es pre => exact hou.mono hV0 fun _ _ => rfl
      | map ks es =>
        obtain ⟨r, ms, clock, rfl, h1, h0, h2, h3, h4, h5⟩ := hou
        refine ⟨r, ms, clock, rfl, h1, h0, by simpa using h2, h3, fun i x e hx he => ?_, fun i x e hx he => ?_⟩
        · rw [List.getElem?_map] at he
          obtain ⟨e0, he0, rfl⟩ := Option.map_eq_some_iff.1 he
          exact h4 i x e0 hx he0
        · rw [List.getElem?_map] at he
          obtain ⟨e0, he0, rfl⟩ := Option.map_eq_some_iff.1 he
          exact (h5 i x e0 hx he0).sub hV
    · rcases hF with hF | hF
      · exact huF b hb hF
      · exact hbox m o0 b h0 hne u hu hb hF
  · obtain ⟨_, o1, h3, _⟩ := hget m o h1
    obtain ⟨_, o2, h4, _⟩ := hget m' o' h2
    exact hr.objs.ne m m' o1 o2 u u' b h3 h4
  · rcases hb with h | h
    · exact .inl h
    · exact .inr (.inr ⟨n, ob, v, hn, hv, h⟩)
  · cases hx : get (mapSto f (del st.σ n)) m with
    | none => exact absurd hx hm
    | some o =>
      obtain ⟨_, o0, h0, _⟩ := hget m o hx
      exact .inl (by rw [h0]; simp)
  · obtain ⟨_, o0, h0, _⟩ := hget m o h1
    exact .inr ⟨m, o0, u, h0, h2, h3⟩

open Classical in
noncomputable def frzD (n : Nm) (rows : List D) : D → D
  | .own m l => if m = n then .sl false rows else .own m l
  | .osl m k off len => if m = n ∧ off + len ≤ rows.length ∧ lenRows k rows then .sl false ((rows.drop off).take len) else .osl m k off len
  | d => d

/-- An array goes still. -/
theorem sees_freeze {K : St → Prop} (n : Nm) {t : TypeId} {k : Nat} {rows : List D} (hn : get st.σ n = some (.arr t k rows))
    (h : K { env := mapEnv (frzD n rows) st.env, σ := mapSto (frzD n rows) (del st.σ n) }) : Sees E st K := by
  refine sees_still hn (frzD n rows) (fun w0 G w v hw hv hov G' h1 h2 h3 x d hx => ?_) h
  have keep : V G' w x d := hx.mono h1 (fun _ _ => rfl) (fun m u hm => by rw [h3]; exact hm)
  cases hx with
  | own hρ =>
    rename_i m a len cap
    simp only [frzD]
    split
    · rename_i he
      subst he
      rw [hρ] at hv
      cases hv
      obtain ⟨xs, hown, hfl⟩ := hov
      rcases hown.2 with ⟨hc, hz⟩ | ⟨b, cap', cur, hc, _, hh, hnc, _, hcs, htake⟩
      · cases hc
        have : rows = [] := List.eq_nil_of_length_eq_zero hz
        subst this
        exact .nilsl _
      · cases hc
        have hcell : ∀ (q : Nat) y, xs[q]? = some y → w.cell? ⟨b, q, none⟩ = some y := fun q y hq => by
          rw [cell_of_row w b q cur t (0, 0) hh]
          rw [← htake, List.getElem?_take] at hq
          split at hq
          · simpa using hq
          · cases hq
        refine .sl (k := k) (fun i j => (xs[i * k + j]?).getD undef) rfl (fun h => by cases h) hnc (h2 b rfl) (fun i r hr => (hfl i r hr).1) (fun i r j d hr hd => ?_) (fun i r j d hr hd => ?_)
        · obtain ⟨y, hy, _⟩ := (hfl i r hr).2 j d hd
          rw [Nat.zero_add, hcell _ _ hy, hy]
          rfl
        · obtain ⟨y, hy, hyv⟩ := (hfl i r hr).2 j d hd
          rw [hy]
          exact hyv.mono h1 (fun _ _ => rfl) (fun m u hm => by rw [h3]; exact hm)
    · exact keep
  | osl hρ hC hle ha =>
    rename_i m b k' off len cap L C a
    simp only [frzD]
    split
    · rename_i he
      obtain ⟨rfl, hol, hlen⟩ := he
      rw [hρ] at hv
      cases hv
      obtain ⟨xs, hown, hfl⟩ := hov
      by_cases hl0 : len = 0
      · subst hl0
        rw [List.take_zero]
        by_cases hc0 : cap = 0
        · subst hc0; exact .esl _ _
        · rw [ha (by omega)]
          exact .sl (rows := []) (n := 0) (k := k') (fun _ _ => undef) rfl (fun h => by cases h) (Nat.zero_le _) (h2 b rfl) (fun i r hr => by simp at hr) (fun i r j d hr => by simp at hr) (fun i r j d hr => by simp at hr)
      rcases hown.2 with ⟨hc, hz⟩ | ⟨b', cap', cur, hc, _, hh, hnc, _, hcs, htake⟩
      · cases hc
      · cases hc
        have hcell : ∀ (q : Nat) y, xs[q]? = some y → w.cell? ⟨b, q, none⟩ = some y := fun q y hq => by
          rw [cell_of_row w b q cur t (0, 0) hh]
          rw [← htake, List.getElem?_take] at hq
          split at hq
          · simpa using hq
          · cases hq
        have hkk : k' = k := by
          have hlt : 0 < rows.length := by omega
          have a1 := (hfl 0 _ (List.getElem?_eq_getElem hlt)).1
          have a2 := hlen _ (List.getElem_mem hlt)
          omega
        subst hkk
        rw [ha (by omega)]
        have hget : ∀ (i : Nat) r, ((rows.drop off).take len)[i]? = some r → rows[off + i]? = some r := fun i r hr => by
          rw [List.getElem?_take] at hr
          split at hr
          · rw [List.getElem?_drop] at hr; exact hr
          · cases hr
        refine .sl (rows := (rows.drop off).take len) (n := len) (k := k') (fun i j => (xs[(off + i) * k' + j]?).getD undef) (by simp; omega) (fun h => by cases h) hle (h2 b rfl) (fun i r hr => (hfl _ r (hget i r hr)).1) (fun i r j d hr hd => ?_) (fun i r j d hr hd => ?_)
        · obtain ⟨y, hy, _⟩ := (hfl _ r (hget i r hr)).2 j d hd
          have e1 : off * k' + (i * k' + j) = (off + i) * k' + j := by rw [Nat.add_mul]; omega
          rw [e1, hcell _ _ hy, hy]
          rfl
        · obtain ⟨y, hy, hyv⟩ := (hfl _ r (hget i r hr)).2 j d hd
          rw [hy]
          exact hyv.mono h1 (fun _ _ => rfl) (fun m u hm => by rw [h3]; exact hm)
    · exact keep
  | _ => exact keep

def boxD (n : Nm) (cs : List D) : D → D
  | .ptr m off => if m = n then .eptr (cs.drop off) else .ptr m off
  | d => d

/-- A variable goes still. -/
theorem sees_box {K : St → Prop} (n : Nm) {t : TypeId} {cs : List D} (hn : get st.σ n = some (.box t cs))
    (h : K { env := mapEnv (boxD n cs) st.env, σ := mapSto (boxD n cs) (del st.σ n) }) : Sees E st K := by
  refine sees_still hn (boxD n cs) (fun w0 G w v hw hv hov G' h1 h2 h3 x d hx => ?_) h
  have keep : V G' w x d := hx.mono h1 (fun _ _ => rfl) (fun m u hm => by rw [h3]; exact hm)
  cases hx with
  | ptr hρ =>
    rename_i m b off
    simp only [boxD]
    split
    · rename_i he
      subst he
      rw [hρ] at hv
      cases hv
      obtain ⟨b', c, hc, hh, hsz, hcs⟩ := hov
      cases hc
      have hlt : ∀ j d, (cs.drop off)[j]? = some d → off + j < c.size ∧ cs[off + j]? = some d := fun j d hd => by
        rw [List.getElem?_drop] at hd
        exact ⟨by have := (List.getElem?_eq_some_iff.1 hd).1; omega, hd⟩
      refine .eptr (fun j => c.getD (off + j) undef) (h2 b rfl) (fun j d hd => ?_) (fun j d hd => ?_)
      · obtain ⟨k1, _⟩ := hlt j d hd
        rw [cell_of_row w b (off + j) c t (0, 0) hh]
        simp [k1]
      · obtain ⟨k1, k2⟩ := hlt j d hd
        have := hcs (off + j) c[off + j] d (by simp [k1]) k2
        simp only [Array.getD_eq_getD_getElem?, k1, getElem?_pos, Option.getD_some]
        exact this.mono h1 (fun _ _ => rfl) (fun m u hm => by rw [h3]; exact hm)
    · exact keep
  | _ => exact keep

/-- nil, seen as an array of the call's own without an element. -/
theorem new_nil {w0 : World} {G : Gh} {w : World} {a : Act} (hr : Rel w0 G w a st) (t : TypeId) {k : Nat} :
    ∃ G' g, (∀ i j, get st.σ ⟨g, i, j⟩ = none) ∧ (G'.ρ ⟨g, 0, 0⟩ = some (.slice none 0 0)) ∧ (∀ v d, V G w v d → V G' w v d) ∧ WF w0 G' w ∧ Objs w0 G' w (Kp.or (single ⟨g, 0, 0⟩ (.arr t k [])) (get st.σ)) ∧ Step no G w (get st.σ) G' w (Kp.or (single ⟨g, 0, 0⟩ (.arr t k [])) (get st.σ)) := by
  obtain ⟨G1, ht, hf, hσ, hr1, hs1⟩ := bump hr
  obtain ⟨g1, g2, g3⟩ := new_obj hr1.wf hr1.objs (hf 0 0) (by rw [ht]; exact Nat.lt_succ_self _) (w' := w) (v := .slice none 0 0) (ob := .arr t k []) (Gr.of ⟨rfl, rfl, rfl, Nat.le_refl _, fun _ _ _ => rfl⟩) (fun b hb => by simp [blk] at hb) ⟨[], World.ownsRow_nil _ _ _ _, fun i r h => by simp at h⟩
  refine ⟨_, G.top, hσ, by simp [Gh.upd], fun v d h => ?_, g1, g2, ?_⟩
  · exact (h.step hs1 hr.wf hr.objs).step g3 hr1.wf hr1.objs
  · have := (hs1.weaken (R' := fun m => m = ⟨G.top, 0, 0⟩) fun _ _ h => h.elim).trans g3
    exact this.weaken fun m hm he => by subst he; exact absurd hm (Nat.lt_irrefl _)

theorem sees_nil {K : St → Prop} (t : Nat) (ty : TypeId) (k : Nat) (ht : lk st.env t = some (.val (.slice none 0 0))) (h : ∀ g, (∀ i j, get st.σ ⟨g, i, j⟩ = none) → K { env := (t, .own ⟨g, 0, 0⟩ 0) :: st.env, σ := (⟨g, 0, 0⟩, .arr ty k []) :: st.σ }) : Sees E st K := by
  intro w0 _ G w a hr
  obtain ⟨G', gn, h1, h2, h3, h4, h5, h6⟩ := new_nil hr ty (k := k)
  have he : Kp.or (single ⟨gn, 0, 0⟩ (.arr ty k [])) (get st.σ) = get ((⟨gn, 0, 0⟩, .arr ty k []) :: st.σ) := by rw [← get_single, ← get_append]; rfl
  rw [he] at h5 h6
  refine ⟨G', _, ⟨h4, fun u d hu => ?_, h5, hr.defers.step h6 hr.wf hr.objs⟩, h6, h gn h1⟩
  simp only [lk] at hu
  split at hu
  · rename_i e
    subst e
    cases hu
    obtain ⟨k1, k2⟩ := hr.env t _ ht
    refine ⟨k1, ?_⟩
    rw [V.of_val k2]
    exact .own h2
  · obtain ⟨k1, k2⟩ := hr.env u d hu
    exact ⟨k1, h3 _ _ k2⟩

theorem sees_nil_box {K : St → Prop} (m : Nm) (i : Nat) (ty : TypeId) (k : Nat) {u : TypeId} {cs : List D} (hm : get st.σ m = some (.box u cs)) (hi : cs[i]? = some (.val (.slice none 0 0)))
    (h : ∀ g, (∀ i j, get st.σ ⟨g, i, j⟩ = none) → K { env := st.env, σ := (⟨g, 0, 0⟩, .arr ty k []) :: set st.σ m (.box u (cs.set i (.own ⟨g, 0, 0⟩ 0))) }) : Sees E st K := by
  intro w0 _ G w a hr
  obtain ⟨G', gn, h1', h2, h3, h4, h5, h6⟩ := new_nil hr ty (k := k)
  generalize hn : (⟨gn, 0, 0⟩ : Nm) = n at h2 h3 h4 h5 h6
  have h1 : get st.σ n = none := by rw [← hn]; exact h1' 0 0
  have hnm : n ≠ m := fun e => by subst e; rw [h1] at hm; cases hm
  have hκ : Kp.or (single n (.arr ty k [])) (get st.σ) m = some (.box u cs) := by
    unfold Kp.or single
    rw [if_neg hnm]
    simpa using hm
  obtain ⟨v, hv, ⟨b, c, rfl, hh, hsz, hcs⟩, _⟩ := h5.ob m _ hκ
  obtain ⟨q1, q2, q3⟩ := change_obj (w' := w) (ob' := .box u (cs.set i (.own n 0))) h4 h5 hκ hv (Gr.of ⟨rfl, rfl, rfl, Nat.le_refl _, fun _ _ _ => rfl⟩) ⟨b, c, rfl, hh, by simpa using hsz, fun j x d hx hd => by
    rw [List.getElem?_set] at hd
    split at hd
    · rename_i hij
      subst hij
      split at hd
      · cases hd
        have := V.of_val (hcs _ _ _ hx hi)
        rw [this]
        exact .own h2
      · cases hd
    · exact hcs j x d hx hd⟩
  have he : (Kp.or (single n (.arr ty k [])) (get st.σ)).put m (.box u (cs.set i (.own n 0))) = get ((n, .arr ty k []) :: set st.σ m (.box u (cs.set i (.own n 0)))) := by
    funext x
    simp only [Kp.put, Kp.or, single, get, get_set st.σ m _ (by rw [hm]; simp)]
    by_cases hx : m = x
    · subst hx
      rw [if_pos rfl, if_neg hnm, if_pos rfl]
    · rw [if_neg hx, if_neg hx]
      split <;> simp
  rw [he] at q2 q3
  refine ⟨G', _, ⟨q1, fun t d ht => ?_, q2, (hr.defers.step h6 hr.wf hr.objs).step q3 h4 h5⟩, h6.trans (q3.weaken fun _ _ h => h.elim), hn ▸ h gn h1'⟩
  obtain ⟨k1, k2⟩ := hr.env t d ht
  exact ⟨k1, h3 _ _ k2⟩

/-! ### Ends that hand new objects back -/

def look : List (Nm × Nat × Ob) → Nat → Option (Nm × Ob)
  | [], _ => none
  | (n, j, o) :: r, i => if j = i then some (n, o) else look r i

theorem look_mem : ∀ {l : List (Nm × Nat × Ob)} {i : Nat} {n : Nm} {o : Ob}, look l i = some (n, o) → (n, i, o) ∈ l
  | [], _, _, _, h => by simp [look] at h
  | (n', j, o') :: r, i, n, o, h => by
    simp only [look] at h
    split at h
    · rename_i e; subst e; cases h; exact List.mem_cons_self
    · exact List.mem_cons_of_mem _ (look_mem h)

def newSto (g d : Nat) : List (Nm × Nat × Ob) → Sto
  | [] => []
  | (_, j, o) :: r => (⟨g, d, j⟩, o) :: newSto g d r

theorem get_newSto (g d : Nat) : ∀ (l : List (Nm × Nat × Ob)) (m : Nm), get (newSto g d l) m = if m.g = g ∧ m.i = d then (look l m.j).map (·.2) else none
  | [], m => by simp [newSto, get, look]
  | (n, j, o) :: r, m => by
    simp only [newSto, get, look]
    obtain ⟨mg, mi, mj⟩ := m
    by_cases h : mg = g ∧ mi = d
    · obtain ⟨rfl, rfl⟩ := h
      simp only [Nm.mk.injEq, true_and, and_self, if_true]
      split
      · rfl
      · rw [get_newSto mg mi r]
        simp
    · rw [if_neg (fun e => h (by cases e; exact ⟨rfl, rfl⟩)), if_neg h, get_newSto g d r, if_neg h]

def renD (g d : Nat) : List (Nm × Nat × Ob) → D → D
  | [], x => x
  | (n, j, _) :: r, .own m l => if n = m then .own ⟨g, d, j⟩ l else renD g d r (.own m l)
  | _ :: _, x => x

theorem ends_new {fn : Func} {g d : Nat} {r : D} {l : List ResultVar} (hl : fn.results = l.toArray) {ds : List D} (h : resD E.P st l = some ds) (ren : List (Nm × Nat × Ob)) (hren : ∀ e ∈ ren, get st.σ e.1 = some e.2.2 ∧ look ren e.2.1 = some (e.1, e.2.2))
    (hne : ∀ e ∈ ren, ∀ e' ∈ ren, e.2.1 ≠ e'.2.1 → e.1 ≠ e'.1) (hr : Co ((resV ds).sub (·.sub (renD g d ren))) r) : Ends E fn g d r (newSto g d ren) st := by
  intro w0 _ G w a hrel hfr
  obtain ⟨v, h1, h2⟩ := results_run (E := E) hrel hl h
  let G' : Gh := { G with ρ := fun m => if m.g = g ∧ m.i = d then (match look ren m.j with | some p => G.ρ p.1 | none => none) else G.ρ m }
  have hρ : ∀ m u, G.ρ m = some u → G'.ρ m = some u := by
    intro m u hm
    show (if m.g = g ∧ m.i = d then _ else _) = _
    rw [if_neg, hm]
    rintro ⟨rfl, rfl⟩
    rw [hfr.2 m.j] at hm
    cases hm
  have hV0 : ∀ x y, V G w x y → V G' w x y := fun x y h => h.mono (fun _ h => h) (fun _ _ => rfl) hρ
  have hnew : ∀ n j o, look ren j = some (n, o) → G'.ρ ⟨g, d, j⟩ = G.ρ n := fun n j o hlk => by
    show (if g = g ∧ d = d then _ else _) = _
    rw [if_pos ⟨rfl, rfl⟩]
    simp only [hlk]
  have hrD : ∀ (l' : List (Nm × Nat × Ob)), (∀ e ∈ l', e ∈ ren) → ∀ x y, V G w x y → V G' w x (renD g d l' y) := by
    intro l'
    induction l' with
    | nil => intro _ x y hxy; exact hV0 x y hxy
    | cons e l' ih =>
      intro hsub x y hxy
      obtain ⟨n, j, o⟩ := e
      cases y with
      | own m len =>
        simp only [renD]
        split
        · rename_i he
          subst he
          cases hxy with
          | own hρm =>
            have := hren _ (hsub _ List.mem_cons_self)
            exact .own ((hnew n j o this.2).trans hρm)
        · exact ih (fun e he => hsub e (List.mem_cons_of_mem _ he)) x _ hxy
      | _ => exact hV0 _ _ hxy
  have objs : ∀ m o, get (newSto g d ren) m = some o → m.g = g ∧ m.i = d ∧ ∃ n, look ren m.j = some (n, o) ∧ get st.σ n = some o ∧ G'.ρ m = G.ρ n := by
    intro m o hm
    rw [get_newSto] at hm
    split at hm
    · rename_i hc
      obtain ⟨rfl, rfl⟩ := hc
      simp only [Option.map_eq_some_iff] at hm
      obtain ⟨⟨n, o'⟩, hlk, rfl⟩ := hm
      exact ⟨rfl, rfl, n, hlk, (hren _ (look_mem hlk)).1, hnew n m.j o' hlk⟩
    · cases hm
  refine ⟨v, G', h1, ⟨hrel.wf.below, hrel.wf.old, hrel.wf.lt, fun m u hm => ?_⟩, hr G' w v (h2.sub fun x y hxy => hxy.sub (hrD ren fun _ h => h)), ⟨fun m o hm => ?_, fun m m' o o' u u' b k1 k2 hnm k3 k4 k5 k6 => ?_⟩, ?_⟩
  · have hm' : (if m.g = g ∧ m.i = d then (match look ren m.j with | some p => G.ρ p.1 | none => none) else G.ρ m) = some u := hm
    split at hm'
    · rename_i hc
      split at hm'
      · rename_i p hp
        exact ⟨by rw [hc.1]; exact hfr.1, (hrel.wf.nm _ u hm').2⟩
      · cases hm'
    · exact hrel.wf.nm m u hm'
  · obtain ⟨_, _, n, _, hn, hG⟩ := objs m o hm
    obtain ⟨u, hu, hou, hF⟩ := hrel.objs.ob n o hn
    exact ⟨u, hG.trans hu, hou.mono hV0 fun _ _ => rfl, hF⟩
  · obtain ⟨e1, e2, n, q1, q2, q3⟩ := objs m o k1
    obtain ⟨e3, e4, n', q4, q5, q6⟩ := objs m' o' k2
    have hj : m.j ≠ m'.j := fun e => hnm (by obtain ⟨a1, a2, a3⟩ := m; obtain ⟨b1, b2, b3⟩ := m'; simp only at e1 e2 e3 e4 e; subst e1; subst e2; subst e3; subst e4; subst e; rfl)
    exact hrel.objs.ne n n' o o' u u' b q2 q5 (hne _ (look_mem q1) _ (look_mem q4) hj) (q3 ▸ k3) (q6 ▸ k4) k5 k6
  · refine ⟨Nat.le_refl _, fun _ _ _ => rfl, fun _ h => h, fun _ h => .inl h, hρ, fun m _ hm hnr => ?_, Nat.le_refl _, fun b ⟨m, o, u, k1, k2, k3⟩ => ?_, fun m hm => ?_, rfl⟩
    · show (if m.g = g ∧ m.i = d then _ else _) = _
      rw [if_neg (fun hc => hnr ⟨hc.1, by rw [hc.2]⟩)]
      exact hm
    · obtain ⟨_, _, n, _, hn, hG⟩ := objs m o k1
      exact .inr ⟨n, o, u, hn, hG.symm.trans k2, k3⟩
    · cases hx : get (newSto g d ren) m with
      | none => exact absurd hx hm
      | some o =>
        obtain ⟨e1, e2, _⟩ := objs m o hx
        obtain ⟨mg, mi, mj⟩ := m
        simp only at e1 e2
        subst e1
        subst e2
        exact .inr (hfr.2 mj)

end
end Go.Ab
