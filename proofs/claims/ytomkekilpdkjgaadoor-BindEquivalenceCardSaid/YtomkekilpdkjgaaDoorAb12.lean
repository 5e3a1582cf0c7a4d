/- A part of the proof, under no conditions of its own: Ab12. -/
import Derived.Test.YtomkekilpdkjgaaDoorAb11
/-
  Regions that draw their order: what comes first only reads, or makes new things; what comes last waits for all of it.
-/
namespace Go.Ab
open Go Go.RowKit

/-! ### Which operation waits for which -/

def maskOf (acc : List Nat) (o : Oper) : Nat :=
  o.after.toList.foldl (fun m e => if Region.binds .any e then m ||| 2 ^ e.on ||| acc.getD e.on 0 else m) 0

def masks : List Oper → List Nat → List Nat
  | [], acc => acc
  | o :: r, acc => masks r (acc ++ [maskOf acc o])

theorem foldl_bit (acc : List Nat) (j : Nat) : ∀ (l : List Edge) (m : Nat), (l.foldl (fun m e => if Region.binds .any e then m ||| 2 ^ e.on ||| acc.getD e.on 0 else m) m).testBit j = true →
    m.testBit j = true ∨ ∃ e ∈ l, Region.binds .any e = true ∧ (e.on = j ∨ (acc.getD e.on 0).testBit j = true)
  | [], m, h => .inl h
  | e :: l, m, h => by
    simp only [List.foldl_cons] at h
    rcases foldl_bit acc j l _ h with h1 | ⟨e', he, h2⟩
    · split at h1
      · rename_i hb
        simp only [Nat.testBit_or, Bool.or_eq_true] at h1
        rcases h1 with (h1 | h1) | h1
        · exact .inl h1
        · refine .inr ⟨e, List.mem_cons_self, hb, .inl ?_⟩
          rw [Nat.testBit_two_pow] at h1
          simpa using h1
        · exact .inr ⟨e, List.mem_cons_self, hb, .inr h1⟩
      · exact .inl h1
    · exact .inr ⟨e', List.mem_cons_of_mem _ he, h2⟩

theorem masks_get : ∀ (l : List Oper) (acc : List Nat), (masks l acc).length = acc.length + l.length ∧ (∀ i : Nat, i < acc.length → (masks l acc)[i]? = acc[i]?) ∧
    ∀ (i : Nat) o, l[i]? = some o → (masks l acc)[acc.length + i]? = some (maskOf ((masks l acc).take (acc.length + i)) o)
  | [], acc => ⟨by simp [masks], fun _ _ => rfl, fun i o h => by simp at h⟩
  | o :: r, acc => by
    obtain ⟨h1, h2, h3⟩ := masks_get r (acc ++ [maskOf acc o])
    simp only [masks]
    refine ⟨by rw [h1]; simp; omega, fun i hi => ?_, fun i o' ho => ?_⟩
    · rw [h2 i (by simp; omega), List.getElem?_append_left hi]
    · cases i with
      | zero =>
        simp only [List.getElem?_cons_zero, Option.some.injEq] at ho
        subst ho
        rw [Nat.add_zero, h2 acc.length (by simp), List.getElem?_append_right (by omega)]
        simp only [Nat.sub_self, List.getElem?_cons_zero, Option.some.injEq]
        congr 1
        apply List.ext_getElem?
        intro j
        rw [List.getElem?_take]
        split
        · rename_i hj
          rw [h2 j (by simp; omega), List.getElem?_append_left hj]
        · rename_i hj
          rw [List.getElem?_eq_none (by omega)]
      | succ i =>
        have := h3 i o' (by simpa using ho)
        simp only [List.length_append, List.length_singleton] at this
        rw [show acc.length + (i + 1) = acc.length + 1 + i by omega]
        exact this

def edgesOk : Nat → List Oper → Bool
  | _, [] => true
  | i, o :: r => (o.after.toList.all fun e => !Region.binds .any e || decide (e.on < i)) && edgesOk (i + 1) r

theorem edgesOk_spec : ∀ (k : Nat) (l : List Oper), edgesOk k l = true → ∀ (i : Nat) o, l[i]? = some o → ∀ e ∈ o.after, Region.binds .any e = true → e.on < k + i
  | _, [], _, i, o, h, _, _, _ => by simp at h
  | k, x :: r, h, i, o, ho, e, he, hb => by
    simp only [edgesOk, Bool.and_eq_true, List.all_eq_true, Bool.or_eq_true, Bool.not_eq_true', decide_eq_true_eq] at h
    cases i with
    | zero =>
      simp only [List.getElem?_cons_zero, Option.some.injEq] at ho
      subst ho
      rcases h.1 e (by simpa using he) with h1 | h1
      · rw [hb] at h1; cases h1
      · omega
    | succ i =>
      have := edgesOk_spec (k + 1) r h.2 i o (by simpa using ho) e he hb
      omega

/-- What has come up is closed: with an operation all that it waits for. -/
def Down (l : List Oper) (L : Nat → Prop) : Prop := ∀ (i : Nat) o, l[i]? = some o → L i → ∀ e ∈ o.after, Region.binds .any e = true → L e.on

theorem anc {l : List Oper} (hE : edgesOk 0 l = true) {L : Nat → Prop} (hL : Down l L) : ∀ (i : Nat) o, l[i]? = some o → (∀ e ∈ o.after, Region.binds .any e = true → L e.on) → ∀ j m, (masks l [])[i]? = some m → m.testBit j = true → L j := by
  intro i
  induction i using Nat.strongRecOn with
  | _ i ih =>
    intro o ho hall j m hm hb
    obtain ⟨h1, _, h3⟩ := masks_get l []
    have := h3 i o ho
    simp only [List.length_nil, Nat.zero_add] at this h1
    rw [this] at hm
    cases hm
    rcases foldl_bit _ j _ _ hb with h | ⟨e, he, hbd, h⟩
    · simp at h
    · have he' : e ∈ o.after := by simpa using he
      have hlt := edgesOk_spec 0 l hE i o ho e he' hbd
      simp only [Nat.zero_add] at hlt
      rcases h with rfl | h
      · exact hall e he' hbd
      · have hi := (List.getElem?_eq_some_iff.1 ho).1
        have hoe : l[e.on]? = some l[e.on] := List.getElem?_eq_getElem (by omega)
        have hme : (masks l [])[e.on]? = some (masks l [])[e.on] := List.getElem?_eq_getElem (by omega)
        refine ih e.on hlt _ hoe (hL e.on _ hoe (hall e he' hbd)) j _ hme ?_
        rw [List.getD_eq_getElem?_getD, List.getElem?_take, if_pos hlt, hme] at h
        exact h

/-- The temporaries that an operation looks at. -/
def looks (l : List Oper) (o : Oper) : List Nat :=
  (o.op.operands.toList.filterMap fun | .tmp t => some t | _ => none) ++
  (match o.guard with
   | some (j, _) => ((l[j]?).bind (·.dst)).toList
   | none => [])

def bit (M : List Nat) (i j : Nat) : Bool := (M.getD i 0).testBit j

/-- For operation i: each temporary that it looks at and that operation j writes: one waits for the other. -/
def looksOk (M : List Nat) (l : List Oper) (i : Nat) (o : Oper) : Bool :=
  (looks l o).all fun t => (List.range l.length).all fun j =>
    !((l[j]?).bind (·.dst) == some t) || j == i || (if j < i then bit M i j else bit M j i)

def allIdx (f : Nat → Oper → Bool) : Nat → List Oper → Bool
  | _, [] => true
  | i, o :: r => f i o && allIdx f (i + 1) r

theorem allIdx_spec {f : Nat → Oper → Bool} : ∀ {k : Nat} {l : List Oper}, allIdx f k l = true → ∀ (i : Nat) o, l[i]? = some o → f (k + i) o = true
  | _, [], _, i, o, h => by simp at h
  | k, x :: r, h, i, o, ho => by
    simp only [allIdx, Bool.and_eq_true] at h
    cases i with
    | zero => simp only [List.getElem?_cons_zero, Option.some.injEq] at ho; subst ho; exact h.1
    | succ i =>
      have := allIdx_spec h.2 i o (by simpa using ho)
      rw [show k + (i + 1) = k + 1 + i by omega]
      exact this

def regOk (N : Nat) (l : List Oper) (nq : Nat) : Bool :=
  dstsOk N l && edgesOk 0 l && allIdx (looksOk (masks l []) l) 0 l && allIdx (fun i _ => decide (i < nq) || (List.range i).all fun j => bit (masks l []) i j) 0 l

/-! ### The first part, in the order of the text -/

def putE (env : List (Nat × D)) (dst : Option Tmp) (v : D) : List (Nat × D) :=
  match dst with
  | some d => (d, v) :: env
  | none => env

def QStep (E : Ctx) (ops : List Oper) (g : Nat) (σ0 : Sto) (o : Oper) (env : List (Nat × D)) (v : D) (nw : Sto) : Prop :=
  (wantD ops env o = some true ∧ QOp E g o (ev E env) (get σ0) v nw ∧ ∀ p ∈ nw, p.1.g = g ∧ o.dst = some p.1.i) ∨ (wantD ops env o = some false ∧ v = .val undef ∧ nw = [])

inductive QTrace (E : Ctx) (ops : List Oper) (g : Nat) (σ0 : Sto) : List Oper → List (Nat × D) → List (D × Sto) → List (Nat × D) → Prop
  | nil {env : List (Nat × D)} : QTrace E ops g σ0 [] env [] env
  | cons {o : Oper} {r : List Oper} {env env' : List (Nat × D)} {v : D} {nw : Sto} {tr : List (D × Sto)} : QStep E ops g σ0 o env v nw → QTrace E ops g σ0 r (putE env o.dst v) tr env' → QTrace E ops g σ0 (o :: r) env ((v, nw) :: tr) env'

def accN : List (D × Sto) → Sto → Sto
  | [], acc => acc
  | (_, nw) :: r, acc => accN r (nw ++ acc)

def QRun (E : Ctx) (ops : List Oper) (g : Nat) (σ0 : Sto) (K : St → Prop) (l : List Oper) (st : St) : Prop :=
  ∃ tr env', QTrace E ops g σ0 l st.env tr env' ∧ K ⟨env', accN tr st.σ⟩

section
variable {E : Ctx} {N : Nat} {ops : List Oper} {g : Nat} {σ0 : Sto} {st : St}

theorem qrun_nil {K : St → Prop} (h : K st) : QRun E ops g σ0 K [] st := ⟨[], st.env, .nil, h⟩

theorem qrun_cons {K : St → Prop} {o : Oper} {r : List Oper} {v : D} {nw : Sto} (hs : QStep E ops g σ0 o st.env v nw) (h : QRun E ops g σ0 K r { env := putE st.env o.dst v, σ := nw ++ st.σ }) : QRun E ops g σ0 K (o :: r) st :=
  let ⟨tr, env', h1, h2⟩ := h
  ⟨(v, nw) :: tr, env', .cons hs h1, h2⟩

theorem QTrace.length {l : List Oper} {env env' : List (Nat × D)} {tr : List (D × Sto)} (h : QTrace E ops g σ0 l env tr env') : tr.length = l.length := by
  induction h with
  | nil => rfl
  | cons _ _ ih => simp [ih]

theorem QTrace.split {l : List Oper} {env env' : List (Nat × D)} {tr : List (D × Sto)} (h : QTrace E ops g σ0 l env tr env') : ∀ (i : Nat) o, l[i]? = some o → ∃ envi v nw, QTrace E ops g σ0 (l.take i) env (tr.take i) envi ∧ tr[i]? = some (v, nw) ∧ QStep E ops g σ0 o envi v nw := by
  induction h with
  | nil => intro i o h; simp at h
  | cons hs _ ih =>
    intro i o ho
    cases i with
    | zero => simp only [List.getElem?_cons_zero, Option.some.injEq] at ho; subst ho; exact ⟨_, _, _, .nil, rfl, hs⟩
    | succ i =>
      obtain ⟨envi, v, nw, h1, h2, h3⟩ := ih i o (by simpa using ho)
      exact ⟨envi, v, nw, .cons hs h1, h2, h3⟩

theorem QTrace.env {l : List Oper} {env env' : List (Nat × D)} {tr : List (D × Sto)} (h : QTrace E ops g σ0 l env tr env') (t : Nat) :
    (∃ (j : Nat) (o : Oper) (v : D) (nw : Sto), l[j]? = some o ∧ o.dst = some t ∧ tr[j]? = some (v, nw) ∧ lk env' t = some v) ∨ ((∀ (j : Nat) o, l[j]? = some o → o.dst ≠ some t) ∧ lk env' t = lk env t) := by
  induction h with
  | nil => exact .inr ⟨fun j o h => by simp at h, rfl⟩
  | cons hs _ ih =>
    rename_i o r env env' v nw tr _
    rcases ih with ⟨j, o', v', nw', h1, h2, h3, h4⟩ | ⟨h1, h2⟩
    · exact .inl ⟨j + 1, o', v', nw', by simpa using h1, h2, by simpa using h3, h4⟩
    · by_cases hd : o.dst = some t
      · refine .inl ⟨0, o, v, nw, rfl, hd, rfl, ?_⟩
        rw [h2, hd]
        simp [putE, lk]
      · refine .inr ⟨fun j o' ho => ?_, ?_⟩
        · cases j with
          | zero => simp only [List.getElem?_cons_zero, Option.some.injEq] at ho; subst ho; exact hd
          | succ j => exact h1 j o' (by simpa using ho)
        · rw [h2]
          cases hx : o.dst with
          | none => rfl
          | some d =>
            simp only [putE, lk]
            rw [if_neg (fun e => hd (by rw [hx, e]))]

/-- The objects when the operations in 'L' have come up. -/
def kapp (L : Nat → Bool) : Nat → List (D × Sto) → Kp → Kp
  | _, [], κ => κ
  | k, (_, nw) :: r, κ => kapp L (k + 1) r (if L k then Kp.or (get nw) κ else κ)

def Dis (a b : Kp) : Prop := ∀ n, a n = none ∨ b n = none

theorem or_comm' {a b κ : Kp} (h : Dis a b) : Kp.or a (Kp.or b κ) = Kp.or b (Kp.or a κ) := by
  funext n
  unfold Kp.or
  rcases h n with h | h <;> simp [h]

theorem kapp_or (L : Nat → Bool) (a : Kp) : ∀ (k : Nat) (tr : List (D × Sto)) (κ : Kp), (∀ p ∈ tr, Dis a (get p.2)) → kapp L k tr (Kp.or a κ) = Kp.or a (kapp L k tr κ)
  | _, [], _, _ => rfl
  | k, (v, nw) :: r, κ, h => by
    simp only [kapp]
    split
    · rw [← or_comm' (h (v, nw) List.mem_cons_self), kapp_or L a (k + 1) r _ fun p hp => h p (List.mem_cons_of_mem _ hp)]
    · exact kapp_or L a (k + 1) r κ fun p hp => h p (List.mem_cons_of_mem _ hp)

theorem kapp_congr {L L' : Nat → Bool} : ∀ (k : Nat) (tr : List (D × Sto)) (κ : Kp), (∀ j, k ≤ j → L j = L' j) → kapp L k tr κ = kapp L' k tr κ
  | _, [], _, _ => rfl
  | k, (_, _) :: r, κ, h => by
    simp only [kapp, h k (Nat.le_refl _)]
    exact kapp_congr (k + 1) r _ fun j hj => h j (by omega)

theorem kapp_put {L L' : Nat → Bool} {i : Nat} (hi : L i = false) (hi' : L' i = true) (ho : ∀ j, j ≠ i → L' j = L j) : ∀ (k : Nat) (tr : List (D × Sto)) (κ : Kp) (v : D) (nw : Sto), k ≤ i → tr[i - k]? = some (v, nw) →
    (∀ (j : Nat) p, tr[j]? = some p → k + j ≠ i → Dis (get nw) (get p.2)) → kapp L' k tr κ = Kp.or (get nw) (kapp L k tr κ)
  | k, [], κ, v, nw, _, h, _ => by simp at h
  | k, (v0, nw0) :: r, κ, v, nw, hk, h, hd => by
    simp only [kapp]
    by_cases he : k = i
    · subst he
      simp only [Nat.sub_self, List.getElem?_cons_zero, Option.some.injEq, Prod.mk.injEq] at h
      obtain ⟨rfl, rfl⟩ := h
      rw [hi, hi']
      simp only [if_true, Bool.false_eq_true, if_false]
      rw [kapp_congr (L' := L) (k + 1) r _ fun j hj => ho j (by omega)]
      refine kapp_or L _ (k + 1) r κ fun p hp => ?_
      obtain ⟨j, hj⟩ := List.mem_iff_getElem?.1 hp
      exact hd (j + 1) p (by simpa using hj) (by omega)
    · rw [ho k he]
      rw [show i - k = (i - (k + 1)) + 1 by omega, List.getElem?_cons_succ] at h
      have ih := fun κ' => kapp_put hi hi' ho (k + 1) r κ' v nw (by omega) h (fun j p hj hne => hd (j + 1) p (by simpa using hj) (by omega))
      split
      · rw [ih]
      · rw [ih]

theorem kapp_old {L : Nat → Bool} {n : Nm} : ∀ (k : Nat) (tr : List (D × Sto)) (κ : Kp), (∀ p ∈ tr, get p.2 n = none) → kapp L k tr κ n = κ n
  | _, [], _, _ => rfl
  | k, (v, nw) :: r, κ, h => by
    simp only [kapp]
    rw [kapp_old (k + 1) r _ fun p hp => h p (List.mem_cons_of_mem _ hp)]
    split
    · unfold Kp.or
      rw [h (v, nw) List.mem_cons_self]
      simp
    · rfl

theorem kapp_all {L : Nat → Bool} : ∀ (k : Nat) (tr : List (D × Sto)) (σ : Sto), (∀ j, k ≤ j → j < k + tr.length → L j = true) → kapp L k tr (get σ) = get (accN tr σ)
  | _, [], _, _ => rfl
  | k, (v, nw) :: r, σ, h => by
    simp only [kapp, accN]
    rw [h k (Nat.le_refl _) (by simp), if_pos rfl, ← get_append]
    exact kapp_all (k + 1) r _ fun j h1 h2 => h j (by omega) (by simp; omega)

theorem kapp_none {L : Nat → Bool} : ∀ (k : Nat) (tr : List (D × Sto)) (κ : Kp), (∀ j, L j = false) → kapp L k tr κ = κ
  | _, [], _, _ => rfl
  | k, (v, nw) :: r, κ, h => by
    simp only [kapp]
    rw [h k]
    exact kapp_none (k + 1) r _ h

end
end Go.Ab
