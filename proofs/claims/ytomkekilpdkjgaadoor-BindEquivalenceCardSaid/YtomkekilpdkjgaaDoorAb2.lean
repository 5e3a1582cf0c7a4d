/- A part of the proof, under no conditions of its own: Ab2. -/
import Derived.Test.YtomkekilpdkjgaaDoorAb1
/-
  Abstract states, and the rules of code over them.
-/
namespace Go.Ab
open Go Go.RowKit

structure Ctx where
  P : Program
  A : World → Prop
  glob : Nat → D
  hglob : ∀ w0, A w0 → ∀ G w, WF w0 G w → ∀ g, V G w (.pointer (some ⟨g, 0, none⟩)) (glob g)
  mixed : P.follows .mixedOrders = true

structure St where
  env : List (Nat × D)
  σ : Sto

def lk : List (Nat × D) → Nat → Option D
  | [], _ => none
  | (k, d) :: r, t => if k = t then some d else lk r t

def ofV : Value → D
  | .agg cs => .agg (cs.toList.map .val)
  | v => .val v

def ev (E : Ctx) (env : List (Nat × D)) : Operand → D
  | .tmp t => (lk env t).getD .any
  | .const v => ofV v
  | .global g => E.glob g
  | .func f => .func (.func f) [] []

theorem V.ofV (G : Gh) (w : World) (v : Value) : V G w v (ofV v) := by
  cases v with
  | agg cs =>
    refine .agg (by simp) fun i c d hc hd => ?_
    simp only [List.getElem?_map, Array.getElem?_toList, hc, Option.map_some, Option.some.injEq] at hd
    subst hd
    exact .val c
  | _ => exact .val _

structure Rel (w0 : World) (G : Gh) (w : World) (a : Act) (st : St) : Prop where
  wf : WF w0 G w
  env : ∀ t d, lk st.env t = some d → t < a.tmps.size ∧ V G w (a.tmps.getD t undef) d
  objs : Objs w0 G w (get st.σ)
  defers : a.defers = []

theorem Rel.ev {E : Ctx} {w0 : World} (hA : E.A w0) {G : Gh} {w : World} {a : Act} {st : St} (h : Rel w0 G w a st) (x : Operand) : V G w (a.eval x) (ev E st.env x) := by
  cases x with
  | tmp t =>
    simp only [Act.eval, Ab.ev]
    cases hl : lk st.env t with
    | none => exact .any _
    | some d => exact (h.env t d hl).2
  | const v => exact V.ofV G w v
  | global g => exact E.hglob w0 hA G w h.wf g
  | func f => exact .func rfl rfl (by simp) (by simp)

/-- What a piece of code leaves, in the terms of the model. -/
def post (w0 : World) (N : Nat) (R : Nm → Prop) (G : Gh) (w : World) (σ : Sto) (Q : Exit → St → Prop) : Exit → Act → World → Prop :=
  fun e a' w' => ∃ G' st', a'.tmps.size = N ∧ Rel w0 G' w' a' st' ∧ Step R G w (get σ) G' w' (get st'.σ) ∧ Q e st'

def no : Nm → Prop := fun _ => False

def AWp (E : Ctx) (N : Nat) (c : Code) (Q : Exit → St → Prop) (st : St) : Prop :=
  ∀ w0, E.A w0 → ∀ G w a, a.tmps.size = N → Rel w0 G w a st → c.wp E.P (post w0 N no G w st.σ Q) a w

def thenQ (K : St → Prop) (Q : Exit → St → Prop) : Exit → St → Prop
  | .normal, st => K st
  | e, st => Q e st

def blockQ (id : Nat) (Q : Exit → St → Prop) : Exit → St → Prop
  | .exit id', st => if id' = id then Q .normal st else Q (.exit id') st
  | e, st => Q e st

section
variable {E : Ctx} {N : Nat} {Q : Exit → St → Prop} {st : St}

theorem AWp.mono {c : Code} {Q' : Exit → St → Prop} (h : AWp E N c Q st) (hq : ∀ e s, Q e s → Q' e s) : AWp E N c Q' st :=
  fun w0 hA G w a hN hr => wp_mono (h w0 hA G w a hN hr) fun _ _ _ ⟨G', st', h1, h2, h3, h4⟩ => ⟨G', st', h1, h2, h3, hq _ _ h4⟩

theorem awp_skip (h : Q .normal st) : AWp E N .skip Q st :=
  fun _ _ G _ _ hN hr => wp_skip ⟨G, st, hN, hr, .refl _ _ _ _, h⟩

theorem awp_ret (h : Q .ret st) : AWp E N .ret Q st :=
  fun _ _ G _ _ hN hr => wp_ret ⟨G, st, hN, hr, .refl _ _ _ _, h⟩

theorem awp_exit {id : Nat} (h : Q (.exit id) st) : AWp E N (.exit id) Q st :=
  fun _ _ G _ _ hN hr => wp_exit ⟨G, st, hN, hr, .refl _ _ _ _, h⟩

theorem awp_seq {x y : Code} (h : AWp E N x (thenQ (AWp E N y Q) Q) st) : AWp E N (.seq x y) Q st := by
  intro w0 hA G w a hN hr
  refine wp_seq (wp_mono (h w0 hA G w a hN hr) ?_)
  rintro e a' w' ⟨G', st', h1, h2, h3, h4⟩
  cases e with
  | normal =>
    exact wp_mono (h4 w0 hA G' w' a' h1 h2) fun _ _ _ ⟨G2, s2, k1, k2, k3, k4⟩ => ⟨G2, s2, k1, k2, h3.trans k3, k4⟩
  | _ => exact ⟨G', st', h1, h2, h3, h4⟩

/-- What follows stays behind a name. -/
theorem awp_seq_k {x y : Code} (h : ∀ K : St → Prop, (∀ s, AWp E N y Q s → K s) → AWp E N x (thenQ K Q) st) : AWp E N (.seq x y) Q st :=
  awp_seq (h _ fun _ h => h)

theorem awp_cond {c : Operand} {x y : Code} {b : Bool} (hc : ev E st.env c = .val (.bool b)) (h : AWp E N (if b then x else y) Q st) : AWp E N (.cond c x y) Q st := by
  intro w0 hA G w a hN hr
  have hv := hr.ev hA c
  rw [hc] at hv
  exact wp_cond (V.of_val hv) (h w0 hA G w a hN hr)

theorem awp_block {id : Nat} {c : Code} (h : AWp E N c (blockQ id Q) st) : AWp E N (.block id c) Q st := by
  intro w0 hA G w a hN hr
  refine wp_block (wp_mono (h w0 hA G w a hN hr) ?_)
  rintro e a' w' ⟨G', st', h1, h2, h3, h4⟩
  cases e with
  | exit id' =>
    simp only [blockQ] at h4
    simp only [Exit.inBlock]
    split
    · rename_i he; rw [if_pos he] at h4; exact ⟨G', st', h1, h2, h3, h4⟩
    · rename_i he; rw [if_neg he] at h4; exact ⟨G', st', h1, h2, h3, h4⟩
  | _ => exact ⟨G', st', h1, h2, h3, h4⟩

/-- A loop: 'I n st': what holds at a round's head, with at most n rounds to come. -/
theorem awp_loop {c : Code} (I : Nat → St → Prop) (n : Nat) (h0 : I n st) (round : ∀ n s, I n s → AWp E N c (thenQ (fun s' => ∃ m, m < n ∧ I m s') Q) s) : AWp E N (.loop c) Q st := by
  intro w0 hA G w a hN hr b k cs
  have key : ∀ n G1 w1 a1 s1, I n s1 → a1.tmps.size = N → Rel w0 G1 w1 a1 s1 → Step no G w (get st.σ) G1 w1 (get s1.σ) →
      ∃ e a' w', post w0 N no G w st.σ Q e a' w' ∧ Arrives E.P (lone (b.at a1 (.code c :: .inLoop c :: k)) cs w1) b k cs e a' w' := by
    intro n
    induction n using Nat.strongRecOn with
    | _ n ih =>
      intro G1 w1 a1 s1 hI hN1 hr1 hs1
      obtain ⟨e, a2, w2, ⟨G2, s2, hN2, hr2, hs2, hq⟩, harr⟩ := round n s1 hI w0 hA G1 w1 a1 hN1 hr1 b (.inLoop c :: k) cs
      cases e with
      | normal =>
        obtain ⟨m, hm, hI2⟩ := hq
        obtain ⟨e3, a3, w3, hq3, harr3⟩ := ih m hm G2 w2 a2 s2 hI2 hN2 hr2 (hs1.trans hs2)
        exact ⟨e3, a3, w3, hq3, .of_steps (Steps.trans harr (.one step_inLoop)) harr3⟩
      | exit id => exact ⟨_, a2, w2, ⟨G2, s2, hN2, hr2, hs1.trans hs2, hq⟩, .pass (x := .inLoop c) rfl (fun _ _ => .inl (by simp)) harr⟩
      | goto l => exact ⟨_, a2, w2, ⟨G2, s2, hN2, hr2, hs1.trans hs2, hq⟩, .pass (x := .inLoop c) rfl (fun _ _ => .inl (by simp)) harr⟩
      | ret => exact ⟨_, a2, w2, ⟨G2, s2, hN2, hr2, hs1.trans hs2, hq⟩, .pass (x := .inLoop c) rfl (fun _ _ => .inl (by simp)) harr⟩
      | panic ch => exact ⟨_, a2, w2, ⟨G2, s2, hN2, hr2, hs1.trans hs2, hq⟩, .pass (x := .inLoop c) rfl (fun _ _ => .inl (by simp)) harr⟩
      | outgrown => exact ⟨_, a2, w2, ⟨G2, s2, hN2, hr2, hs1.trans hs2, hq⟩, .pass (x := .inLoop c) rfl (fun _ _ => .inl (by simp)) harr⟩
  obtain ⟨e, a', w', hq, harr⟩ := key n G w a st h0 hN hr (.refl _ _ _ _)
  exact ⟨e, a', w', hq, .of_steps (.one step_loop) harr⟩

/-- Another view of the same moment. -/
def Sees (E : Ctx) (st : St) (K : St → Prop) : Prop :=
  ∀ w0, E.A w0 → ∀ G w a, Rel w0 G w a st → ∃ G' st', Rel w0 G' w a st' ∧ Step no G w (get st.σ) G' w (get st'.σ) ∧ K st'

theorem Sees.awp {c : Code} (h : Sees E st (AWp E N c Q)) : AWp E N c Q st := by
  intro w0 hA G w a hN hr
  obtain ⟨G', st', h1, h2, h3⟩ := h w0 hA G w a hr
  exact wp_mono (h3 w0 hA G' w a hN h1) fun _ _ _ ⟨G2, s2, k1, k2, k3, k4⟩ => ⟨G2, s2, k1, k2, h2.trans k3, k4⟩

/-- At an end, too, the state may be seen otherwise. -/
theorem AWp.after {c : Code} {Q' : Exit → St → Prop} (h : AWp E N c Q st) (hq : ∀ e s, Q e s → Sees E s (Q' e)) : AWp E N c Q' st := by
  intro w0 hA G w a hN hr
  refine wp_mono (h w0 hA G w a hN hr) fun e a' w' ⟨G', st', h1, h2, h3, h4⟩ => ?_
  obtain ⟨G2, s2, k1, k2, k3⟩ := hq e st' h4 w0 hA G' w' a' h2
  exact ⟨G2, s2, h1, k1, h3.trans k2, k3⟩

theorem Sees.of {K : St → Prop} (h : K st) : Sees E st K := fun _ _ G _ _ hr => ⟨G, st, hr, .refl _ _ _ _, h⟩

theorem Sees.mono {K K' : St → Prop} (h : Sees E st K) (hk : ∀ s, K s → K' s) : Sees E st K' :=
  fun w0 hA G w a hr => let ⟨G', s', h1, h2, h3⟩ := h w0 hA G w a hr; ⟨G', s', h1, h2, hk _ h3⟩

theorem Sees.trans {K K' : St → Prop} (h : Sees E st K) (hk : ∀ s, K s → Sees E s K') : Sees E st K' := fun w0 hA G w a hr =>
  let ⟨G1, s1, h1, h2, h3⟩ := h w0 hA G w a hr
  let ⟨G2, s2, k1, k2, k3⟩ := hk s1 h3 w0 hA G1 w a h1
  ⟨G2, s2, k1, h2.trans k2, k3⟩

/-- A part of what is known. -/
def Le (st' st : St) : Prop := (∀ p ∈ st'.env, lk st.env p.1 = some p.2) ∧ (∀ p ∈ st'.σ, get st.σ p.1 = some p.2)

theorem mem_of_lk {l : List (Nat × D)} {t : Nat} {d : D} (h : lk l t = some d) : (t, d) ∈ l := by
  induction l with
  | nil => simp [lk] at h
  | cons p r ih =>
    obtain ⟨k, x⟩ := p
    simp only [lk] at h
    split at h
    · rename_i hk; subst hk; cases h; exact List.mem_cons_self
    · exact List.mem_cons_of_mem _ (ih h)

theorem mem_of_get {l : Sto} {n : Nm} {o : Ob} (h : get l n = some o) : (n, o) ∈ l := by
  induction l with
  | nil => simp [get] at h
  | cons p r ih =>
    obtain ⟨k, x⟩ := p
    simp only [get] at h
    split at h
    · rename_i hk; subst hk; cases h; exact List.mem_cons_self
    · exact List.mem_cons_of_mem _ (ih h)

theorem Step.drop {R : Nm → Prop} {G : Gh} {w : World} {κ κ' : Kp} (hs : ∀ n o, κ' n = some o → κ n = some o) : Step R G w κ G w κ' :=
  { Step.refl R G w κ with
    blk' := fun b ⟨n, o, v, h1, h2, h3⟩ => .inr ⟨n, o, v, hs n o h1, h2, h3⟩
    dom := fun n hn => by
      cases hk : κ' n with
      | none => exact absurd hk hn
      | some o => exact .inl (by rw [hs n o hk]; simp) }

theorem Sees.keep {K : St → Prop} {st' : St} (h : Le st' st) (hk : K st') : Sees E st K := by
  intro w0 _ G w a hr
  have hs : ∀ n o, get st'.σ n = some o → get st.σ n = some o := fun n o hn => h.2 (n, o) (mem_of_get hn)
  exact ⟨G, st', ⟨hr.wf, fun t d ht => hr.env t d (h.1 (t, d) (mem_of_lk ht)), hr.objs.sub hs, hr.defers⟩, .drop hs, hk⟩

end
end Go.Ab
