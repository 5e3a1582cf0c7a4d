/- A part of the proof, under no conditions of its own: Ab1. -/
import Derived.Calls
import Derived.Tactics
import Derived.Orders
import Derived.Below
import Derived.Laws.AppendOwn
import Derived.Laws.AppendOwnNone
/-
  Abstract values: what a value of the model denotes, and what of memory may still be written. No program is in sight here.
-/
namespace Go.Ab
open Go Go.RowKit

/-- The name of an object that may still be written. -/
structure Nm where
  g : Nat
  i : Nat
  j : Nat
  deriving DecidableEq

/-- What a value denotes. 'sl': a slice whose cells are never written again ('x': its capacity is its length). 'own': a whole array of the call's own. -/
inductive D where
  | any
  | val (v : Value)
  | agg (cs : List D)
  | tup (vs : List D)
  | sl (x : Bool) (rows : List D)
  | own (n : Nm) (len : Nat)
  | ptr (n : Nm) (off : Nat)
  | aptr (n : Nm) (k i j : Nat)
  | eptr (cs : List D)
  | mref (n : Nm)
  | func (fn : Fn) (first captured : List D)
  | iface (t : TypeId) (v : D)
  deriving Inhabited

def D.cells : D → List D
  | .agg cs => cs
  | d => [d]

/-- One cell, and known. -/
def D.one : D → Bool
  | .any | .agg _ | .tup _ => false
  | .val v => v.oneCell'
  | _ => true

inductive Ob where
  | box (t : TypeId) (cs : List D)
  | arr (t : TypeId) (k : Nat) (rows : List D)

abbrev Sto := List (Nm × Ob)

def get : Sto → Nm → Option Ob
  | [], _ => none
  | (m, o) :: r, n => if m = n then some o else get r n

structure Gh where
  F : Nat → Prop
  ρ : Nm → Option Value
  top : Nat

inductive V (G : Gh) (w : World) : Value → D → Prop
  | any (v : Value) : V G w v .any
  | val (v : Value) : V G w v (.val v)
  | agg {cs : Array Value} {ds : List D} : cs.size = ds.length → (∀ (i : Nat) c d, cs[i]? = some c → ds[i]? = some d → V G w c d) → V G w (.agg cs) (.agg ds)
  | tup {cs : Array Value} {ds : List D} : cs.size = ds.length → (∀ (i : Nat) c d, cs[i]? = some c → ds[i]? = some d → V G w c d) → V G w (.tuple cs) (.tup ds)
  | nilsl (x : Bool) : V G w (.slice none 0 0) (.sl x [])
  | esl (a : Addr) (x : Bool) : V G w (.slice (some a) 0 0) (.sl x [])
  | sl {b off n cap : Nat} {x : Bool} {rows : List D} {k : Nat} (X : Nat → Nat → Value) : n = rows.length → (x = true → cap = n) → n ≤ cap → G.F b →
      (∀ (i : Nat) r, rows[i]? = some r → r.cells.length = k) →
      (∀ (i : Nat) r (j : Nat) d, rows[i]? = some r → r.cells[j]? = some d → w.cell? ⟨b, off + (i * k + j), none⟩ = some (X i j)) →
      (∀ (i : Nat) r (j : Nat) d, rows[i]? = some r → r.cells[j]? = some d → V G w (X i j) d) → V G w (.slice (some ⟨b, off, none⟩) n cap) (.sl x rows)
  | own {n : Nm} {a : Option Addr} {len cap : Nat} : G.ρ n = some (.slice a len cap) → V G w (.slice a len cap) (.own n len)
  | ptr {n : Nm} {b off : Nat} : G.ρ n = some (.pointer (some ⟨b, 0, none⟩)) → V G w (.pointer (some ⟨b, off, none⟩)) (.ptr n off)
  | aptr {n : Nm} {b len cap k i j : Nat} : G.ρ n = some (.slice (some ⟨b, 0, none⟩) len cap) → V G w (.pointer (some ⟨b, i * k + j, none⟩)) (.aptr n k i j)
  | eptr {b off : Nat} {cs : List D} (X : Nat → Value) : G.F b → (∀ (j : Nat) d, cs[j]? = some d → w.cell? ⟨b, off + j, none⟩ = some (X j)) →
      (∀ (j : Nat) d, cs[j]? = some d → V G w (X j) d) → V G w (.pointer (some ⟨b, off, none⟩)) (.eptr cs)
  | mref {n : Nm} {r : Nat} : G.ρ n = some (.map (some r)) → V G w (.map (some r)) (.mref n)
  | func {fn : Fn} {first captured : Array Value} {fs cs : List D} : first.size = fs.length → captured.size = cs.length →
      (∀ (i : Nat) c d, first[i]? = some c → fs[i]? = some d → V G w c d) → (∀ (i : Nat) c d, captured[i]? = some c → cs[i]? = some d → V G w c d) → V G w (.func fn first captured) (.func fn fs cs)
  | iface {t : TypeId} {v : Value} {d : D} : V G w v d → V G w (.iface t v) (.iface t d)

theorem V.mono {G G' : Gh} {w w' : World} {v : Value} {d : D} (h : V G w v d) (hF : ∀ b, G.F b → G'.F b) (hw : ∀ b, G.F b → w'.heap[b]? = w.heap[b]?)
    (hρ : ∀ n v, G.ρ n = some v → G'.ρ n = some v) : V G' w' v d := by
  induction h with
  | any v => exact .any v
  | val v => exact .val v
  | agg h1 _ ih => exact .agg h1 ih
  | tup h1 _ ih => exact .tup h1 ih
  | nilsl x => exact .nilsl x
  | esl a x => exact .esl a x
  | sl X h1 h2 h3 h4 h5 h6 _ ih =>
    exact .sl X h1 h2 h3 (hF _ h4) h5 (fun i r j d hi hj => (World.cell?_of_block (hw _ h4)).trans (h6 i r j d hi hj)) ih
  | own h1 => exact .own (hρ _ _ h1)
  | ptr h1 => exact .ptr (hρ _ _ h1)
  | aptr h1 => exact .aptr (hρ _ _ h1)
  | eptr X h1 h2 _ ih => exact .eptr X (hF _ h1) (fun j d hj => (World.cell?_of_block (hw _ h1)).trans (h2 j d hj)) ih
  | mref h1 => exact .mref (hρ _ _ h1)
  | func h1 h2 _ _ ih1 ih2 => exact .func h1 h2 ih1 ih2
  | iface _ ih => exact .iface ih

theorem V.one {G : Gh} {w : World} {v : Value} {d : D} (h : V G w v d) (h1 : d.one = true) : v.oneCell' = true := by
  cases h <;> simp_all [D.one, Value.oneCell']

theorem V.of_val {G : Gh} {w : World} {v u : Value} (h : V G w v (.val u)) : v = u := by cases h; rfl

/-- The block that a location lies in. -/
def blk : Value → Option Nat
  | .pointer (some a) => some a.block
  | .slice (some a) _ _ => some a.block
  | .map (some r) => some r
  | _ => none

abbrev Kp := Nm → Option Ob

def OV (w0 : World) (G : Gh) (w : World) (v : Value) : Ob → Prop
  | .box t cs => ∃ b c, v = .pointer (some ⟨b, 0, none⟩) ∧ w.heap[b]? = some (.cells c t (0, 0)) ∧ c.size = cs.length ∧ ∀ (i : Nat) x d, c[i]? = some x → cs[i]? = some d → V G w x d
  | .arr t k rows => ∃ xs, w.ownsRow w0.heap.size t k v rows.length xs ∧ ∀ (i : Nat) r, rows[i]? = some r → r.cells.length = k ∧ ∀ (j : Nat) d, r.cells[j]? = some d → ∃ x, xs[i * k + j]? = some x ∧ V G w x d

structure WF (w0 : World) (G : Gh) (w : World) : Prop where
  below : Below w0.heap.size w0 w
  old : ∀ b, b < w0.heap.size → G.F b
  lt : ∀ b, G.F b → b < w.heap.size
  nm : ∀ n v, G.ρ n = some v → n.g < G.top ∧ ∀ b, blk v = some b → w0.heap.size ≤ b ∧ b < w.heap.size

structure Objs (w0 : World) (G : Gh) (w : World) (κ : Kp) : Prop where
  ob : ∀ n o, κ n = some o → ∃ v, G.ρ n = some v ∧ OV w0 G w v o ∧ ∀ b, blk v = some b → ¬ G.F b
  ne : ∀ n m o o' v v' b, κ n = some o → κ m = some o' → n ≠ m → G.ρ n = some v → G.ρ m = some v' → blk v = some b → blk v' ≠ some b

def Blk (G : Gh) (κ : Kp) (b : Nat) : Prop := ∃ n o v, κ n = some o ∧ G.ρ n = some v ∧ blk v = some b

/-- From one moment to a later one. 'R': the names that may be given meanwhile although they are old ones. -/
structure Step (R : Nm → Prop) (G : Gh) (w : World) (κ : Kp) (G' : Gh) (w' : World) (κ' : Kp) : Prop where
  size : w.heap.size ≤ w'.heap.size
  heap : ∀ b, b < w.heap.size → ¬ Blk G κ b → w'.heap[b]? = w.heap[b]?
  F : ∀ b, G.F b → G'.F b
  F' : ∀ b, G'.F b → G.F b ∨ w.heap.size ≤ b ∨ Blk G κ b
  ρ : ∀ n v, G.ρ n = some v → G'.ρ n = some v
  ρ' : ∀ n, n.g < G.top → G.ρ n = none → ¬ R n → G'.ρ n = none
  top : G.top ≤ G'.top
  blk' : ∀ b, Blk G' κ' b → w.heap.size ≤ b ∨ Blk G κ b
  dom : ∀ n, κ' n ≠ none → κ n ≠ none ∨ G.ρ n = none

theorem Step.refl (R : Nm → Prop) (G : Gh) (w : World) (κ : Kp) : Step R G w κ G w κ :=
  ⟨Nat.le_refl _, fun _ _ _ => rfl, fun _ h => h, fun _ h => .inl h, fun _ _ h => h, fun _ _ h _ => h, Nat.le_refl _, fun _ h => .inr h, fun _ h => .inl h⟩

theorem Step.trans {R : Nm → Prop} {G1 G2 G3 : Gh} {w1 w2 w3 : World} {κ1 κ2 κ3 : Kp} (h : Step R G1 w1 κ1 G2 w2 κ2) (k : Step R G2 w2 κ2 G3 w3 κ3) : Step R G1 w1 κ1 G3 w3 κ3 where
  size := Nat.le_trans h.size k.size
  heap b hb hn := (k.heap b (Nat.lt_of_lt_of_le hb h.size) fun hk => (h.blk' b hk).elim (fun x => absurd hb (by omega)) hn).trans (h.heap b hb hn)
  F b hb := k.F b (h.F b hb)
  F' b hb := by
    rcases k.F' b hb with h1 | h1 | h1
    · exact h.F' b h1
    · exact .inr (.inl (Nat.le_trans h.size h1))
    · exact .inr (h.blk' b h1)
  ρ n v hv := k.ρ n v (h.ρ n v hv)
  ρ' n h1 h2 h3 := k.ρ' n (Nat.lt_of_lt_of_le h1 h.top) (h.ρ' n h1 h2 h3) h3
  top := Nat.le_trans h.top k.top
  blk' b hb := by
    rcases k.blk' b hb with h1 | h1
    · exact .inl (Nat.le_trans h.size h1)
    · exact h.blk' b h1
  dom n hn := by
    rcases k.dom n hn with h1 | h1
    · exact h.dom n h1
    · refine .inr ?_
      cases hr : G1.ρ n with
      | none => rfl
      | some v => rw [h.ρ n v hr] at h1; cases h1

theorem Step.weaken {R R' : Nm → Prop} {G G' : Gh} {w w' : World} {κ κ' : Kp} (h : Step R G w κ G' w' κ') (hR : ∀ n, n.g < G.top → R n → R' n) : Step R' G w κ G' w' κ' :=
  { h with ρ' := fun n h1 h2 h3 => h.ρ' n h1 h2 fun h4 => h3 (hR n h1 h4) }

theorem Step.keeps {R : Nm → Prop} {w0 : World} {G G' : Gh} {w w' : World} {κ κ' : Kp} (h : Step R G w κ G' w' κ') (hw : WF w0 G w) (ho : Objs w0 G w κ) (b : Nat) (hb : G.F b) : w'.heap[b]? = w.heap[b]? :=
  h.heap b (hw.lt b hb) fun ⟨n, o, v, h1, h2, h3⟩ => by
    obtain ⟨v', hv', _, hF⟩ := ho.ob n o h1
    rw [h2] at hv'; cases hv'
    exact hF b h3 hb

theorem V.step {R : Nm → Prop} {w0 : World} {G G' : Gh} {w w' : World} {κ κ' : Kp} {v : Value} {d : D} (h : V G w v d) (hs : Step R G w κ G' w' κ') (hw : WF w0 G w) (ho : Objs w0 G w κ) : V G' w' v d :=
  h.mono hs.F (hs.keeps hw ho) hs.ρ

theorem OV.mono {w0 : World} {G G' : Gh} {w w' : World} {v : Value} {o : Ob} (h : OV w0 G w v o) (hV : ∀ x d, V G w x d → V G' w' x d) (hb : ∀ b, blk v = some b → w'.heap[b]? = w.heap[b]?) : OV w0 G' w' v o := by
  cases o with
  | box t cs =>
    obtain ⟨b, c, rfl, h1, h2, h3⟩ := h
    exact ⟨b, c, rfl, (hb b rfl).trans h1, h2, fun i x d hx hd => hV _ _ (h3 i x d hx hd)⟩
  | arr t k rows =>
    obtain ⟨xs, h1, h2⟩ := h
    refine ⟨xs, ⟨h1.1, ?_⟩, fun i r hr => ⟨(h2 i r hr).1, fun j d hd => let ⟨x, hx, hv⟩ := (h2 i r hr).2 j d hd; ⟨x, hx, hV _ _ hv⟩⟩⟩
    rcases h1.2 with h | ⟨g, cap, cur, rfl, hg, hh, r⟩
    · exact .inl h
    · exact .inr ⟨g, cap, cur, rfl, hg, (hb g rfl).trans hh, r⟩

theorem OV.lt {w0 : World} {G : Gh} {w : World} {v : Value} {o : Ob} (h : OV w0 G w v o) : ∀ b, blk v = some b → b < w.heap.size := by
  intro b hb
  cases o with
  | box t cs =>
    obtain ⟨b', c, rfl, h1, _⟩ := h
    simp [blk] at hb; subst hb
    exact (Array.getElem?_eq_some_iff.1 h1).1
  | arr t k rows =>
    obtain ⟨xs, h1, _⟩ := h
    refine (h1.lt b ?_).2
    rcases h1.2 with ⟨rfl, _⟩ | ⟨g, cap, cur, rfl, _⟩
    · simp [blk] at hb
    · simpa [blk, Value.ownBlock] using hb

theorem Objs.sub {w0 : World} {G : Gh} {w : World} {κ κ' : Kp} (h : Objs w0 G w κ) (hs : ∀ n o, κ' n = some o → κ n = some o) : Objs w0 G w κ' :=
  ⟨fun n o hn => h.ob n o (hs n o hn), fun n m o o' v v' b h1 h2 => h.ne n m o o' v v' b (hs _ _ h1) (hs _ _ h2)⟩

/-- Two stores side by side: the first one's objects win. -/
def Kp.or (κ τ : Kp) : Kp := fun n => (κ n).or (τ n)

/-- A step on a part of the objects is one on all: the others stay. -/
theorem frame {w0 : World} {R : Nm → Prop} {G G' : Gh} {w w' : World} {κs κs' κ τ : Kp} (hw : WF w0 G w) (hall : Objs w0 G w κ)
    (hsub : ∀ n o, κs n = some o → κ n = some o) (hτ : ∀ n o, τ n = some o → κ n = some o ∧ κs n = none) 
    (hs : Step R G w κs G' w' κs') (ho : Objs w0 G' w' κs') : Objs w0 G' w' (Kp.or κs' τ) ∧ Step R G w κ G' w' (Kp.or κs' τ) := by
  have hos : Objs w0 G w κs := hall.sub hsub
  have hblk : ∀ b, Blk G κs b → Blk G κ b := fun b ⟨n, o, v, h1, h2, h3⟩ => ⟨n, o, v, hsub n o h1, h2, h3⟩
  -- a block of τ is no block of κs, and stays
  have key : ∀ n o v b, τ n = some o → G.ρ n = some v → blk v = some b → ¬ Blk G κs b := by
    intro n o v b hn hv hb ⟨m, o', v', h1, h2, h3⟩
    obtain ⟨hk, hno⟩ := hτ n o hn
    have hne : m ≠ n := fun e => by subst e; rw [h1] at hno; cases hno
    exact hall.ne m n o' o v' v b (hsub m o' h1) hk hne h2 hv h3 hb
  have keep : ∀ n o, τ n = some o → ∃ v, G.ρ n = some v ∧ G'.ρ n = some v ∧ OV w0 G' w' v o ∧ (∀ b, blk v = some b → b < w.heap.size ∧ ¬ G'.F b ∧ ¬ Blk G κs b) := by
    intro n o hn
    obtain ⟨hk, hno⟩ := hτ n o hn
    obtain ⟨v, hv, hov, hF⟩ := hall.ob n o hk
    have hb : ∀ b, blk v = some b → b < w.heap.size ∧ ¬ G'.F b ∧ ¬ Blk G κs b := fun b hb => by
      have hn' := key n o v b hn hv hb
      have hlt := hov.lt b hb
      refine ⟨hlt, fun h => ?_, hn'⟩
      rcases hs.F' b h with h1 | h1 | h1
      · exact hF b hb h1
      · omega
      · exact hn' h1
    exact ⟨v, hv, hs.ρ n v hv, hov.mono (fun x d hx => hx.step hs hw hos) fun b hb' => hs.heap b (hb b hb').1 (hb b hb').2.2, hb⟩
  have side : ∀ n o v b, κs' n = some o → G'.ρ n = some v → blk v = some b → w.heap.size ≤ b ∨ Blk G κs b := fun n o v b h1 h2 h3 => hs.blk' b ⟨n, o, v, h1, h2, h3⟩
  have split : ∀ n o, Kp.or κs' τ n = some o → κs' n = some o ∨ τ n = some o := by
    intro n o h
    unfold Kp.or at h
    cases hk : κs' n with
    | none => rw [hk] at h; exact .inr (by simpa using h)
    | some x => rw [hk] at h; exact .inl (by simpa using h)
  refine ⟨⟨fun n o hn => ?_, fun n m o o' v v' b h1 h2 hne h3 h4 h5 h6 => ?_⟩, ?_⟩
  · rcases split n o hn with h | h
    · exact ho.ob n o h
    · obtain ⟨v, _, hv', hov, hb⟩ := keep n o h
      exact ⟨v, hv', hov, fun b hb' => (hb b hb').2.1⟩
  · rcases split n o h1 with k1 | k1 <;> rcases split m o' h2 with k2 | k2
    · exact ho.ne n m o o' v v' b k1 k2 hne h3 h4 h5 h6
    · obtain ⟨u, hu, hu', _, hb⟩ := keep m o' k2
      rw [hu'] at h4; cases h4
      have := hb b h6
      rcases side n o v b k1 h3 h5 with h | h
      · omega
      · exact this.2.2 h
    · obtain ⟨u, hu, hu', _, hb⟩ := keep n o k1
      rw [hu'] at h3; cases h3
      have := hb b h5
      rcases side m o' v' b k2 h4 h6 with h | h
      · omega
      · exact this.2.2 h
    · obtain ⟨u, hu, hu', _, _⟩ := keep n o k1
      obtain ⟨u2, hu2, hu2', _, _⟩ := keep m o' k2
      rw [hu'] at h3; cases h3
      rw [hu2'] at h4; cases h4
      exact hall.ne n m o o' v v' b (hτ n o k1).1 (hτ m o' k2).1 hne hu hu2 h5 h6
  · refine ⟨hs.size, fun b hb hn => hs.heap b hb fun h => hn (hblk b h), hs.F, fun b hb => ?_, hs.ρ, hs.ρ', hs.top, fun b ⟨n, o, v, h1, h2, h3⟩ => ?_, fun n hn => ?_⟩
    · rcases hs.F' b hb with h | h | h
      · exact .inl h
      · exact .inr (.inl h)
      · exact .inr (.inr (hblk b h))
    · rcases split n o h1 with k | k
      · rcases side n o v b k h2 h3 with h | h
        · exact .inl h
        · exact .inr (hblk b h)
      · obtain ⟨u, hu, hu', _, _⟩ := keep n o k
        rw [hu'] at h2; cases h2
        exact .inr ⟨n, o, _, (hτ n o k).1, hu, h3⟩
    · cases hk : κs' n with
      | none =>
        have : τ n ≠ none := fun h => hn (by unfold Kp.or; rw [hk, h]; rfl)
        cases ht : τ n with
        | none => exact absurd ht this
        | some o => exact .inl (by rw [(hτ n o ht).1]; simp)
      | some o =>
        rcases hs.dom n (by rw [hk]; simp) with h | h
        · cases hx : κs n with
          | none => exact absurd hx h
          | some y => exact .inl (by rw [hsub n y hx]; simp)
        · exact .inr h

end Go.Ab
